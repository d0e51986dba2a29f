/-
  The kernel runs three of those calls.
  Conditions: none beyond those that the statements bear.
-/
import Derived.Test.YtldlnopinlfpaaaGreatDoorH
set_option maxRecDepth 100000

section
namespace Go.Bel
theorem kc4922 : c4922.run tab (summOf []) 100000 = true := by kernel_rfl
end Go.Bel
end

section
namespace Go.Bel
theorem kc4506 : c4506.run tab (summOf [c4922]) 100000 = true := by kernel_rfl
end Go.Bel
end

section
namespace Go.Bel
theorem kc7116 : c7116.run tab (summOf []) 100000 = true := by kernel_rfl
end Go.Bel
end
