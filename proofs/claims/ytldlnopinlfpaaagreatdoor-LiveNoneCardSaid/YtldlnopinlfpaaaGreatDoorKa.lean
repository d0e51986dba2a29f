/-
  The kernel runs three of those calls.
  Conditions: none beyond those that the statements bear.
-/
import Derived.Test.YtldlnopinlfpaaaGreatDoorH
set_option maxRecDepth 100000

section
namespace Go.Bel
theorem kc110 : c110.run tab (summOf []) 100000 = true := by kernel_rfl
end Go.Bel
end

section
namespace Go.Bel
theorem kc602 : c602.run tab (summOf []) 100000 = true := by kernel_rfl
end Go.Bel
end

section
namespace Go.Bel
theorem kc1510 : c1510.run tab (summOf []) 100000 = true := by kernel_rfl
end Go.Bel
end
