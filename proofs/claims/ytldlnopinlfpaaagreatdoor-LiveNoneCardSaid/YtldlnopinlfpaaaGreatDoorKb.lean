/-
  The kernel runs four of those calls.
  Conditions: none beyond those that the statements bear.
-/
import Derived.Test.YtldlnopinlfpaaaGreatDoorH
set_option maxRecDepth 100000

section
namespace Go.Bel
theorem kc1811 : c1811.run tab (summOf []) 100000 = true := by kernel_rfl
end Go.Bel
end

section
namespace Go.Bel
theorem kc1992 : c1992.run tab (summOf []) 100000 = true := by kernel_rfl
end Go.Bel
end

section
namespace Go.Bel
theorem kc2201 : c2201.run tab (summOf []) 100000 = true := by kernel_rfl
end Go.Bel
end

section
namespace Go.Bel
theorem kc2074 : c2074.run tab (summOf [c2201]) 100000 = true := by kernel_rfl
end Go.Bel
end
