/-
  The kernel runs the rest of those calls, and works() over them.
  Conditions: none beyond those that the statements bear.
-/
import Derived.Test.YtldlnopinlfpaaaGreatDoorH
set_option maxRecDepth 100000

section
namespace Go.Bel
theorem kc6700 : c6700.run tab (summOf [c7116]) 100000 = true := by kernel_rfl
end Go.Bel
end

section
namespace Go.Bel
theorem kc7859 : c7859.run tab (summOf []) 100000 = true := by kernel_rfl
end Go.Bel
end

section
namespace Go.Bel
theorem kcW : cW.run tab (summOf [c110, c602, c1510, c1811, c1992, c2074, c4506, c6700, c7859]) 100000 = true := by kernel_rfl
end Go.Bel
end
