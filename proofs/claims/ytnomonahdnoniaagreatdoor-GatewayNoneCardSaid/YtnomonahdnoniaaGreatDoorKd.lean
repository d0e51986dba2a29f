/-
  The kernel runs the rest of those calls, and works() over them.
  Conditions: none beyond those that the statements bear.
-/
import Derived.Test.YtnomonahdnoniaaGreatDoorH
set_option maxRecDepth 100000
namespace Go.Bel

section
theorem kc11348 : c11348.run tab (summOf []) 100000 = true := by kernel_rfl
end

section
theorem kc11218 : c11218.run tab (summOf [c11348, c11613]) 100000 = true := by kernel_rfl
end

section
theorem kc13440 : c13440.run tab (summOf []) 100000 = true := by kernel_rfl
end

section
theorem kc14230 : c14230.run tab (summOf []) 100000 = true := by kernel_rfl
end

section
theorem kcW : cW.run tab (summOf [c24, c516, c1494, c1847, c2080, c2214, c4641, c5035, c11218, c13440, c14230]) 100000 = true := by kernel_rfl
end

end Go.Bel
