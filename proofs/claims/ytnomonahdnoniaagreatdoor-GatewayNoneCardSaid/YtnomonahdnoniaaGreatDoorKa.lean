/-
  The kernel runs nine of those calls.
  Conditions: none beyond those that the statements bear.
-/
import Derived.Test.YtnomonahdnoniaaGreatDoorH
set_option maxRecDepth 100000
namespace Go.Bel

section
theorem kc24 : c24.run tab (summOf []) 100000 = true := by kernel_rfl
end

section
theorem kc516 : c516.run tab (summOf []) 100000 = true := by kernel_rfl
end

section
theorem kc1624 : c1624.run tab (summOf []) 100000 = true := by kernel_rfl
end

section
theorem kc1494 : c1494.run tab (summOf [c1624]) 100000 = true := by kernel_rfl
end

section
theorem kc1847 : c1847.run tab (summOf []) 100000 = true := by kernel_rfl
end

section
theorem kc2080 : c2080.run tab (summOf []) 100000 = true := by kernel_rfl
end

section
theorem kc2341 : c2341.run tab (summOf []) 100000 = true := by kernel_rfl
end

section
theorem kc2214 : c2214.run tab (summOf [c2341]) 100000 = true := by kernel_rfl
end

section
theorem kc4641 : c4641.run tab (summOf []) 100000 = true := by kernel_rfl
end

end Go.Bel
