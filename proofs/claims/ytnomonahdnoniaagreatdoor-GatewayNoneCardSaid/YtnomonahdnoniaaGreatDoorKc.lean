/-
  The kernel runs two of those calls.
  Conditions: none beyond those that the statements bear.
-/
import Derived.Test.YtnomonahdnoniaaGreatDoorH
set_option maxRecDepth 100000
namespace Go.Bel

section
theorem kc5074 : c5074.run tab (summOf [c5090, c8238]) 100000 = true := by kernel_rfl
end

section
theorem kc5035 : c5035.run tab (summOf [c5074]) 100000 = true := by kernel_rfl
end

end Go.Bel
