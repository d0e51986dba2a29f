/-
  The kernel runs the call of the head's reader.
  Conditions: none beyond those that the statements bear.
-/
import Derived.Test.YtnomonahdnoniaaGreatDoorH
set_option maxRecDepth 100000
namespace Go.Bel

section
theorem kc5090 : c5090.run tab (summOf []) 100000 = true := by kernel_rfl
end

end Go.Bel
