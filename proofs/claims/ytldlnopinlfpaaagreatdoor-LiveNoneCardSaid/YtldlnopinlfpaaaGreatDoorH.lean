/-
  This program's tables fit.
  Conditions: none beyond those that the statements bear.
-/
import Derived.KernelRfl
import Derived.Test.YtldlnopinlfpaaaGreatDoorProg
import Derived.Test.YtldlnopinlfpaaaGreatDoorG
set_option maxRecDepth 100000

section
namespace Go.Bel
noncomputable def tab : Tab := tabOf Go.Proofs.Tryz.prog [277, 54, 56, 58, 60, 62, 113, 663, 375]
theorem tabOk : TabOk tab := tabOk_of (by kernel_rfl) (by kernel_rfl) (by kernel_rfl)
end Go.Bel
end
