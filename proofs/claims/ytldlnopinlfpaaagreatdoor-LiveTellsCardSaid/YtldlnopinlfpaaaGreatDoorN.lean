/-
  The closed cells that the two rows share, one by one, by the kernel.
  Conditions: none beyond those that the statements bear.
-/
import Derived.Test.YtldlnopinlfpaaaGreatDoorRows
import Derived.JoinedOf
import Derived.LaidByTextLater
import Derived.LaidOnce
import Derived.SevenTiedAt
import Derived.Test.YtldlnopinlfpaaaGreatDoorM
set_option maxRecDepth 100000

section
namespace Go.Proofs.YtldlnopinlfpaaaGreatDoor
open Go Go.Bel

theorem size : Tryz.prog.types.size = 864 := by kernel_rfl
theorem fine0 : (List.range' 0 173).all (rowFine Tryz.prog) = true := by kernel_rfl
theorem fine173 : (List.range' 173 173).all (rowFine Tryz.prog) = true := by kernel_rfl
theorem fine346 : (List.range' 346 173).all (rowFine Tryz.prog) = true := by kernel_rfl
theorem fine519 : (List.range' 519 173).all (rowFine Tryz.prog) = true := by kernel_rfl
theorem fine692 : (List.range' 692 172).all (rowFine Tryz.prog) = true := by kernel_rfl
theorem fine : (List.range Tryz.prog.types.size).all (rowFine Tryz.prog) = true := by
  refine all_range fun t ht => ?_
  rw [size] at ht
  rcases Nat.lt_or_ge t 173 with h0 | h0
  · exact of_part fine0 (Nat.zero_le t) h0
  rcases Nat.lt_or_ge t 346 with h1 | h1
  · exact of_part fine173 h0 h1
  rcases Nat.lt_or_ge t 519 with h2 | h2
  · exact of_part fine346 h1 h2
  rcases Nat.lt_or_ge t 692 with h3 | h3
  · exact of_part fine519 h2 h3
  exact of_part fine692 h3 ht
theorem gfine : Tryz.prog.globals.all (fun g => decide (g.type < Tryz.prog.types.size)) = true := by kernel_rfl
theorem pfine : Tryz.prog.funcs.all (fun f => f.params.all fun t => decide (t < Tryz.prog.types.size)) = true := by kernel_rfl
theorem j2 : laidOutB Tryz.prog = true := andI (andI fine gfine) pfine
theorem j3 : mapsRowed Tryz.prog = true := by kernel_rfl
theorem j7 : (Tryz.prog.stops == []) = true := by kernel_rfl
theorem j9 : (Tryz.prog.stopKnobs == []) = true := by kernel_rfl
theorem j25 : Tryz.prog.stopsHeard = true := by kernel_rfl
theorem j26 : Tryz.prog.mayEnter = true := by kernel_rfl
end Go.Proofs.YtldlnopinlfpaaaGreatDoor
end
