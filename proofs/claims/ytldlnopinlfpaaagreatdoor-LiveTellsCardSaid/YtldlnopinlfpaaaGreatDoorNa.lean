/-
  The closed cells of the row LiveTells, one by one, by the kernel.
  Conditions: none beyond those that the statements bear.
-/
import Derived.Test.YtldlnopinlfpaaaGreatDoorRows
import Derived.JoinedOf
import Derived.LaidByTextLater
import Derived.LaidOnce
import Derived.SevenTiedAt
import Derived.Test.YtldlnopinlfpaaaGreatDoorN
set_option maxRecDepth 100000

section
namespace Go.Proofs.YtldlnopinlfpaaaGreatDoor
open Go Go.Bel

theorem liveTells_j1 : OpenClaim.wf (OpenSpec.ofChange Rows.liveTellsSpec) Rows.liveTellsRow = true := by kernel_rfl
theorem liveTells_j4 : (Tryz.f3.params.all (Tryz.prog.readableRec ·)) = true := by kernel_rfl
theorem liveTells_j5 : namedTie Tryz.prog Rows.liveTellsRow.named Rows.liveTellsSpec.vars = true := by kernel_rfl
theorem liveTells_j6 : (Rows.liveTellsRow.stops == []) = true := by kernel_rfl
theorem liveTells_j8 : (Rows.liveTellsRow.knobs == []) = true := by kernel_rfl
theorem liveTells_j14 : (Rows.liveTellsRow.maps == (Tryz.f3.params.toList ++ Rows.liveTellsSpec.plain.varTypes Tryz.prog).any (Tryz.prog.mapsRec ·)) = true := by kernel_rfl
theorem liveTells_j15 : (Rows.liveTellsRow.ifaces == (Tryz.f3.params.toList ++ Rows.liveTellsSpec.plain.varTypes Tryz.prog).any (Tryz.prog.ifacesRec ·)) = true := by kernel_rfl
theorem liveTells_j16 : (Rows.liveTellsRow.mapsOut == Tryz.prog.mapsAmong Tryz.f3.resultTypes.toList) = true := by kernel_rfl
theorem liveTells_j17 : (Rows.liveTellsRow.loops == (Tryz.f3.params.toList ++ Rows.liveTellsSpec.plain.varTypes Tryz.prog).any (Tryz.prog.loopsFrom ·)) = true := by kernel_rfl
theorem liveTells_j18 : (Rows.liveTellsRow.wideKeys == (Tryz.f3.params.toList ++ Rows.liveTellsSpec.plain.varTypes Tryz.prog ++ Tryz.f3.resultTypes.toList).any (Tryz.prog.wideKeysFrom ·)) = true := by kernel_rfl
theorem liveTells_j19 : Rows.liveTellsSpec.vars.all (Tryz.prog.varReadable ·) = true := by kernel_rfl
theorem liveTells_j20 : (Tryz.f3.resultTypes.all (fun t => Tryz.prog.readableRec t && decide (t < Tryz.prog.types.size))) = true := by kernel_rfl
theorem liveTells_j21 : (Rows.liveTellsRow.ifacesOut == Tryz.f3.resultTypes.toList.any (Tryz.prog.ifacesRec ·)) = true := by kernel_rfl
theorem liveTells_j22 : (Rows.liveTellsRow.loopsOut == Tryz.f3.resultTypes.toList.any (Tryz.prog.loopsFrom ·)) = true := by kernel_rfl
theorem liveTells_j23 : (Rows.liveTellsRow.plainKeys == Tryz.prog.plainKeys) = true := by kernel_rfl
theorem liveTells_j24 : Rows.liveTellsRow.shortTexts.isNone = true := by kernel_rfl
theorem liveTells_j27 : (Rows.liveTellsRow.lifted == Tryz.prog.liftsFinal) = true := by kernel_rfl
theorem liveTells_j28 : (Tryz.prog.make == some Rows.liveTellsRow.make) = true := by kernel_rfl
theorem liveTells_j29 : (Rows.liveTellsRow.kinds == (if Rows.liveTellsRow.domain.isEmpty then [] else Tryz.f3.params.toList.map fun t => match Tryz.prog.underlying t with | some (.int k) => some k | _ => Option.none)) = true := by kernel_rfl
theorem liveTells_j30 : (Rows.liveTellsRow.pinned == Rows.liveTellsRow.pinnedBy) = true := by kernel_rfl
theorem liveTells_j31 : (Rows.liveTellsRow.veiled == (Tryz.f3.params.toList ++ Rows.liveTellsSpec.plain.varTypes Tryz.prog ++ Tryz.f3.resultTypes.toList).any (Tryz.prog.veiledRec ·)) = true := by kernel_rfl
theorem liveTells_j32 : Rows.liveTellsRow.veiledFits Tryz.prog Tryz.f3.params.toList (Tryz.f3.params.toList ++ Rows.liveTellsSpec.plain.varTypes Tryz.prog ++ Tryz.f3.resultTypes.toList) = true := by kernel_rfl
theorem liveTells_j10 : (Rows.liveTellsRow.inPlace == Tryz.prog.inPlace 3) = true := beqI (inPlace_row rowsL_ok closure3) (by kernel_rfl)
theorem liveTells_unf : Tryz.prog.unfollowed 3 = true := unfollowed_of (g := 23) closure3 (by kernel_rfl) Tryz.func23 (by kernel_rfl)
theorem liveTells_j11 : (Rows.liveTellsRow.unfollowed == Tryz.prog.unfollowed 3) = true := beqI liveTells_unf (by kernel_rfl)
theorem liveTells_j12 : (Rows.liveTellsRow.recurses == Tryz.prog.recurses 3) = true := beqI (recurses_of liveTells_unf) (by kernel_rfl)
theorem liveTells_j13 : (Rows.liveTellsRow.named == Tryz.prog.varsNamed 3) = true := beqI (varsNamed_row rowsL_ok closure3) (by kernel_rfl)
theorem liveTells_joined : joinedFacts Tryz.prog 3 Tryz.f3 Rows.liveTellsSpec Rows.liveTellsRow = true := by
  unfold joinedFacts
  exact andI (andI (andI (andI (andI (andI (andI (andI (andI (andI (andI (andI (andI (andI (andI (andI (andI (andI (andI (andI (andI (andI (andI (andI (andI (andI (andI (andI (andI (andI (andI liveTells_j1 j2) j3) liveTells_j4) liveTells_j5) liveTells_j6) j7) liveTells_j8) j9) liveTells_j10) liveTells_j11) liveTells_j12) liveTells_j13) liveTells_j14) liveTells_j15) liveTells_j16) liveTells_j17) liveTells_j18) liveTells_j19) liveTells_j20) liveTells_j21) liveTells_j22) liveTells_j23) liveTells_j24) j25) j26) liveTells_j27) liveTells_j28) liveTells_j29) liveTells_j30) liveTells_j31) liveTells_j32
theorem liveTells_named : Tryz.prog.funcNamed "bellman/bellmanlaw31.LiveTells" = some 3 := by kernel_rfl
end Go.Proofs.YtldlnopinlfpaaaGreatDoor
end
