/-
  The closed cells of the row LiveNone, one by one, by the kernel.
  Conditions: none beyond those that the statements bear.
-/
import Derived.Test.YtldlnopinlfpaaaGreatDoorRows
import Derived.JoinedOf
import Derived.LaidByTextLater
import Derived.LaidOnce
import Derived.SevenTiedAt
import Derived.Test.YtldlnopinlfpaaaGreatDoorN
set_option maxRecDepth 100000

section
namespace Go.Proofs.YtldlnopinlfpaaaGreatDoor
open Go Go.Bel

theorem liveNone_j1 : OpenClaim.wf (OpenSpec.ofChange Rows.liveNoneSpec) Rows.liveNoneRow = true := by kernel_rfl
theorem liveNone_j4 : (Tryz.f4.params.all (Tryz.prog.readableRec ·)) = true := by kernel_rfl
theorem liveNone_j5 : namedTie Tryz.prog Rows.liveNoneRow.named Rows.liveNoneSpec.vars = true := by kernel_rfl
theorem liveNone_j6 : (Rows.liveNoneRow.stops == []) = true := by kernel_rfl
theorem liveNone_j8 : (Rows.liveNoneRow.knobs == []) = true := by kernel_rfl
theorem liveNone_j14 : (Rows.liveNoneRow.maps == (Tryz.f4.params.toList ++ Rows.liveNoneSpec.plain.varTypes Tryz.prog).any (Tryz.prog.mapsRec ·)) = true := by kernel_rfl
theorem liveNone_j15 : (Rows.liveNoneRow.ifaces == (Tryz.f4.params.toList ++ Rows.liveNoneSpec.plain.varTypes Tryz.prog).any (Tryz.prog.ifacesRec ·)) = true := by kernel_rfl
theorem liveNone_j16 : (Rows.liveNoneRow.mapsOut == Tryz.prog.mapsAmong Tryz.f4.resultTypes.toList) = true := by kernel_rfl
theorem liveNone_j17 : (Rows.liveNoneRow.loops == (Tryz.f4.params.toList ++ Rows.liveNoneSpec.plain.varTypes Tryz.prog).any (Tryz.prog.loopsFrom ·)) = true := by kernel_rfl
theorem liveNone_j18 : (Rows.liveNoneRow.wideKeys == (Tryz.f4.params.toList ++ Rows.liveNoneSpec.plain.varTypes Tryz.prog ++ Tryz.f4.resultTypes.toList).any (Tryz.prog.wideKeysFrom ·)) = true := by kernel_rfl
theorem liveNone_j19 : Rows.liveNoneSpec.vars.all (Tryz.prog.varReadable ·) = true := by kernel_rfl
theorem liveNone_j20 : (Tryz.f4.resultTypes.all (fun t => Tryz.prog.readableRec t && decide (t < Tryz.prog.types.size))) = true := by kernel_rfl
theorem liveNone_j21 : (Rows.liveNoneRow.ifacesOut == Tryz.f4.resultTypes.toList.any (Tryz.prog.ifacesRec ·)) = true := by kernel_rfl
theorem liveNone_j22 : (Rows.liveNoneRow.loopsOut == Tryz.f4.resultTypes.toList.any (Tryz.prog.loopsFrom ·)) = true := by kernel_rfl
theorem liveNone_j23 : (Rows.liveNoneRow.plainKeys == Tryz.prog.plainKeys) = true := by kernel_rfl
theorem liveNone_j24 : Rows.liveNoneRow.shortTexts.isNone = true := by kernel_rfl
theorem liveNone_j27 : (Rows.liveNoneRow.lifted == Tryz.prog.liftsFinal) = true := by kernel_rfl
theorem liveNone_j28 : (Tryz.prog.make == some Rows.liveNoneRow.make) = true := by kernel_rfl
theorem liveNone_j29 : (Rows.liveNoneRow.kinds == (if Rows.liveNoneRow.domain.isEmpty then [] else Tryz.f4.params.toList.map fun t => match Tryz.prog.underlying t with | some (.int k) => some k | _ => Option.none)) = true := by kernel_rfl
theorem liveNone_j30 : (Rows.liveNoneRow.pinned == Rows.liveNoneRow.pinnedBy) = true := by kernel_rfl
theorem liveNone_j31 : (Rows.liveNoneRow.veiled == (Tryz.f4.params.toList ++ Rows.liveNoneSpec.plain.varTypes Tryz.prog ++ Tryz.f4.resultTypes.toList).any (Tryz.prog.veiledRec ·)) = true := by kernel_rfl
theorem liveNone_j32 : Rows.liveNoneRow.veiledFits Tryz.prog Tryz.f4.params.toList (Tryz.f4.params.toList ++ Rows.liveNoneSpec.plain.varTypes Tryz.prog ++ Tryz.f4.resultTypes.toList) = true := by kernel_rfl
theorem liveNone_j10 : (Rows.liveNoneRow.inPlace == Tryz.prog.inPlace 4) = true := beqI (inPlace_row rowsL_ok closure4) (by kernel_rfl)
theorem liveNone_unf : Tryz.prog.unfollowed 4 = true := unfollowed_of (g := 4) closure4 (by kernel_rfl) Tryz.func4 (by kernel_rfl)
theorem liveNone_j11 : (Rows.liveNoneRow.unfollowed == Tryz.prog.unfollowed 4) = true := beqI liveNone_unf (by kernel_rfl)
theorem liveNone_j12 : (Rows.liveNoneRow.recurses == Tryz.prog.recurses 4) = true := beqI (recurses_of liveNone_unf) (by kernel_rfl)
theorem liveNone_j13 : (Rows.liveNoneRow.named == Tryz.prog.varsNamed 4) = true := beqI (varsNamed_row rowsL_ok closure4) (by kernel_rfl)
theorem liveNone_joined : joinedFacts Tryz.prog 4 Tryz.f4 Rows.liveNoneSpec Rows.liveNoneRow = true := by
  unfold joinedFacts
  exact andI (andI (andI (andI (andI (andI (andI (andI (andI (andI (andI (andI (andI (andI (andI (andI (andI (andI (andI (andI (andI (andI (andI (andI (andI (andI (andI (andI (andI (andI (andI liveNone_j1 j2) j3) liveNone_j4) liveNone_j5) liveNone_j6) j7) liveNone_j8) j9) liveNone_j10) liveNone_j11) liveNone_j12) liveNone_j13) liveNone_j14) liveNone_j15) liveNone_j16) liveNone_j17) liveNone_j18) liveNone_j19) liveNone_j20) liveNone_j21) liveNone_j22) liveNone_j23) liveNone_j24) j25) j26) liveNone_j27) liveNone_j28) liveNone_j29) liveNone_j30) liveNone_j31) liveNone_j32
theorem liveNone_named : Tryz.prog.funcNamed "bellman/bellmanlaw31.LiveNone" = some 4 := by kernel_rfl
end Go.Proofs.YtldlnopinlfpaaaGreatDoor
end
