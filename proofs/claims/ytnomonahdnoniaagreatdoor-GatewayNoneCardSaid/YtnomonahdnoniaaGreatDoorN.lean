/-
  The closed cells of the row GatewayNone, one by one, by the kernel; the tie of what it lists to the text of the program, the same way.
  Conditions: none.
-/
import Derived.Test.YtnomonahdnoniaaGreatDoorM
import Derived.JoinedOf
import Derived.LaidByTextLater
import Derived.LaidOnce
import Derived.SevenTiedAt
set_option maxRecDepth 100000
namespace Go.Proofs.YtnomonahdnoniaaGreatDoor
open Go Go.Bel

theorem size : Tryz.prog.types.size = 850 := by kernel_rfl
theorem fine0 : (List.range' 0 170).all (rowFine Tryz.prog) = true := by kernel_rfl
theorem fine170 : (List.range' 170 170).all (rowFine Tryz.prog) = true := by kernel_rfl
theorem fine340 : (List.range' 340 170).all (rowFine Tryz.prog) = true := by kernel_rfl
theorem fine510 : (List.range' 510 170).all (rowFine Tryz.prog) = true := by kernel_rfl
theorem fine680 : (List.range' 680 170).all (rowFine Tryz.prog) = true := by kernel_rfl
theorem fine : (List.range Tryz.prog.types.size).all (rowFine Tryz.prog) = true := by
  refine all_range fun t ht => ?_
  rw [size] at ht
  rcases Nat.lt_or_ge t 170 with h | h
  · exact of_part fine0 (Nat.zero_le t) h
  rcases Nat.lt_or_ge t 340 with h1 | h1
  · exact of_part fine170 h h1
  rcases Nat.lt_or_ge t 510 with h2 | h2
  · exact of_part fine340 h1 h2
  rcases Nat.lt_or_ge t 680 with h3 | h3
  · exact of_part fine510 h2 h3
  exact of_part fine680 h3 ht
theorem gfine : Tryz.prog.globals.all (fun g => decide (g.type < Tryz.prog.types.size)) = true := by kernel_rfl
theorem pfine : Tryz.prog.funcs.all (fun f => f.params.all fun t => decide (t < Tryz.prog.types.size)) = true := by kernel_rfl
theorem j2 : laidOutB Tryz.prog = true := andI (andI fine gfine) pfine
theorem j1 : OpenClaim.wf (OpenSpec.ofChange Rows.gatewayNoneSpec) Rows.gatewayNoneRow = true := by kernel_rfl
theorem j3 : mapsRowed Tryz.prog = true := by kernel_rfl
theorem j4 : (Tryz.f3.params.all (Tryz.prog.readableRec ·)) = true := by kernel_rfl
theorem j5 : namedTie Tryz.prog Rows.gatewayNoneRow.named Rows.gatewayNoneSpec.vars = true := by kernel_rfl
theorem j6 : (Rows.gatewayNoneRow.stops == []) = true := by kernel_rfl
theorem j7 : (Tryz.prog.stops == []) = true := by kernel_rfl
theorem j8 : (Rows.gatewayNoneRow.knobs == []) = true := by kernel_rfl
theorem j9 : (Tryz.prog.stopKnobs == []) = true := by kernel_rfl
theorem j14 : (Rows.gatewayNoneRow.maps == (Tryz.f3.params.toList ++ Rows.gatewayNoneSpec.plain.varTypes Tryz.prog).any (Tryz.prog.mapsRec ·)) = true := by kernel_rfl
theorem j15 : (Rows.gatewayNoneRow.ifaces == (Tryz.f3.params.toList ++ Rows.gatewayNoneSpec.plain.varTypes Tryz.prog).any (Tryz.prog.ifacesRec ·)) = true := by kernel_rfl
theorem j16 : (Rows.gatewayNoneRow.mapsOut == Tryz.prog.mapsAmong Tryz.f3.resultTypes.toList) = true := by kernel_rfl
theorem j17 : (Rows.gatewayNoneRow.loops == (Tryz.f3.params.toList ++ Rows.gatewayNoneSpec.plain.varTypes Tryz.prog).any (Tryz.prog.loopsFrom ·)) = true := by kernel_rfl
theorem j18 : (Rows.gatewayNoneRow.wideKeys == (Tryz.f3.params.toList ++ Rows.gatewayNoneSpec.plain.varTypes Tryz.prog ++ Tryz.f3.resultTypes.toList).any (Tryz.prog.wideKeysFrom ·)) = true := by kernel_rfl
theorem j19 : Rows.gatewayNoneSpec.vars.all (Tryz.prog.varReadable ·) = true := by kernel_rfl
theorem j20 : (Tryz.f3.resultTypes.all (fun t => Tryz.prog.readableRec t && decide (t < Tryz.prog.types.size))) = true := by kernel_rfl
theorem j21 : (Rows.gatewayNoneRow.ifacesOut == Tryz.f3.resultTypes.toList.any (Tryz.prog.ifacesRec ·)) = true := by kernel_rfl
theorem j22 : (Rows.gatewayNoneRow.loopsOut == Tryz.f3.resultTypes.toList.any (Tryz.prog.loopsFrom ·)) = true := by kernel_rfl
theorem j23 : (Rows.gatewayNoneRow.plainKeys == Tryz.prog.plainKeys) = true := by kernel_rfl
theorem j24 : Rows.gatewayNoneRow.shortTexts.isNone = true := by kernel_rfl
theorem j25 : Tryz.prog.stopsHeard = true := by kernel_rfl
theorem j26 : Tryz.prog.mayEnter = true := by kernel_rfl
theorem j27 : (Rows.gatewayNoneRow.lifted == Tryz.prog.liftsFinal) = true := by kernel_rfl
theorem j28 : (Tryz.prog.make == some Rows.gatewayNoneRow.make) = true := by kernel_rfl
theorem j29 : (Rows.gatewayNoneRow.kinds == (if Rows.gatewayNoneRow.domain.isEmpty then [] else Tryz.f3.params.toList.map fun t => match Tryz.prog.underlying t with | some (.int k) => some k | _ => Option.none)) = true := by kernel_rfl
theorem j30 : (Rows.gatewayNoneRow.pinned == Rows.gatewayNoneRow.pinnedBy) = true := by kernel_rfl
theorem j31 : (Rows.gatewayNoneRow.veiled == (Tryz.f3.params.toList ++ Rows.gatewayNoneSpec.plain.varTypes Tryz.prog ++ Tryz.f3.resultTypes.toList).any (Tryz.prog.veiledRec ·)) = true := by kernel_rfl
theorem j32 : Rows.gatewayNoneRow.veiledFits Tryz.prog Tryz.f3.params.toList (Tryz.f3.params.toList ++ Rows.gatewayNoneSpec.plain.varTypes Tryz.prog ++ Tryz.f3.resultTypes.toList) = true := by kernel_rfl
theorem j10 : (Rows.gatewayNoneRow.inPlace == Tryz.prog.inPlace 3) = true := beqI (inPlace_row rowsL_ok closure3) (by kernel_rfl)
theorem unf : Tryz.prog.unfollowed 3 = true := unfollowed_of (g := 3) closure3 (by kernel_rfl) Tryz.func3 (by kernel_rfl)
theorem j11 : (Rows.gatewayNoneRow.unfollowed == Tryz.prog.unfollowed 3) = true := beqI unf (by kernel_rfl)
theorem j12 : (Rows.gatewayNoneRow.recurses == Tryz.prog.recurses 3) = true := beqI (recurses_of unf) (by kernel_rfl)
theorem j13 : (Rows.gatewayNoneRow.named == Tryz.prog.varsNamed 3) = true := beqI (varsNamed_row rowsL_ok closure3) (by kernel_rfl)
theorem joined : joinedFacts Tryz.prog 3 Tryz.f3 Rows.gatewayNoneSpec Rows.gatewayNoneRow = true := by
  unfold joinedFacts
  exact andI (andI (andI (andI (andI (andI (andI (andI (andI (andI (andI (andI (andI (andI (andI (andI (andI (andI (andI (andI (andI (andI (andI (andI (andI (andI (andI (andI (andI (andI (andI j1 j2) j3) j4) j5) j6) j7) j8) j9) j10) j11) j12) j13) j14) j15) j16) j17) j18) j19) j20) j21) j22) j23) j24) j25) j26) j27) j28) j29) j30) j31) j32
theorem named : Tryz.prog.funcNamed "bellman/bellmanlaw28.GatewayNone" = some 3 := by kernel_rfl
theorem word1 : Tryz.prog.worded (varsWordLater true) = true := by kernel_rfl
theorem word2 : Tryz.prog.worded (varsWordLater !true) = false := by kernel_rfl
theorem word3 : Tryz.prog.worded rootWordLater = true := by kernel_rfl
noncomputable def four : List (String × DataW Unit) := [("unicode/utf8.acceptRanges", Rows.laid_unicode_utf8_acceptRanges), ("internal/strconv.uint64pow10", Rows.laid_internal_strconv_uint64pow10), ("math/bits.deBruijn32tab", Rows.laid_math_bits_deBruijn32tab), ("math/bits.deBruijn64tab", Rows.laid_math_bits_deBruijn64tab)]
theorem kindsOk : four.map (fun x => Tryz.prog.kindOfLater x.1) = ([.data, .data, .data, .data] : List LaidKind).map some := by kernel_rfl
theorem vars : (Tryz.prog.funcNamed "gosem.cut.vars").isSome = true := by kernel_rfl
theorem varsNamed : varsNamedLaterB Tryz.prog (varsId Tryz.prog) four = true := by kernel_rfl
theorem leaves (os : Os) (tape : Tape) : doorLeaves Tryz.prog 400 8 256 four os tape = some (four.filter fun x => x.2.handleName?.isNone, (funcsListed four).map (·.2.funcsOut)) := by kernel_rfl
theorem tieFour : Tryz.prog.laidByTextLater four [.data, .data, .data, .data] true :=
  Program.laidByTextLater_by_one 400 8 256 word1 word2 word3 kindsOk vars varsNamed leaves
theorem pin_first : Tryz.prog.pinnedFits "unicode/utf8.first" = true := by kernel_rfl
theorem pin_case : Tryz.prog.pinnedFits "unicode.CaseRanges" = true := by kernel_rfl
theorem noOwn : Tryz.prog.headLifts.contains "ownunsafe" = false := by kernel_rfl
theorem fits : Tryz.prog.listedFits [("unicode/utf8.first", Rows.laid_unicode_utf8_first), ("unicode/utf8.acceptRanges", Rows.laid_unicode_utf8_acceptRanges), ("internal/strconv.uint64pow10", Rows.laid_internal_strconv_uint64pow10), ("math/bits.deBruijn32tab", Rows.laid_math_bits_deBruijn32tab), ("math/bits.deBruijn64tab", Rows.laid_math_bits_deBruijn64tab), ("unicode.CaseRanges", Rows.laid_unicode_CaseRanges)] = true := by
  unfold Program.listedFits
  rw [noOwn]
  kernel_rfl
end Go.Proofs.YtnomonahdnoniaaGreatDoor
