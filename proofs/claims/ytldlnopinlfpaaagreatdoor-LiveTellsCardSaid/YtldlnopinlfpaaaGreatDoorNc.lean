/-
  The tie of what the rows list to the text of the program, part by part, by the kernel.
  Conditions: none beyond those that the statements bear.
-/
import Derived.Test.YtldlnopinlfpaaaGreatDoorRows
import Derived.JoinedOf
import Derived.LaidByTextLater
import Derived.LaidOnce
import Derived.SevenTiedAt
import Derived.Test.YtldlnopinlfpaaaGreatDoorM
set_option maxRecDepth 100000

section
namespace Go.Proofs.YtldlnopinlfpaaaGreatDoor
open Go Go.Bel

theorem word1 : Tryz.prog.worded (varsWordLater true) = true := by kernel_rfl
theorem word2 : Tryz.prog.worded (varsWordLater !true) = false := by kernel_rfl
theorem word3 : Tryz.prog.worded rootWordLater = true := by kernel_rfl
noncomputable def four : List (String × DataW Unit) := [("unicode/utf8.acceptRanges", Rows.laid_unicode_utf8_acceptRanges), ("internal/strconv.uint64pow10", Rows.laid_internal_strconv_uint64pow10), ("math/bits.deBruijn32tab", Rows.laid_math_bits_deBruijn32tab), ("math/bits.deBruijn64tab", Rows.laid_math_bits_deBruijn64tab)]
theorem kindsOk : four.map (fun x => Tryz.prog.kindOfLater x.1) = ([.data, .data, .data, .data] : List LaidKind).map some := by kernel_rfl
theorem vars : (Tryz.prog.funcNamed "gosem.cut.vars").isSome = true := by kernel_rfl
theorem varsNamed : varsNamedLaterB Tryz.prog (varsId Tryz.prog) four = true := by kernel_rfl
theorem leaves (os : Os) (tape : Tape) : doorLeaves Tryz.prog 400 8 256 four os tape = some (four.filter fun x => x.2.handleName?.isNone, (funcsListed four).map (·.2.funcsOut)) := by kernel_rfl
theorem tieFour : Tryz.prog.laidByTextLater four [.data, .data, .data, .data] true :=
  Program.laidByTextLater_by_one 400 8 256 word1 word2 word3 kindsOk vars varsNamed leaves
theorem pin_first : Tryz.prog.pinnedFits "unicode/utf8.first" = true := by kernel_rfl
theorem pin_case : Tryz.prog.pinnedFits "unicode.CaseRanges" = true := by kernel_rfl
theorem noOwn : Tryz.prog.headLifts.contains "ownunsafe" = false := by kernel_rfl
theorem fits : Tryz.prog.listedFits [("unicode/utf8.first", Rows.laid_unicode_utf8_first), ("unicode/utf8.acceptRanges", Rows.laid_unicode_utf8_acceptRanges), ("internal/strconv.uint64pow10", Rows.laid_internal_strconv_uint64pow10), ("math/bits.deBruijn32tab", Rows.laid_math_bits_deBruijn32tab), ("math/bits.deBruijn64tab", Rows.laid_math_bits_deBruijn64tab), ("unicode.CaseRanges", Rows.laid_unicode_CaseRanges)] = true := by
  unfold Program.listedFits
  rw [noOwn]
  kernel_rfl
end Go.Proofs.YtldlnopinlfpaaaGreatDoor
end
