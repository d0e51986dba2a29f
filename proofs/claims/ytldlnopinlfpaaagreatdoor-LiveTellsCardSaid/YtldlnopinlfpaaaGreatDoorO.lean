/-
  A world in which the rows may be called: their variables lie as the rows list them.
  Conditions: none beyond those that the statements bear.
-/
import Derived.Test.YtldlnopinlfpaaaGreatDoorRows
import Derived.Lib.LaidCaseMet
import Derived.Lib.LaidIn
import Derived.LaidMore
import Derived.LaidHandle
import Derived.MakeChecks
import Derived.KernelRfl
set_option maxRecDepth 100000

section
namespace Go.Proofs.YtldlnopinlfpaaaGreatDoor
open Go Go.Lib Go.Proofs

/-- the datum's cells, one by one -/
def cells1 : DataW Unit → List Value
  | .lit (.int k n) => [.int k n]
  | _ => []
def cells2 : DataW Unit → List Value
  | .agg l => l.flatMap cells1
  | d => cells1 d
def cells3 : DataW Unit → List Value
  | .agg l => l.flatMap cells2
  | d => cells2 d

/-- what lies behind the variables when the program begins -/
noncomputable def rest : List Obj := (begin Tryz.prog (fun _ _ => 0) default).world.heap.toList.drop 7
theorem rest_length : rest.length = 5 := by kernel_rfl
noncomputable def h0 : Array Obj := ⟨[.cells #[.int .i64 0] 3 (0, 0), .cells ⟨cells2 Rows.laid_internal_strconv_uint64pow10⟩ 734 (0, 0), .cells #[.slice (some ⟨12, 0, none⟩) caseA.size caseA.size] 740 (0, 0),
  .cells ⟨cells2 Rows.laid_unicode_utf8_first⟩ 741 (0, 0), .cells ⟨cells3 Rows.laid_unicode_utf8_acceptRanges⟩ 744 (0, 0), .cells ⟨cells2 Rows.laid_math_bits_deBruijn32tab⟩ 816 (0, 0), .cells ⟨cells2 Rows.laid_math_bits_deBruijn64tab⟩ 817 (0, 0)] ++ (rest ++ [.cells caseCells5 821 (0, 0)])⟩
noncomputable def w0 (os : Os) : World := { World.settled Tryz.prog os with heap := h0 }
noncomputable def wm : World := { heap := h0, tape := fun _ _ => 0, drawn := 0, os := default, output := #[] }
theorem memory0 (os : Os) (args : Array Value) : ((w0 os).forCall (fun _ _ => 0) ⟨#[], args, []⟩).memory = wm := by
  unfold World.forCall World.memory wm w0
  simp [Input.heap]

theorem u641 : Tryz.prog.underlying 641 = some (.int .u32) := by kernel_rfl
theorem u21 : Tryz.prog.underlying 21 = some (.int .i32) := by kernel_rfl
theorem u819 : Tryz.prog.underlying 819 = some (.array 3 21) := by kernel_rfl
theorem u821 : Tryz.prog.underlying 821 = some (.struct #[{ name := "Lo", type := 641, offset := 0, embedded := false, tag := "", pkgPath := "", byteOffset := 0 }, { name := "Hi", type := 641, offset := 1, embedded := false, tag := "", pkgPath := "", byteOffset := 4 }, { name := "Delta", type := 819, offset := 2, embedded := false, tag := "", pkgPath := "", byteOffset := 8 }]) := by kernel_rfl
theorem u740 : Tryz.prog.underlying 740 = some (.slice 821) := by kernel_rfl
theorem c641 : Tryz.prog.cellsOf 641 = 1 := by kernel_rfl
theorem c21 : Tryz.prog.cellsOf 21 = 1 := by kernel_rfl
theorem c819 : Tryz.prog.cellsOf 819 = 3 := by kernel_rfl
theorem c821 : Tryz.prog.cellsOf 821 = 5 := by kernel_rfl

theorem row_reads {w : World} (x : CaseRow) (hw : rowWf x = true) :
    DataW.trod (fun _ => ()) Tryz.prog w 0 (fun _ => true) false 3 821 (cells5 x) = some (rowData x, []) := by
  simp only [rowWf, Bool.and_eq_true] at hw
  obtain ⟨⟨⟨⟨w0, w1⟩, w2⟩, w3⟩, w4⟩ := hw
  have r3 : List.range 3 = [0, 1, 2] := rfl
  simp [DataW.trod, c819, c641, c21, c821, Go.Lib.cells5, rowData, w0, w1, w2, w3, w4, r3]

theorem case_read {w : World} {R : Nat} (hT : CaseTab R 0 caseA w) :
    DataW.trod (fun _ => ()) Tryz.prog w 0 (fun _ => true) false 4 740 [.slice (some ⟨R, 0, none⟩) caseA.size caseA.size] = some (caseData, MemPlace.row ⟨R, 0, none⟩ (caseA.size * 5)) := by
  have helem : ∀ i ∈ List.range caseA.size, (w.cells? 0 ((⟨R, 0, none⟩ : Addr).add (i * 5)) 5).bind (DataW.trod (fun _ => ()) Tryz.prog w 0 (fun _ => true) false 3 821) = some ((fun i => ((rowData (caseA.getD i (0, 0, 0, 0, 0)) : DataW Unit), ([] : List MemPlace))) i) := by
    intro i hi
    have hi' := List.mem_range.1 hi
    rw [case_cells5 hT i hi']
    exact row_reads _ (caseA_wf i hi')
  have hn : caseA.size ≤ maxLen := by rw [caseA_size]; unfold maxLen; omega
  unfold DataW.trod
  simp only [u740, c821]
  rw [if_pos ⟨Nat.zero_le _, Nat.le_refl _, hn⟩, Go.Lib.mapM_some _ _ _ helem]
  unfold caseData
  rw [← case_rows_data]
  simp [Function.comp_def]

theorem case_same : Rows.laid_unicode_CaseRanges = caseData := by kernel_rfl

theorem n2 : Tryz.prog.globalNamed "unicode.CaseRanges" = some 2 := by kernel_rfl
theorem y2 : (Tryz.prog.globals[2]?).map (·.type) = some 740 := by kernel_rfl
theorem at2 : wm.heap[2]? = some (.cells #[.slice (some ⟨12, 0, none⟩) caseA.size caseA.size] 740 (0, 0)) := rfl
theorem at12 : wm.heap[12]? = some (.cells caseCells5 821 (0, 0)) := by
  show h0[12]? = _
  unfold h0
  rw [List.getElem?_toArray, List.getElem?_append_right (by decide), List.getElem?_append_right (by rw [rest_length]; decide), rest_length]
  rfl

theorem laid_case : LaidIn Tryz.prog wm [("unicode.CaseRanges", Rows.laid_unicode_CaseRanges)] [2, 12] := by
  rw [case_same]
  have hT := caseTab_of_block at12
  have hv : wm.var? Tryz.prog "unicode.CaseRanges" = some #[.slice (some ⟨12, 0, none⟩) caseA.size caseA.size] := by simp [World.var?, n2, at2]
  have hshape : MemPlace.row ⟨2, 0, none⟩ (#[Value.slice (some ⟨12, 0, none⟩) caseA.size caseA.size] : Array Value).size ++ MemPlace.row ⟨12, 0, none⟩ (caseA.size * 5) =
      ([((⟨2, 0, none⟩ : Addr), 1), (⟨12, 0, none⟩, caseA.size * 5)] : List (Addr × Nat)).flatMap (fun r => MemPlace.row r.1 r.2) := by simp
  refine LaidIn.one (g := 2) (t := 740) _ n2 y2 hv (case_read hT) ?_ ?_ ?_
  · rw [hshape]
    exact rows_nodup _ (by simp)
  · rw [hshape]
    intro b off hp
    simp only [List.flatMap_cons, List.flatMap_nil, List.append_nil, List.mem_append] at hp
    rcases hp with hp | hp
    · obtain ⟨i, hi, e'⟩ := MemPlace.mem_row.1 hp
      cases e'
      refine ⟨⟨_, _, at2⟩, fun u v hc' => ?_⟩
      obtain rfl : i = 0 := by omega
      rw [cell_of_heap at2] at hc'
      simp at hc'
    · obtain ⟨i, hi, e'⟩ := MemPlace.mem_row.1 hp
      cases e'
      refine ⟨⟨_, _, at12⟩, fun u v hc' => ?_⟩
      have h5 : i / 5 < caseA.size := by omega
      have hc5 := hT (i / 5) h5
      have e5 : 0 + i = 0 + i / 5 * 5 + i % 5 := by omega
      have hlt : i % 5 < 5 := Nat.mod_lt _ (by decide)
      obtain ⟨a0, a1, a2, a3, a4⟩ := hc5
      rw [e5] at hc'
      generalize i % 5 = k at hc' hlt
      match k, hlt with
      | 0, _ => exact absurd (a0.symm.trans hc') (by simp)
      | 1, _ => exact absurd (a1.symm.trans hc') (by simp)
      | 2, _ => exact absurd (a2.symm.trans hc') (by simp)
      | 3, _ => exact absurd (a3.symm.trans hc') (by simp)
      | 4, _ => exact absurd (a4.symm.trans hc') (by simp)
  · rw [hshape]
    exact rows_block _

theorem laid_first : LaidIn Tryz.prog wm [("unicode/utf8.first", Rows.laid_unicode_utf8_first)] [3] :=
  LaidIn.of_run [3] 8 (by kernel_rfl) (by kernel_rfl) (by kernel_rfl) (by kernel_rfl)
theorem laid_accept : LaidIn Tryz.prog wm [("unicode/utf8.acceptRanges", Rows.laid_unicode_utf8_acceptRanges)] [4] :=
  LaidIn.of_run [4] 8 (by kernel_rfl) (by kernel_rfl) (by kernel_rfl) (by kernel_rfl)
theorem laid_pow : LaidIn Tryz.prog wm [("internal/strconv.uint64pow10", Rows.laid_internal_strconv_uint64pow10)] [1] :=
  LaidIn.of_run [1] 8 (by kernel_rfl) (by kernel_rfl) (by kernel_rfl) (by kernel_rfl)
theorem laid_32 : LaidIn Tryz.prog wm [("math/bits.deBruijn32tab", Rows.laid_math_bits_deBruijn32tab)] [5] :=
  LaidIn.of_run [5] 8 (by kernel_rfl) (by kernel_rfl) (by kernel_rfl) (by kernel_rfl)
theorem laid_64 : LaidIn Tryz.prog wm [("math/bits.deBruijn64tab", Rows.laid_math_bits_deBruijn64tab)] [6] :=
  LaidIn.of_run [6] 8 (by kernel_rfl) (by kernel_rfl) (by kernel_rfl) (by kernel_rfl)

theorem laid_all (l : List (String × DataW Unit)) (e : l = [("unicode/utf8.first", Rows.laid_unicode_utf8_first), ("unicode/utf8.acceptRanges", Rows.laid_unicode_utf8_acceptRanges), ("internal/strconv.uint64pow10", Rows.laid_internal_strconv_uint64pow10), ("math/bits.deBruijn32tab", Rows.laid_math_bits_deBruijn32tab), ("math/bits.deBruijn64tab", Rows.laid_math_bits_deBruijn64tab), ("unicode.CaseRanges", Rows.laid_unicode_CaseRanges)]) : laidMet Tryz.prog l wm := by
  subst e
  exact LaidIn.met (((((laid_first.append laid_accept (by decide)).append laid_pow (by decide)).append laid_32 (by decide)).append laid_64 (by decide)).append laid_case (by decide))
theorem forced (os : Os) (args : Array Value) : ((w0 os).forCall (fun _ _ => 0) ⟨#[], args, []⟩).heap = h0 := by
  have := congrArg World.heap (memory0 os args)
  exact this
theorem liveTells_door_met (os : Os) (args : Array Value) : laidMetH Tryz.prog Rows.liveTellsRow.laid ((w0 os).forCall (fun _ _ => 0) ⟨#[], args, []⟩).memory := by
  rw [memory0, MakeChecks.laidMetH_plain _ _ _ (by kernel_rfl)]
  exact laid_all _ rfl
def liveTells_argW : Array Value := #[.int .u64 0, .int .i64 0, .int .i64 0, .slice none 0 0]
theorem liveTells_vars_ok (os : Os) : ((w0 os).forCall (fun _ _ => 0) ⟨#[], liveTells_argW, []⟩).variablesRefB Tryz.prog = true := by kernel_rfl
theorem liveTells_rest_ok (os : Os) : (((w0 os).forCall (fun _ _ => 0) ⟨#[], liveTells_argW, []⟩).heap.toList.drop Tryz.prog.globals.size).take ((begin Tryz.prog (fun _ _ => 0) default).world.heap.size - Tryz.prog.globals.size) =
      (begin Tryz.prog (fun _ _ => 0) default).world.heap.toList.drop Tryz.prog.globals.size := by kernel_rfl
theorem liveTells_shaped (os : Os) : ((w0 os).forCall (fun _ _ => 0) ⟨#[], liveTells_argW, []⟩).Shaped Tryz.prog := World.shaped_of_RefB (liveTells_vars_ok os) (liveTells_rest_ok os)
theorem liveTells_input_ok (os : Os) : Input.okWideB Tryz.prog ((w0 os).forCall (fun _ _ => 0) ⟨#[], liveTells_argW, []⟩) 3 ⟨#[], liveTells_argW, []⟩ = true := by kernel_rfl
theorem liveTells_pre_ok (os : Os) (H : Type) (enc : TypeId × Value → H) : Rows.liveTellsSpec.preB enc Tryz.prog Tryz.f3 [] false ((w0 os).forCall (fun _ _ => 0) ⟨#[], liveTells_argW, []⟩).memory liveTells_argW 8 = true := by kernel_rfl
theorem liveTells_sized_ok (os : Os) (H : Type) (enc : TypeId × Value → H) : Rows.liveTellsSpec.sizedB enc Tryz.prog Tryz.f3 false ((w0 os).forCall (fun _ _ => 0) ⟨#[], liveTells_argW, []⟩).memory liveTells_argW 8 = true := by kernel_rfl
theorem liveNone_door_met (os : Os) (args : Array Value) : laidMetH Tryz.prog Rows.liveNoneRow.laid ((w0 os).forCall (fun _ _ => 0) ⟨#[], args, []⟩).memory := by
  rw [memory0, MakeChecks.laidMetH_plain _ _ _ (by kernel_rfl)]
  exact laid_all _ rfl
def liveNone_argW : Array Value := #[.int .u64 0, .slice none 0 0, .int .i64 0]
theorem liveNone_vars_ok (os : Os) : ((w0 os).forCall (fun _ _ => 0) ⟨#[], liveNone_argW, []⟩).variablesRefB Tryz.prog = true := by kernel_rfl
theorem liveNone_rest_ok (os : Os) : (((w0 os).forCall (fun _ _ => 0) ⟨#[], liveNone_argW, []⟩).heap.toList.drop Tryz.prog.globals.size).take ((begin Tryz.prog (fun _ _ => 0) default).world.heap.size - Tryz.prog.globals.size) =
      (begin Tryz.prog (fun _ _ => 0) default).world.heap.toList.drop Tryz.prog.globals.size := by kernel_rfl
theorem liveNone_shaped (os : Os) : ((w0 os).forCall (fun _ _ => 0) ⟨#[], liveNone_argW, []⟩).Shaped Tryz.prog := World.shaped_of_RefB (liveNone_vars_ok os) (liveNone_rest_ok os)
theorem liveNone_input_ok (os : Os) : Input.okWideB Tryz.prog ((w0 os).forCall (fun _ _ => 0) ⟨#[], liveNone_argW, []⟩) 4 ⟨#[], liveNone_argW, []⟩ = true := by kernel_rfl
theorem liveNone_pre_ok (os : Os) (H : Type) (enc : TypeId × Value → H) : Rows.liveNoneSpec.preB enc Tryz.prog Tryz.f4 [] false ((w0 os).forCall (fun _ _ => 0) ⟨#[], liveNone_argW, []⟩).memory liveNone_argW 8 = true := by kernel_rfl
theorem liveNone_sized_ok (os : Os) (H : Type) (enc : TypeId × Value → H) : Rows.liveNoneSpec.sizedB enc Tryz.prog Tryz.f4 false ((w0 os).forCall (fun _ _ => 0) ⟨#[], liveNone_argW, []⟩).memory liveNone_argW 8 = true := by kernel_rfl
end Go.Proofs.YtldlnopinlfpaaaGreatDoor
end
