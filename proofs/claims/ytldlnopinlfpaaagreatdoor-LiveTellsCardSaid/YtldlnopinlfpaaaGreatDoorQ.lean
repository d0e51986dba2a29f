/-
  LiveTells and LiveNone: whatever their arguments the calls return true, and each argument reads as it did; over the variables that the rows list, tied to the text of the program.
  Conditions: none beyond those that the statements bear.
-/
import Derived.Test.YtldlnopinlfpaaaGreatDoorCards
import Derived.ProofKit
import Derived.LaidMore
import Derived.OpenShut
import Derived.Stop.Joined
import Derived.ReadAgain
import Derived.Deep.Modes
import Derived.SevenTiedAt
import Derived.Test.YtldlnopinlfpaaaGreatDoorT
import Derived.Test.YtldlnopinlfpaaaGreatDoorNa
import Derived.Test.YtldlnopinlfpaaaGreatDoorNb
import Derived.Test.YtldlnopinlfpaaaGreatDoorNc
import Derived.Test.YtldlnopinlfpaaaGreatDoorO
set_option maxRecDepth 100000

section
namespace Go.Proofs.YtldlnopinlfpaaaGreatDoor
open Go Go.Bel Go.ChangeShapes Go.WideShapes Go.ChangeAt Go.WideMaps Go.WideElems Go.RowKit

theorem own : ownKnob Tryz.prog.godebug = none := by kernel_rfl
theorem kids : Kids Tryz.prog (· < Tryz.prog.types.size) := kids_rows j2 j3
theorem full : ∀ t e, t < Tryz.prog.types.size → Tryz.prog.underlying t = some (.slice e) → 0 < Tryz.prog.cellsOf e := slices_full_of Tryz.prog (by kernel_rfl)

theorem carry {H : Type} {enc : TypeId × Value → H} {W W' : World} {sp : Nat → Bool} (hb : Below W.heap.size W W') : ∀ {ts : List TypeId} {vs : List Value} {ds : List (DataW H)} {ps : List MemPlace}, (∀ p ∈ ps, p.block < W.heap.size) →
    DataW.TrodAll enc Tryz.prog W 0 sp true ts vs ds ps → DataW.TrodAll enc Tryz.prog W' 0 sp true ts vs ds ps
  | [], [], [], _, _, h => h
  | _ :: _, _ :: _, _ :: _, _, hl, ⟨p, q, ⟨n, h1⟩, h2, e⟩ =>
    ⟨p, q, ⟨n, DataW.trod_carry n _ _ _ h1 fun x hx => hb.same (hl x (by rw [e]; exact List.mem_append_left _ hx))⟩, carry hb (fun x hx => hl x (by rw [e]; exact List.mem_append_right _ hx)) h2, e⟩

theorem post_below {H : Type} {enc : TypeId × Value → H} {f : Func} {s : ChangeSpec} {apart fresh handsOn again : Bool} {W W' : World} {args : Array Value} {v : Value} {ds gs : List (DataW H)} {before pa pv : List MemPlace}
    (hW : DataW.Whole enc Tryz.prog f.params.toList s.vars apart W args.toList ds gs before)
    (hres : ∀ (b : Nat) (sp : Nat → Bool) (hd : Bool), DataW.TrodAll enc Tryz.prog W' b sp hd f.resultTypes.toList (v.resultList f.resultTypes.size) (s.fn H (ds ++ gs)).results [])
    (hargs : ∀ sp : Nat → Bool, (∀ p ∈ before, sp p.block = true) → DataW.TrodAll enc Tryz.prog W' 0 sp true f.params.toList args.toList (s.fn H (ds ++ gs)).args pa)
    (hvars : ∀ sp : Nat → Bool, (∀ p ∈ before, sp p.block = true) → DataW.TrodVars enc Tryz.prog W' sp s.vars (s.fn H (ds ++ gs)).vars pv)
    (hps : before = pa ++ pv) (hb : Below W.heap.size W W')
    (hok : ∀ (j : Nat) (t : TypeId) (r : Value), f.resultTypes[j]? = some t → (v.resultList f.resultTypes.size)[j]? = some r → Value.okWide Tryz.prog W' .any 0 t r) :
    s.post enc Tryz.prog f apart fresh handsOn again W args v W' := by
  have hlt : ∀ p ∈ before, p.block < W.heap.size := fun p hp => hW.lt p hp
  have hold : ∀ p ∈ before, (fun b => decide (b < W.heap.size)) p.block = true := fun p hp => by simpa using hlt p hp
  refine ⟨ds, gs, before, [], pa, pv, hW, hres _ _ _, hargs _ hold, hvars _ hold, World.keptBut_mono (fun p hp => ⟨hp, ?_⟩) (hb.frame (· ∈ before)), fun _ => ?_⟩
  · rw [hps, List.mem_append] at hp
    exact Or.inr hp
  · obtain ⟨_, _, _, _, _, hz, hn⟩ := hW
    refine ⟨hok, _, _, ([] ++ pa) ++ pv, ⟨[] ++ pa, pv, trodAll_append (hargs _ (fun _ _ => rfl)) (hres _ _ _), hvars _ (fun _ _ => rfl), rfl, ?_, ?_⟩, ?_⟩
    · intro b off hp
      have hin : MemPlace.cell b off ∈ before := by rw [hps]; simpa using hp
      rw [hb.frozen (hlt _ hin)]
      exact hz b off hin
    · intro ha
      have := hn ha
      rw [hps] at this
      simpa using this
    · intro p hp _
      rw [hps]
      simpa using hp

theorem liveTells_res_ok : Tryz.f3.resultTypes = #[4] := by kernel_rfl
theorem liveTells_lifted (os : Os) (started : os.Started) (H : Type) (enc : TypeId × Value → H) :
    ReturnsInHanded {} Tryz.checked os 3 .any (fun w args => (Rows.liveTellsSpec.pre enc Tryz.prog Tryz.f3 [] false w args ∧ laidMetH Tryz.prog Rows.liveTellsRow.laid w) ∧ sizedMet enc Tryz.prog Tryz.f3 (OpenSpec.ofChange Rows.liveTellsSpec) false w args)
      (Rows.liveTellsSpec.post enc Tryz.prog Tryz.f3 false true false false) := by
  refine returnsInHanded_of_change_and (C := Tryz.checked) (X := fun w _ => laidMetH Tryz.prog Rows.liveTellsRow.laid w) (fun _ _ _ hh h => h.of_heap hh) own started (by kernel_rfl) Tryz.func3
    (ChangeSpec.witness_shaped (enc := enc) (C := Tryz.checked) (os := os) (X := fun w _ => laidMetH Tryz.prog Rows.liveTellsRow.laid w) false (w0 os) liveTells_argW 8 rfl (liveTells_shaped os) (liveTells_input_ok os) (liveTells_pre_ok os H enc) (liveTells_sized_ok os H enc) (liveTells_door_met os _)) ?_
  intro W base args ds gs before hval0 hW _ _ _ _
  have hval : ∀ (j : Nat) t v, Tryz.f3.params[j]? = some t → args[j]? = some v → Value.okWide Tryz.prog W .any base t v := hval0
  have hW' := hW
  have hlt : ∀ p ∈ before, p.block < W.heap.size := fun p hp => hW.lt p hp
  obtain ⟨p, q, hA0, hV, rfl, hfz, hnd⟩ := hW
  have hA : DataW.TrodAll enc Tryz.prog W 0 (fun _ => true) true Tryz.f3.params.toList args.toList ds p := hA0
  have hA1 := hA
  rw [Tryz.params3] at hA hval
  obtain ⟨rfl, rfl⟩ := trodVars_none hV
  obtain ⟨v0, vs0, d0, ds0, a0, b0, e0, rfl, rfl, h0, hA⟩ := trodAll_cons hA
  obtain ⟨v1, vs1, d1, ds1, a1, b1, rfl, rfl, rfl, h1, hA⟩ := trodAll_cons hA
  obtain ⟨v2, vs2, d2, ds2, a2, b2, rfl, rfl, rfl, h2, hA⟩ := trodAll_cons hA
  obtain ⟨v3, vs3, d3, ds3, a3, b3, rfl, rfl, rfl, h3, hA⟩ := trodAll_cons hA
  obtain ⟨rfl, rfl, rfl⟩ := trodAll_nil hA
  have hargs : args = #[v0, v1, v2, v3] := Array.ext' e0
  subst hargs
  obtain ⟨n0, rfl⟩ := cell_int Tryz.underlying22 (okWide_cell Tryz.underlying22 (by simp) (by simp) (hval 0 22 v0 rfl rfl))
  obtain ⟨n1, rfl, l1, u1⟩ := cell_i64 Tryz.underlying3 (okWide_cell Tryz.underlying3 (by simp) (by simp) (hval 1 3 v1 rfl rfl))
  obtain ⟨n2, rfl, l2, u2⟩ := cell_i64 Tryz.underlying3 (okWide_cell Tryz.underlying3 (by simp) (by simp) (hval 2 3 v2 rfl rfl))
  obtain ⟨p3, q3, c3, rfl⟩ := cell_slice Tryz.underlying23 (okWide_cell Tryz.underlying23 (by simp) (by simp) (hval 3 23 v3 rfl rfl))
  obtain ⟨m3, t3⟩ := h3
  obtain ⟨zs, hz⟩ := open_steps (v := .slice p3 q3 c3) t3
  have hc := tells_calls hz n0 n1 n2 u1 l1 u2 l2
  refine hc.mono fun e W' ⟨he, hb⟩ => ?_
  subst he
  refine ⟨_, rfl, post_below (pa := _) (pv := []) hW' (fun _ _ _ => trodAll_mk1 (shut_bool Tryz.underlying4 _)) (fun sp hsp => ?_) (fun _ _ => rfl) rfl hb (ok_one liveTells_res_ok rfl (okWide_bool_mk Tryz.underlying4 _))⟩
  have h5 := carry hb (fun p hp => hlt p (List.mem_append_left _ hp)) hA1
  exact h5.respare kids full (fun t ht => by
    rw [Tryz.params3] at ht
    have h4 : t = 22 ∨ t = 3 ∨ t = 23 := by simpa [or_comm, or_assoc, or_left_comm] using ht
    show t < Tryz.prog.types.size
    rw [size]
    rcases h4 with h | h | h <;> (rw [h]; decide)) (fun p hp => hsp p (List.mem_append_left _ hp))

theorem liveTells_inst_ok : Tryz.f3.isInstance Tryz.prog Rows.liveTellsRow.origin Rows.liveTellsRow.targs := of_decide_eq_true (by kernel_rfl)
theorem liveTells_wrap_ok : Tryz.f3.isWrapper Tryz.prog Rows.liveTellsRow.wrapper Rows.liveTellsRow.mainSum := by
  unfold Func.isWrapper
  first | (rw [if_pos (by decide +kernel)]; kernel_rfl) | (rw [if_neg (by decide +kernel)]; exact ⟨rfl, rfl⟩)

theorem liveTells_holds : Rows.LiveTellsSaid :=
  OpenClaim.holds_of_wide 3 Tryz.f3 rfl rfl rfl rfl rfl rfl rfl ⟨rfl, rfl, rfl, rfl, rfl⟩ rfl rfl rfl rfl rfl liveTells_named Tryz.func3 liveTells_joined
    liveTells_inst_ok liveTells_wrap_ok
    (fun os started H enc _ => liveTells_lifted os started H enc)

theorem liveNone_res_ok : Tryz.f4.resultTypes = #[4] := by kernel_rfl
theorem liveNone_lifted (os : Os) (started : os.Started) (H : Type) (enc : TypeId × Value → H) :
    ReturnsInHanded {} Tryz.checked os 4 .any (fun w args => (Rows.liveNoneSpec.pre enc Tryz.prog Tryz.f4 [] false w args ∧ laidMetH Tryz.prog Rows.liveNoneRow.laid w) ∧ sizedMet enc Tryz.prog Tryz.f4 (OpenSpec.ofChange Rows.liveNoneSpec) false w args)
      (Rows.liveNoneSpec.post enc Tryz.prog Tryz.f4 false true false false) := by
  refine returnsInHanded_of_change_and (C := Tryz.checked) (X := fun w _ => laidMetH Tryz.prog Rows.liveNoneRow.laid w) (fun _ _ _ hh h => h.of_heap hh) own started (by kernel_rfl) Tryz.func4
    (ChangeSpec.witness_shaped (enc := enc) (C := Tryz.checked) (os := os) (X := fun w _ => laidMetH Tryz.prog Rows.liveNoneRow.laid w) false (w0 os) liveNone_argW 8 rfl (liveNone_shaped os) (liveNone_input_ok os) (liveNone_pre_ok os H enc) (liveNone_sized_ok os H enc) (liveNone_door_met os _)) ?_
  intro W base args ds gs before hval0 hW _ _ _ _
  have hval : ∀ (j : Nat) t v, Tryz.f4.params[j]? = some t → args[j]? = some v → Value.okWide Tryz.prog W .any base t v := hval0
  have hW' := hW
  have hlt : ∀ p ∈ before, p.block < W.heap.size := fun p hp => hW.lt p hp
  obtain ⟨p, q, hA0, hV, rfl, hfz, hnd⟩ := hW
  have hA : DataW.TrodAll enc Tryz.prog W 0 (fun _ => true) true Tryz.f4.params.toList args.toList ds p := hA0
  have hA1 := hA
  rw [Tryz.params4] at hA hval
  obtain ⟨rfl, rfl⟩ := trodVars_none hV
  obtain ⟨v0, vs0, d0, ds0, a0, b0, e0, rfl, rfl, h0, hA⟩ := trodAll_cons hA
  obtain ⟨v1, vs1, d1, ds1, a1, b1, rfl, rfl, rfl, h1, hA⟩ := trodAll_cons hA
  obtain ⟨v2, vs2, d2, ds2, a2, b2, rfl, rfl, rfl, h2, hA⟩ := trodAll_cons hA
  obtain ⟨rfl, rfl, rfl⟩ := trodAll_nil hA
  have hargs : args = #[v0, v1, v2] := Array.ext' e0
  subst hargs
  obtain ⟨n0, rfl⟩ := cell_int Tryz.underlying22 (okWide_cell Tryz.underlying22 (by simp) (by simp) (hval 0 22 v0 rfl rfl))
  obtain ⟨p1, q1, c1, rfl⟩ := cell_slice Tryz.underlying23 (okWide_cell Tryz.underlying23 (by simp) (by simp) (hval 1 23 v1 rfl rfl))
  obtain ⟨m1, t1⟩ := h1
  obtain ⟨zs, hz⟩ := open_steps (v := .slice p1 q1 c1) t1
  obtain ⟨n2, rfl, l2, u2⟩ := cell_i64 Tryz.underlying3 (okWide_cell Tryz.underlying3 (by simp) (by simp) (hval 2 3 v2 rfl rfl))
  have hc := none_calls hz n0 n2
  refine hc.mono fun e W' ⟨he, hb⟩ => ?_
  subst he
  refine ⟨_, rfl, post_below (pa := _) (pv := []) hW' (fun _ _ _ => trodAll_mk1 (shut_bool Tryz.underlying4 _)) (fun sp hsp => ?_) (fun _ _ => rfl) rfl hb (ok_one liveNone_res_ok rfl (okWide_bool_mk Tryz.underlying4 _))⟩
  have h5 := carry hb (fun p hp => hlt p (List.mem_append_left _ hp)) hA1
  exact h5.respare kids full (fun t ht => by
    rw [Tryz.params4] at ht
    have h4 : t = 22 ∨ t = 23 ∨ t = 3 := by simpa [or_comm, or_assoc, or_left_comm] using ht
    show t < Tryz.prog.types.size
    rw [size]
    rcases h4 with h | h | h <;> (rw [h]; decide)) (fun p hp => hsp p (List.mem_append_left _ hp))

theorem liveNone_inst_ok : Tryz.f4.isInstance Tryz.prog Rows.liveNoneRow.origin Rows.liveNoneRow.targs := of_decide_eq_true (by kernel_rfl)
theorem liveNone_wrap_ok : Tryz.f4.isWrapper Tryz.prog Rows.liveNoneRow.wrapper Rows.liveNoneRow.mainSum := by
  unfold Func.isWrapper
  first | (rw [if_pos (by decide +kernel)]; kernel_rfl) | (rw [if_neg (by decide +kernel)]; exact ⟨rfl, rfl⟩)

theorem liveNone_holds : Rows.LiveNoneSaid :=
  OpenClaim.holds_of_wide 4 Tryz.f4 rfl rfl rfl rfl rfl rfl rfl ⟨rfl, rfl, rfl, rfl, rfl⟩ rfl rfl rfl rfl rfl liveNone_named Tryz.func4 liveNone_joined
    liveNone_inst_ok liveNone_wrap_ok
    (fun os started H enc _ => liveNone_lifted os started H enc)

theorem tie : Tryz.prog.laidByTextLater [("unicode/utf8.acceptRanges", Rows.laid_unicode_utf8_acceptRanges), ("internal/strconv.uint64pow10", Rows.laid_internal_strconv_uint64pow10), ("math/bits.deBruijn32tab", Rows.laid_math_bits_deBruijn32tab), ("math/bits.deBruijn64tab", Rows.laid_math_bits_deBruijn64tab)] [.data, .data, .data, .data] true := tieFour
theorem pin_first' : Tryz.pinned.checked.prog.pinnedFits "unicode/utf8.first" = true := pin_first
theorem pin_case' : Tryz.pinned.checked.prog.pinnedFits "unicode.CaseRanges" = true := pin_case
theorem card_main : Tryz.prog.mainIs = some (true, "461cf2e4580a305a84b7cb171e0c805678d65b2f3b3c093703dda9ae33f534d3".toList) := by kernel_rfl
theorem card_looks : true = Tryz.prog.looks [] := by kernel_rfl
theorem liveTells_row_tie : Rows.liveTellsRow.laidByTextAt .later Tryz.pinned [.pinned, .data, .data, .data, .data, .pinned] true :=
  OpenClaim.laidByTextAt_pinned rfl rfl tie rfl rfl rfl rfl (fun y hy _e => by
    simp only [Rows.liveTellsRow, List.zip_cons_cons, List.zip_nil_right, List.mem_cons, List.mem_nil_iff, or_false] at hy
    rcases hy with rfl | rfl | rfl | rfl | rfl | rfl
    · exact ⟨pin_first', by kernel_rfl⟩
    · cases _e
    · cases _e
    · cases _e
    · cases _e
    · exact ⟨pin_case', by kernel_rfl⟩) fits
theorem liveTells_card_wf : Rows.liveTellsRow.wfByText (OpenSpec.ofChange Rows.liveTellsSpec) = true := by kernel_rfl
theorem liveTells_card_plain : ([22, 3, 3, 23].all fun u => !Tryz.prog.wantsStandIn u) = true := by kernel_rfl
theorem liveTells_card_goes : false = Rows.liveTellsRow.goesBy Tryz.prog := by
  unfold OpenClaim.goesBy Program.goesAt Program.goesFrom
  rw [show Tryz.prog.funcNamed Rows.liveTellsRow.func = some 3 from liveTells_named, Option.any_some, goes_none stillL 3]
  rfl
theorem liveTells_card : Rows.LiveTellsCardSaid :=
  Claim7.holds_tied_plain_at .later [] [.pinned, .data, .data, .data, .data, .pinned] true (true, "461cf2e4580a305a84b7cb171e0c805678d65b2f3b3c093703dda9ae33f534d3") true
    liveTells_holds (fun _ h => by cases h) liveTells_card_wf (fun _ h => by cases h) liveTells_row_tie rfl ⟨rfl, rfl⟩ card_main rfl
    (fun f fn hf hfn => by
      obtain rfl : f = 3 := Option.some.inj (liveTells_named.symm.trans hf) |>.symm
      obtain rfl : fn = Tryz.f3 := (Option.some.inj (Tryz.func3.symm.trans hfn)).symm
      exact ⟨card_looks, fun j t ht => by
        rw [Tryz.params3] at ht
        have hm : t ∈ [22, 3, 3, 23] := by simpa using Array.mem_of_getElem? ht
        exact (show Tryz.prog.wantsStandIn t = false by simpa using List.all_eq_true.1 liveTells_card_plain t hm)⟩)
    liveTells_card_goes
#print axioms liveTells_card
theorem liveNone_row_tie : Rows.liveNoneRow.laidByTextAt .later Tryz.pinned [.pinned, .data, .data, .data, .data, .pinned] true :=
  OpenClaim.laidByTextAt_pinned rfl rfl tie rfl rfl rfl rfl (fun y hy _e => by
    simp only [Rows.liveNoneRow, List.zip_cons_cons, List.zip_nil_right, List.mem_cons, List.mem_nil_iff, or_false] at hy
    rcases hy with rfl | rfl | rfl | rfl | rfl | rfl
    · exact ⟨pin_first', by kernel_rfl⟩
    · cases _e
    · cases _e
    · cases _e
    · cases _e
    · exact ⟨pin_case', by kernel_rfl⟩) fits
theorem liveNone_card_wf : Rows.liveNoneRow.wfByText (OpenSpec.ofChange Rows.liveNoneSpec) = true := by kernel_rfl
theorem liveNone_card_plain : ([22, 23, 3].all fun u => !Tryz.prog.wantsStandIn u) = true := by kernel_rfl
theorem liveNone_card_goes : false = Rows.liveNoneRow.goesBy Tryz.prog := by
  unfold OpenClaim.goesBy Program.goesAt Program.goesFrom
  rw [show Tryz.prog.funcNamed Rows.liveNoneRow.func = some 4 from liveNone_named, Option.any_some, goes_none stillL 4]
  rfl
theorem liveNone_card : Rows.LiveNoneCardSaid :=
  Claim7.holds_tied_plain_at .later [] [.pinned, .data, .data, .data, .data, .pinned] true (true, "461cf2e4580a305a84b7cb171e0c805678d65b2f3b3c093703dda9ae33f534d3") true
    liveNone_holds (fun _ h => by cases h) liveNone_card_wf (fun _ h => by cases h) liveNone_row_tie rfl ⟨rfl, rfl⟩ card_main rfl
    (fun f fn hf hfn => by
      obtain rfl : f = 4 := Option.some.inj (liveNone_named.symm.trans hf) |>.symm
      obtain rfl : fn = Tryz.f4 := (Option.some.inj (Tryz.func4.symm.trans hfn)).symm
      exact ⟨card_looks, fun j t ht => by
        rw [Tryz.params4] at ht
        have hm : t ∈ [22, 23, 3] := by simpa using Array.mem_of_getElem? ht
        exact (show Tryz.prog.wantsStandIn t = false by simpa using List.all_eq_true.1 liveNone_card_plain t hm)⟩)
    liveNone_card_goes
#print axioms liveNone_card
end Go.Proofs.YtldlnopinlfpaaaGreatDoor
end
