/-
  works(), in any world, returns true and leaves what lies below as it was.
  Conditions: none beyond those that the statements bear.
-/
import Derived.Below
import Derived.Test.YtldlnopinlfpaaaGreatDoorKa
import Derived.Test.YtldlnopinlfpaaaGreatDoorKb
import Derived.Test.YtldlnopinlfpaaaGreatDoorKc
import Derived.Test.YtldlnopinlfpaaaGreatDoorKd
set_option maxRecDepth 100000

section
namespace Go.Bel
theorem all_nil : ∀ c ∈ ([] : List Chk), c.Ok tab := fun _ h => by cases h
theorem all_cons {c : Chk} {l : List Chk} (h : c.Ok tab) (t : ∀ d ∈ l, d.Ok tab) : ∀ d ∈ c :: l, d.Ok tab := fun d hd => by
  cases hd with
  | head => exact h
  | tail _ hm => exact t d hm
theorem ok110 : c110.Ok tab := Chk.run_ok tabOk (summOf_ok all_nil) kc110
theorem ok602 : c602.Ok tab := Chk.run_ok tabOk (summOf_ok all_nil) kc602
theorem ok1510 : c1510.Ok tab := Chk.run_ok tabOk (summOf_ok all_nil) kc1510
theorem ok1811 : c1811.Ok tab := Chk.run_ok tabOk (summOf_ok all_nil) kc1811
theorem ok1992 : c1992.Ok tab := Chk.run_ok tabOk (summOf_ok all_nil) kc1992
theorem ok2201 : c2201.Ok tab := Chk.run_ok tabOk (summOf_ok all_nil) kc2201
theorem ok2074 : c2074.Ok tab := Chk.run_ok tabOk (summOf_ok (all_cons ok2201 all_nil)) kc2074
theorem ok4922 : c4922.Ok tab := Chk.run_ok tabOk (summOf_ok all_nil) kc4922
theorem ok4506 : c4506.Ok tab := Chk.run_ok tabOk (summOf_ok (all_cons ok4922 all_nil)) kc4506
theorem ok7116 : c7116.Ok tab := Chk.run_ok tabOk (summOf_ok all_nil) kc7116
theorem ok6700 : c6700.Ok tab := Chk.run_ok tabOk (summOf_ok (all_cons ok7116 all_nil)) kc6700
theorem ok7859 : c7859.Ok tab := Chk.run_ok tabOk (summOf_ok all_nil) kc7859
theorem okW : cW.Ok tab := Chk.run_ok tabOk (summOf_ok (all_cons ok110 (all_cons ok602 (all_cons ok1510 (all_cons ok1811 (all_cons ok1992 (all_cons ok2074 (all_cons ok4506 (all_cons ok6700 (all_cons ok7859 all_nil)))))))))) kcW
end Go.Bel
end

section
namespace Go.Bel
open Go.RowKit

theorem Post.below {ρ : Rho} {s : St} {w w' : World} (hs : SRel ρ s w) (hb : Below w.heap.size w w') : Post ρ s w ρ s w' where
  same _ _ := rfl
  rel := by
    have keep : ∀ {k : Nat} {o : Obj}, w.heap[k]? = some o → w'.heap[k]? = some o := fun {k o} h => by
      rw [hb.block k (Array.getElem?_eq_some_iff.1 h).1]; exact h
    refine ⟨⟨fun i o hi => ?_, fun i c hi => ?_, hs.heap.apart, hs.heap.roApart⟩, hs.fresh, hs.none⟩
    · obtain ⟨b, o', h1, h2, h3⟩ := hs.heap.rw i o hi
      exact ⟨b, o', h1, keep h2, h3⟩
    · obtain ⟨b, c', e, f, h1, h2, h3⟩ := hs.heap.ro i c hi
      exact ⟨b, c', e, f, h1, keep h2, h3⟩
  kept := ⟨hb.os, hb.tape, hb.output, hb.size, fun k hk _ => hb.block k hk⟩
  own _ h := .inr h
  next := Nat.le_refl _
  gone _ _ h := h
  old _ _ h := h

theorem stepR_call {P : Program} {b : Frame} {a : Act} {k : List Item} {cs : List Frame} {w w1 : World} {ops : Array Oper} {i : Nat} {rest : List Nat} {o : Oper} {f : FuncId} {args : Array Value} {R : Ending → World → Prop}
    (ho : ops[i]? = some o) (hw : Region.wanted o (yielded ops a.tmps) = true) (hr : (o.semAt b.roundOf a.eval).run P w = .ok (.enter f args) w1) (h : Calls P f args w1 R) (hret : ∀ e w', R e w' → ∃ v, e = .returned v) :
    ∃ v w', R (.returned v) w' ∧ Steps P (lone (b.atR a (.inRegion ops (i :: rest) :: k)) cs w) (lone (b.atR (a.put o.dst v) (.inRegion ops rest :: k)) cs w') := by
  obtain ⟨e, w', fr, hR, hst, hfn, hlv⟩ := h (b.atR a (.inRegion ops (i :: rest) :: k) :: cs)
  obtain ⟨v, rfl⟩ := hret e w' hR
  exact ⟨v, w', hR, .head (stepR_enterN ho hw hr) (Steps.trans hst (.one (by rw [← fin_atR ho]; exact step_leave_returned hlv)))⟩
theorem calls_of {P : Program} {f : FuncId} {args args' : List Value} {n : Nat} {s1 : St} {W : World} (h : CallOk P f args { heap := .nil, next := n } (.ret (.bool true)) s1) (ha : VRelL (fun _ => none) args args') :
    Calls P f ⟨args'⟩ W fun e W' => e = .returned (.bool true) ∧ Below W.heap.size W W' := by
  intro cs
  have hs : SRel (fun _ => none) { heap := .nil, next := n } W := ⟨⟨fun i o hi => (by cases hi), fun i c hi => (by cases hi), fun i j o o' b b' hi => (by cases hi), fun i j o c b b' hi => (by cases hi)⟩, fun i hi => rfl, fun _ _ => rfl⟩
  obtain ⟨ρ', w', fr, e, hp, hr, hst, hl, hfn⟩ := h _ W args' cs hs ha
  cases e with
  | panicked c => exact hr.elim
  | outgrown => exact hr.elim
  | returned v =>
  have hv : v = .bool true := VRel.bool hr
  subst hv
  have k := hp.kept
  refine ⟨.returned (.bool true), w', fr, ⟨rfl, ⟨k.os, k.tape, k.output, k.size, fun i hi => k.block i hi ?_⟩⟩, hst, hfn, hl⟩
  rintro ⟨j, o, b, h1, _⟩
  cases h1


section
variable {P : Program} {W : World} {r : Reach} {base : Nat} {u : TypeId} {v : Value}
theorem cell_int {k : IntKind} (hu : P.underlying u = some (.int k)) (h : Cell.okWide P W r base u v) : ∃ n, v = .int k n := by
  cases v <;> simp only [Cell.okWide, Cell.ok, hu] at h
  rename_i k' n
  obtain ⟨rfl, _⟩ := h
  exact ⟨n, rfl⟩
theorem cell_bool (hu : P.underlying u = some .bool) (h : Cell.okWide P W r base u v) : ∃ b, v = .bool b := by
  cases v <;> simp only [Cell.okWide, Cell.ok, hu] at h
  exact ⟨_, rfl⟩
theorem cell_slice {e : TypeId} (hu : P.underlying u = some (.slice e)) (h : Cell.okWide P W r base u v) : ∃ a n c, v = .slice a n c := by
  cases v <;> simp only [Cell.okWide, Cell.ok, hu] at h
  exact ⟨_, _, _, rfl⟩
theorem okWide_cell {d : TypeDesc} (hu : P.underlying u = some d) (h1 : ∀ fs, d ≠ .struct fs) (h2 : ∀ n e, d ≠ .array n e) (h : Value.okWide P W r base u v) : Cell.okWide P W r base u v := by
  unfold Value.okWide at h
  rw [hu] at h
  cases d <;> first | exact h | exact absurd rfl (h1 _) | exact absurd rfl (h2 _ _)
end

end Go.Bel
end

section
namespace Go.Bel
open Go.RowKit
theorem works_calls (W : World) : Calls Go.Proofs.Tryz.prog 6 #[] W fun e W' => e = .returned (.bool true) ∧ Below W.heap.size W W' :=
  calls_of (n := 23) (s1 := cW.s1) okW.1 .nil
end Go.Bel
end
