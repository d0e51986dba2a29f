/-
  GatewayNone returns true in any world in which its arguments fit their types, and leaves what lies below as it was.
  Conditions: none beyond those that the statements bear.
-/
import Derived.Below
import Derived.Test.YtnomonahdnoniaaGreatDoorKa
import Derived.Test.YtnomonahdnoniaaGreatDoorKb
import Derived.Test.YtnomonahdnoniaaGreatDoorKc
import Derived.Test.YtnomonahdnoniaaGreatDoorKd
set_option maxRecDepth 100000
namespace Go.Bel

section
theorem all_nil : ∀ c ∈ ([] : List Chk), c.Ok tab := fun _ h => by cases h
theorem all_cons {c : Chk} {l : List Chk} (h : c.Ok tab) (t : ∀ d ∈ l, d.Ok tab) : ∀ d ∈ c :: l, d.Ok tab := fun d hd => by
  cases hd with
  | head => exact h
  | tail _ hm => exact t d hm
theorem ok24 : c24.Ok tab := Chk.run_ok tabOk (summOf_ok all_nil) kc24
theorem ok516 : c516.Ok tab := Chk.run_ok tabOk (summOf_ok all_nil) kc516
theorem ok1624 : c1624.Ok tab := Chk.run_ok tabOk (summOf_ok all_nil) kc1624
theorem ok1494 : c1494.Ok tab := Chk.run_ok tabOk (summOf_ok (all_cons ok1624 all_nil)) kc1494
theorem ok1847 : c1847.Ok tab := Chk.run_ok tabOk (summOf_ok all_nil) kc1847
theorem ok2080 : c2080.Ok tab := Chk.run_ok tabOk (summOf_ok all_nil) kc2080
theorem ok2341 : c2341.Ok tab := Chk.run_ok tabOk (summOf_ok all_nil) kc2341
theorem ok2214 : c2214.Ok tab := Chk.run_ok tabOk (summOf_ok (all_cons ok2341 all_nil)) kc2214
theorem ok4641 : c4641.Ok tab := Chk.run_ok tabOk (summOf_ok all_nil) kc4641
theorem ok5090 : c5090.Ok tab := Chk.run_ok tabOk (summOf_ok all_nil) kc5090
theorem ok5074 : c5074.Ok tab := Chk.run_ok tabOk (summOf_ok (all_cons ok5090 (all_cons ok8238 all_nil))) kc5074
theorem ok5035 : c5035.Ok tab := Chk.run_ok tabOk (summOf_ok (all_cons ok5074 all_nil)) kc5035
theorem ok11348 : c11348.Ok tab := Chk.run_ok tabOk (summOf_ok all_nil) kc11348
theorem ok11218 : c11218.Ok tab := Chk.run_ok tabOk (summOf_ok (all_cons ok11348 (all_cons ok11613 all_nil))) kc11218
theorem ok13440 : c13440.Ok tab := Chk.run_ok tabOk (summOf_ok all_nil) kc13440
theorem ok14230 : c14230.Ok tab := Chk.run_ok tabOk (summOf_ok all_nil) kc14230
theorem okW : cW.Ok tab := Chk.run_ok tabOk (summOf_ok (all_cons ok24 (all_cons ok516 (all_cons ok1494 (all_cons ok1847 (all_cons ok2080 (all_cons ok2214 (all_cons ok4641 (all_cons ok5035 (all_cons ok11218 (all_cons ok13440 (all_cons ok14230 all_nil)))))))))))) kcW
end

section
open Go.RowKit

theorem calls_of {P : Program} {f : FuncId} {args args' : List Value} {n : Nat} {s1 : St} {W : World} (h : CallOk P f args { heap := .nil, next := n } (.ret (.bool true)) s1) (ha : VRelL (fun _ => none) args args') :
    Calls P f ⟨args'⟩ W fun e W' => e = .returned (.bool true) ∧ Below W.heap.size W W' := by
  intro cs
  have hs : SRel (fun _ => none) { heap := .nil, next := n } W := ⟨⟨fun i o hi => (by cases hi), fun i c hi => (by cases hi), fun i j o o' b b' hi => (by cases hi), fun i j o c b b' hi => (by cases hi)⟩, fun i hi => rfl, fun _ _ => rfl⟩
  obtain ⟨ρ', w', fr, e, hp, hr, hst, hl, hfn⟩ := h _ W args' cs hs ha
  cases e with
  | panicked c => exact hr.elim
  | outgrown => exact hr.elim
  | returned v =>
  have hv : v = .bool true := VRel.bool hr
  subst hv
  have k := hp.kept
  refine ⟨.returned (.bool true), w', fr, ⟨rfl, ⟨k.os, k.tape, k.output, k.size, fun i hi => k.block i hi ?_⟩⟩, hst, hfn, hl⟩
  rintro ⟨j, o, b, h1, _⟩
  cases h1

section
variable {P : Program} {W : World} {r : Reach} {base : Nat} {u : TypeId} {v : Value}
theorem cell_int {k : IntKind} (hu : P.underlying u = some (.int k)) (h : Cell.okWide P W r base u v) : ∃ n, v = .int k n := by
  cases v <;> simp only [Cell.okWide, Cell.ok, hu] at h
  rename_i k' n
  obtain ⟨rfl, _⟩ := h
  exact ⟨n, rfl⟩
theorem cell_bool (hu : P.underlying u = some .bool) (h : Cell.okWide P W r base u v) : ∃ b, v = .bool b := by
  cases v <;> simp only [Cell.okWide, Cell.ok, hu] at h
  exact ⟨_, rfl⟩
theorem cell_slice {e : TypeId} (hu : P.underlying u = some (.slice e)) (h : Cell.okWide P W r base u v) : ∃ a n c, v = .slice a n c := by
  cases v <;> simp only [Cell.okWide, Cell.ok, hu] at h
  exact ⟨_, _, _, rfl⟩
theorem okWide_cell {d : TypeDesc} (hu : P.underlying u = some d) (h1 : ∀ fs, d ≠ .struct fs) (h2 : ∀ n e, d ≠ .array n e) (h : Value.okWide P W r base u v) : Cell.okWide P W r base u v := by
  unfold Value.okWide at h
  rw [hu] at h
  cases d <;> first | exact h | exact absurd rfl (h1 _) | exact absurd rfl (h2 _ _)
end

def any : Value := .chan (some 5)
def stepX (tag : Nat) : Value := .agg ⟨[any, any, any, any, any, .chan (some tag)]⟩
def argG (tag : Nat) (z : Bool) : List Value := [stepX tag, any, any, .bool z]

theorem U26 : Go.Proofs.Tryz.prog.cellTypes Go.Proofs.Tryz.prog.depth 26 = some [22, 23, 3, 23, 23, 24] := by kernel_rfl
theorem U22 : Go.Proofs.Tryz.prog.underlying 22 = some (.int .i64) := by kernel_rfl
theorem U23 : Go.Proofs.Tryz.prog.underlying 23 = some (.int .u64) := by kernel_rfl
theorem U3 : Go.Proofs.Tryz.prog.underlying 3 = some (.int .i64) := by kernel_rfl
theorem U4 : Go.Proofs.Tryz.prog.underlying 4 = some .bool := by kernel_rfl
theorem U24 : Go.Proofs.Tryz.prog.underlying 24 = some (.slice 5) := by kernel_rfl
def isStruct : Option TypeDesc → Bool
  | some (.struct _) => true
  | _ => false
theorem U26s : isStruct (Go.Proofs.Tryz.prog.underlying 26) = true := by kernel_rfl
theorem U26c : Go.Proofs.Tryz.prog.cellsOf 26 = 6 := by kernel_rfl

theorem open_args {W : World} {base : Nat} {v0 v1 v2 v3 : Value} {ρ : Rho} (h0 : Value.okWide Go.Proofs.Tryz.prog W .any base 26 v0) (h1 : Value.okWide Go.Proofs.Tryz.prog W .any base 3 v1) (h2 : Value.okWide Go.Proofs.Tryz.prog W .any base 23 v2)
    (h3 : Value.okWide Go.Proofs.Tryz.prog W .any base 4 v3) : ∃ tag z, (tag = 1 ∨ tag = 2) ∧ VRelL ρ (argG tag z) [v0, v1, v2, v3] := by
  obtain ⟨n1, rfl⟩ := cell_int U3 (okWide_cell U3 (by simp) (by simp) h1)
  obtain ⟨n2, rfl⟩ := cell_int U23 (okWide_cell U23 (by simp) (by simp) h2)
  obtain ⟨z, rfl⟩ := cell_bool U4 (okWide_cell U4 (by simp) (by simp) h3)
  unfold Value.okWide at h0
  have hs := U26s
  cases hu : Go.Proofs.Tryz.prog.underlying 26 with
  | none => rw [hu] at hs; cases hs
  | some d =>
  rw [hu] at hs h0
  cases d with
  | struct fs =>
    simp only at h0
    obtain ⟨cs, rfl, hsz, ts, hts, _, hc⟩ := h0
    rw [U26] at hts
    simp only [Option.some.injEq] at hts
    subst hts
    rw [U26c] at hsz
    obtain ⟨l⟩ := cs
    match l, hsz with
    | [c0, c1, c2, c3, c4, c5], _ =>
      have get : ∀ (i : Nat) (v : Value) (u : TypeId), ([c0, c1, c2, c3, c4, c5] : List Value)[i]? = some v → ([22, 23, 3, 23, 23, 24] : List TypeId)[i % 6]? = some u → Cell.okWide Go.Proofs.Tryz.prog W .any base u v := by
        intro i v u hv hu
        obtain ⟨u', hu', ho⟩ := hc i v (by simpa using hv)
        have : u' = u := by
          have : ([22, 23, 3, 23, 23, 24] : List TypeId)[i % 6]? = some u' := hu'
          rw [hu] at this; exact (Option.some.inj this).symm
        subst this; exact ho
      obtain ⟨m0, rfl⟩ := cell_int U22 (get 0 c0 22 rfl rfl)
      obtain ⟨m1, rfl⟩ := cell_int U23 (get 1 c1 23 rfl rfl)
      obtain ⟨m2, rfl⟩ := cell_int U3 (get 2 c2 3 rfl rfl)
      obtain ⟨m3, rfl⟩ := cell_int U23 (get 3 c3 23 rfl rfl)
      obtain ⟨m4, rfl⟩ := cell_int U23 (get 4 c4 23 rfl rfl)
      obtain ⟨a, n, c, rfl⟩ := cell_slice U24 (get 5 c5 24 rfl rfl)
      have tail : VRelL ρ [any, any, .bool z] [.int .i64 n1, .int .u64 n2, .bool z] := .cons .anyI (.cons .anyI (.cons (.atom rfl) .nil))
      by_cases hn : n ≤ 400
      · exact ⟨1, z, .inl rfl, .cons (.agg (.cons .anyI (.cons .anyI (.cons .anyI (.cons .anyI (.cons .anyI (.cons (.shortS hn) .nil))))))) tail⟩
      · exact ⟨2, z, .inr rfl, .cons (.agg (.cons .anyI (.cons .anyI (.cons .anyI (.cons .anyI (.cons .anyI (.cons (.longS (by omega)) .nil))))))) tail⟩
  | _ => cases hs
end

section
noncomputable def gRun (tag n0 : Nat) (z : Bool) : Bool := match ev2 tab (summOf [cW]) 100000 (.call 3 (argG tag z)) { heap := .nil, next := n0 } with
  | some (.res (.ret v), _) => veq v (.bool true)
  | _ => false
theorem g1t : gRun 1 0 true = true := by kernel_rfl
theorem g1f : gRun 1 1 false = true := by kernel_rfl
theorem g2t : gRun 2 20 true = true := by kernel_rfl
theorem g2f : gRun 2 20 false = true := by kernel_rfl
theorem gRun_ok {tag n0 : Nat} {z : Bool} (h : gRun tag n0 z = true) : ∃ s1, CallOk tab.P 3 (argG tag z) { heap := .nil, next := n0 } (.ret (.bool true)) s1 := by
  unfold gRun at h
  split at h
  · rename_i v s1 hev
    rw [ev2_eq] at hev
    have hc := ev_sound tabOk (summOf_ok (all_cons okW all_nil)) _ _ _ _ _ hev
    simp only [TaskOk] at hc
    rw [veq_sound _ _ h] at hc
    exact ⟨s1, hc⟩
  · cases h
theorem g_all {tag : Nat} (ht : tag = 1 ∨ tag = 2) (z : Bool) : ∃ n0, gRun tag n0 z = true := by
  rcases ht with rfl | rfl <;> cases z
  · exact ⟨1, g1f⟩
  · exact ⟨0, g1t⟩
  · exact ⟨20, g2f⟩
  · exact ⟨20, g2t⟩
/-- the law, in any world -/
theorem gateway_calls {W : World} {base : Nat} {v0 v1 v2 v3 : Value} (h0 : Value.okWide Go.Proofs.Tryz.prog W .any base 26 v0) (h1 : Value.okWide Go.Proofs.Tryz.prog W .any base 3 v1) (h2 : Value.okWide Go.Proofs.Tryz.prog W .any base 23 v2)
    (h3 : Value.okWide Go.Proofs.Tryz.prog W .any base 4 v3) : Calls Go.Proofs.Tryz.prog 3 #[v0, v1, v2, v3] W fun e W' => e = .returned (.bool true) ∧ Go.RowKit.Below W.heap.size W W' := by
  obtain ⟨tag, z, ht, ha⟩ := open_args (ρ := fun _ => none) h0 h1 h2 h3
  obtain ⟨n0, hg⟩ := g_all ht z
  obtain ⟨s1, hc⟩ := gRun_ok hg
  exact calls_of hc ha
end

end Go.Bel
