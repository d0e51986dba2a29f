/-
  Fair, Bound; LiveTells returns true, whatever its arguments.
  Conditions: none beyond those that the statements bear.
-/
import Derived.WalkKit
import Derived.Defers
import Derived.Recover
import Derived.Laws.Pointers
import Derived.Deep.LoopGhost
import Derived.Test.YtldlnopinlfpaaaGreatDoorL
import Derived.Test.YtldlnopinlfpaaaGreatDoorR
set_option maxRecDepth 100000

section
namespace Go.Proofs
open Go Go.RowKit Go.Lv

theorem fair1 (B : Nat) (conn : Int) (w : World) (hB : B < w.heap.size) (h0 : w.cell? ⟨B, 0, none⟩ = some (.int .u64 conn)) :
    Pred 30 #[.pointer (some ⟨B, 0, none⟩)] (grants conn) w := by
  intro W x hb
  have g0 := (hb.cell (p := ⟨B, 0, none⟩) hB).trans h0
  have hs : w.heap.size ≤ W.heap.size := hb.size
  have hbel : Aside (∀ o, Below w.heap.size w (W.alloc o)) := fun o => hb.alloc hs o
  have k0 : ∀ o, (W.alloc o).cell? ⟨B, 0, none⟩ = some (.int .u64 conn) := fun o => by
    have : B < W.heap.size := by omega
    simp [World.cell?_alloc_past, this, g0]
  show Calls Tryz.prog 30 #[.agg (enc x).toArray, .pointer (some ⟨B, 0, none⟩)] W _
  unfold enc
  have B1 : Aside (grants conn x = (decide (x.k = 4) && (decide (x.c = conn) && decide (0 < x.n)))) := rfl
  generalize grants conn x = r at B1 ⊢
  go_enter Tryz.func30, Tryz.ntmps30
  go_wp2
  · have h1 : x.k = 4 := by assumption
    have h2 : x.c = conn := by assumption
    go_ret
    refine ⟨?_, hbel.out _⟩
    rw [B1.out, h1, h2]
    simp
  · have h1 : x.k = 4 := by assumption
    have h2 : ¬ x.c = conn := by assumption
    go_ret
    refine ⟨?_, hbel.out _⟩
    rw [B1.out]
    simp [h2]
  · have h1 : ¬ x.k = 4 := by assumption
    go_ret
    refine ⟨?_, hbel.out _⟩
    rw [B1.out]
    simp [h1]

theorem enters30 : ∀ (args : Array Value) (w : World), (callFunc 30 args).run Tryz.prog w = .ok (.enter 30 args) w := enters_of Tryz.func30 (by kernel_rfl) rfl

theorem fair_some (b off n c : Nat) (conn : Int) (m : Nat) (zs : List Stp) (w : World) (hz : zs.length = n) (hn : n ≤ c) (hbig : n ≤ 9223372036854775807) (hm : 1 ≤ m) (hmb : m ≤ 9223372036854775807) (hb : b < w.heap.size) (hc : RowAt w b off zs) :
    Calls Tryz.prog 12 #[.int .u64 conn, .int .i64 m, .slice (some ⟨b, off, none⟩) n c] w fun e w' => e = .returned (.bool (fairGo (grants conn) m zs)) ∧ Below w.heap.size w w' := by
  have S1 : Aside (∀ k, m ≤ n - k → fairGo (grants conn) m (zs.drop k) = if ((zs.drop k).take m).any (grants conn) = true then fairGo (grants conn) m (zs.drop (k + 1)) else false) := fun k hk => by
    rw [List.drop_eq_getElem_cons (by omega : k < zs.length), fairGo, ← List.drop_eq_getElem_cons (by omega : k < zs.length), if_pos (by rw [List.length_drop]; omega)]
  have S2 : Aside (∀ k, ¬ m ≤ n - k → fairGo (grants conn) m (zs.drop k) = true) := fun k hk => by
    cases hd : zs.drop k with
    | nil => rfl
    | cons x l =>
      have hl : (zs.drop k).length = l.length + 1 := by rw [hd]; rfl
      rw [List.length_drop] at hl
      rw [fairGo, if_neg (by simp only [List.length_cons]; omega)]
  obtain ⟨r, hr⟩ : ∃ r, r = fairGo (grants conn) m zs := ⟨_, rfl⟩
  have R0 : Aside (fairGo (grants conn) m (zs.drop 0) = r) := by rw [hr]; rfl
  rw [← hr]
  clear hr
  have hbel : Below w.heap.size w (w.alloc (Obj.cells #[Value.int IntKind.u64 conn] 22)) := (Below.refl _ w).alloc (Nat.le_refl _) _
  have BW0 : Aside _ := hbel
  have hcell : (w.alloc (Obj.cells #[Value.int IntKind.u64 conn] 22)).cell? ⟨w.heap.size, 0, none⟩ = some (.int .u64 conn) := by simp
  have C0 : Aside _ := hcell
  have hsz : (w.alloc (Obj.cells #[Value.int IntKind.u64 conn] 22)).heap.size = w.heap.size + 1 := by simp
  have Z0 : Aside _ := hsz
  clear hbel hcell hsz
  go_enter Tryz.func12, Tryz.ntmps12
  go_wp2
  go_loopg [2] n (fun gg s2 wr => ∃ (k cp : Nat) (ao : Option Addr), k ≤ n ∧ n - k ≤ gg ∧ n - k ≤ cp ∧ s2 = .slice ao (n - k) cp ∧ Aside (k < n → ao = some ⟨b, off + k * 6, none⟩) ∧
    Aside (Below (w.heap.size + 1) (w.alloc (Obj.cells #[Value.int IntKind.u64 conn] 22)) wr) ∧ Aside (fairGo (grants conn) m (zs.drop k) = r))
  case atStart => exact ⟨0, c, some ⟨b, off, none⟩, Nat.zero_le _, by omega, by omega, rfl, (show Aside _ from fun _ => by simp), Below.refl _ _, R0⟩
  case round =>
    obtain ⟨k, cp, ao, hk, hg, hcp, rfl, ha, BW, A⟩ := hrel
    by_cases hlt : m ≤ n - k
    · have hkn : k < n := by omega
      obtain rfl := ha.out hkn
      have hb0 : Below (w.alloc (Obj.cells #[Value.int IntKind.u64 conn] 22)).heap.size (w.alloc (Obj.cells #[Value.int IntKind.u64 conn] 22)) wr := by rw [Z0.out]; exact BW.out
      have hsz := Z0.out
      have hP := fair1 w.heap.size conn wr (by have := hb0.size; omega) ((hb0.cell (p := ⟨w.heap.size, 0, none⟩) (by show w.heap.size < _; omega)).trans C0.out)
      have hrow := ((hc.below BW0.out hb).below hb0 (by omega)).drop k
      have hcall := has_some (grants conn) 30 _ enters30 b (off + k * 6) m cp (zs.drop k) wr hP (by rw [List.length_drop]; omega) (by omega) (by have := hb0.size; omega) hrow
      have A2 := S1.out k hlt
      rw [A.out] at A2
      generalize ((zs.drop k).take m).any (grants conn) = q at hcall A2
      have A3 : Aside _ := A2
      have hs2 : w.heap.size + 1 ≤ wr.heap.size := by have := hb0.size; omega
      have HS : Aside _ := hs2
      clear hP hrow A2 hb0 hsz hc hs2
      have hlz : (m : Int) ≤ ((n - k : Nat) : Int) := by omega
      have hmz : (1 : Int) ≤ (m : Int) := by omega
      cases q with
      | true =>
        go_wp2_with (go_at_call 27; refine hcall.mono ?_; rintro e w' ⟨rfl, hb'⟩)
        · have h1 : n - k = 1 := by assumption
          go_roundg (n - (k + 1))
          case measure => omega
          case rel =>
            refine ⟨k + 1, 0, some ⟨b, off + k * 6, none⟩, by omega, by omega, by omega, ?_, (show Aside _ from fun h => by omega), (show Aside _ from BW.out.trans (hb'.mono HS.out)), (show Aside _ from ?_)⟩
            · rw [show n - (k + 1) = 0 by omega]
            · show fairGo (grants conn) m (zs.drop (k + 1)) = r
              simpa using A3.out.symm
        · go_roundg (n - (k + 1))
          case measure => omega
          case rel =>
            refine ⟨k + 1, n - k - 1, some ⟨b, off + k * 6 + 6, none⟩, by omega, by omega, by omega, ?_, (show Aside _ from fun h => by rw [show off + (k + 1) * 6 = off + k * 6 + 6 by omega]), (show Aside _ from BW.out.trans (hb'.mono HS.out)), (show Aside _ from ?_)⟩
            · rw [show n - (k + 1) = n - k - 1 by omega]
            · show fairGo (grants conn) m (zs.drop (k + 1)) = r
              simpa using A3.out.symm
      | false =>
        go_wp2_with (go_at_call 27; refine hcall.mono ?_; rintro e w' ⟨rfl, hb'⟩)
        go_ret
        refine ⟨?_, BW0.out.trans ((BW.out.mono (by omega)).trans (hb'.mono (by have := HS.out; omega)))⟩
        rw [A3.out]; rfl
    · have hlz : ¬ (m : Int) ≤ ((n - k : Nat) : Int) := by omega
      have A2 := S2.out k hlt
      rw [A.out] at A2
      subst A2
      clear hc
      go_wp2
      go_ret
      exact ⟨rfl, BW0.out.trans (BW.out.mono (by omega))⟩

theorem fair_none (conn : Int) (m : Nat) (ao : Option Addr) (c : Nat) (w : World) (hm : 1 ≤ m) :
    Calls Tryz.prog 12 #[.int .u64 conn, .int .i64 m, .slice ao 0 c] w fun e w' => e = .returned (.bool true) ∧ Below w.heap.size w w' := by
  have BW0 : Aside (Below w.heap.size w (w.alloc (Obj.cells #[Value.int IntKind.u64 conn] 22))) := (Below.refl _ w).alloc (Nat.le_refl _) _
  have hmz : ¬ (m : Int) ≤ 0 := by omega
  go_enter Tryz.func12, Tryz.ntmps12
  go_wp2
  go_loopg [2] 0 (fun _ s2 wr => s2 = .slice ao 0 c ∧ wr = w.alloc (Obj.cells #[Value.int IntKind.u64 conn] 22))
  case atStart => exact ⟨rfl, rfl⟩
  case round =>
    obtain ⟨rfl, rfl⟩ := hrel
    go_wp2
    go_ret
    exact ⟨rfl, BW0.out⟩

theorem fair_less (conn wd : Int) (v : Value) (w : World) (hw : wd < 1) :
    Calls Tryz.prog 12 #[.int .u64 conn, .int .i64 wd, v] w fun e w' => e = .returned (.bool false) ∧ Below w.heap.size w w' := by
  have BW0 : Aside (Below w.heap.size w (w.alloc (Obj.cells #[Value.int IntKind.u64 conn] 22))) := (Below.refl _ w).alloc (Nat.le_refl _) _
  go_enter Tryz.func12, Tryz.ntmps12
  go_wp2
  go_loopg [2] 0 (fun _ s2 wr => s2 = v ∧ wr = w.alloc (Obj.cells #[Value.int IntKind.u64 conn] 22))
  case atStart => exact ⟨rfl, rfl⟩
  case round =>
    obtain ⟨rfl, rfl⟩ := hrel
    go_wp2
    go_ret
    exact ⟨rfl, BW0.out⟩

/-- is it fair? as the document says -/
theorem fair_any {w : World} {v : Value} {zs : List Stp} (h : Arg w v zs) (conn wd : Int) (hwd : wd ≤ 9223372036854775807) :
    Calls Tryz.prog 12 #[.int .u64 conn, .int .i64 wd, v] w fun e w' => e = .returned (.bool (fairD conn wd zs)) ∧ Below w.heap.size w w' := by
  unfold fairD
  by_cases hw : 1 ≤ wd
  · rw [if_pos hw]
    obtain ⟨m, rfl⟩ : ∃ m : Nat, wd = m := ⟨wd.toNat, by omega⟩
    rw [show (m : Int).toNat = m from rfl, ← fair_same (grants conn) m (by omega)]
    rcases h with ⟨rfl, ao, c, rfl⟩ | ⟨_, b, off, c, rfl, hr, hb, hm, hcap⟩
    · exact fair_none conn m ao c w (by omega)
    · exact fair_some b off zs.length c conn m zs w rfl hcap (by unfold maxLen at hm; omega) (by omega) (by omega) hb hr
  · rw [if_neg hw]
    exact fair_less conn wd v w (by omega)
end Go.Proofs
end

section
namespace Go.Proofs
open Go Go.RowKit

theorem clear_calls (p : Addr) (x : Int) (w : World) (hc : w.cell? p = some (.int .i64 x)) (hz : w.frozen? p = false) :
    Calls Tryz.prog 24 #[.pointer (some p)] w fun e w' => e = .returned (.tuple #[]) ∧ w' = w.setCell p (.int .i64 0) := by
  go_enter Tryz.func24, Tryz.ntmps24
  go_wp2
  go_end0
  exact ⟨rfl, rfl⟩

theorem caught_idle (pe pn : Addr) (w : World) :
    CallsD Tryz.prog 23 #[.pointer (some pe), .func (.func 24) #[] #[.pointer (some pn)]] .returning w fun e u' w' => e = .returned (.tuple #[]) ∧ u' = .returning ∧ w' = w := by
  refine callsD_of_wpS Tryz.func23 rfl fun c₀ cs hu => ?_
  apply wpS_seq
  apply wpS_region
  simp [wpOpsS, go_sem, recoverD, hu, Tryz.ntmps23, Exit.thenS]
  apply wpS_seq
  apply wpS_seq
  apply wpS_region
  simp [wpOpsS, go_sem, Exit.thenS]
  refine wpS_cond (t := true) (by simp [Act.eval]) ?_
  simp only [if_true]
  refine wpS_of_wp (wp_ret ?_)
  cases c₀
  simp_all [Exit.thenS, bodyPostS, results, Tryz.results23]

theorem ta1 : ∀ w, Sem.run Tryz.prog (Instr.typeAssert (.iface 26 (.int .i64 2)) 20 26 true) w = .ok (.tuple #[.int .i64 2, .bool true]) w := fun w => by kernel_rfl
theorem caught_panicking (pe pn : Addr) (e0 n0 : Int) (older : List PanicEntry) (w : World) (he : w.cell? pe = some (.int .i64 e0)) (hze : w.frozen? pe = false) (hn : w.cell? pn = some (.int .i64 n0)) (hzn : w.frozen? pn = false)
    (hne : ¬ pn = pe) :
    CallsD Tryz.prog 23 #[.pointer (some pe), .func (.func 24) #[] #[.pointer (some pn)]] (.panicking ({ v := .iface 26 (.int .i64 2), recovered := false } :: older)) w fun e u' w' =>
      e = .returned (.tuple #[]) ∧ u' = .panicking ({ v := .iface 26 (.int .i64 2), recovered := true } :: older) ∧ w' = (w.setCell pn (.int .i64 0)).setCell pe (.int .i64 2) := by
  refine callsD_of_wpS Tryz.func23 rfl fun c₀ cs hu => ?_
  apply wpS_seq
  apply wpS_region
  simp [wpOpsS, go_sem, recoverD, hu, Tryz.ntmps23, Exit.thenS]
  apply wpS_seq
  apply wpS_seq
  apply wpS_region
  simp [wpOpsS, go_sem, Exit.thenS]
  refine wpS_cond (t := false) (by simp [Act.eval]) ?_
  simp only [Bool.false_eq_true, if_false]
  refine wpS_of_wp (wp_skip ?_)
  simp only [Exit.thenS]
  apply wpS_seq
  apply wpS_region
  simp [wpOpsS, go_sem, Exit.thenS, ta1]
  apply wpS_seq
  apply wpS_seq
  apply wpS_region
  simp [wpOpsS, go_sem, Exit.thenS]
  refine wpS_cond (t := false) (by simp [Act.eval]) ?_
  simp only [Bool.false_eq_true, if_false]
  refine wpS_of_wp (wp_skip ?_)
  simp only [Exit.thenS]
  apply wpS_seq
  apply wpS_region
  simp [wpOpsS, go_sem, Exit.thenS]
  refine (clear_calls pn n0 w hn hzn).mono ?_
  rintro e w1 ⟨rfl, rfl⟩
  have he1 : (w.setCell pn (.int .i64 0)).cell? pe = some (.int .i64 e0) := (World.cell?_setCell_other w pn pe _ hne).trans he
  have hz1 : (w.setCell pn (.int .i64 0)).frozen? pe = false := by rw [World.frozen?_setCell]; exact hze
  apply wpS_region
  simp [wpOpsS, go_sem, he1, hz1, bodyPostS, results, Tryz.results23]
end Go.Proofs
end

section
namespace Go.Proofs
open Go Go.RowKit

/-- the answer: a number, an error -/
def bnd (x y : Int) : Int × Int := if 1 ≤ x ∧ x ≤ 1048576 ∧ 0 ≤ y ∧ y ≤ 1048576 then (x * y, 0) else (0, 2)

theorem boundR (x y : Int) (w : World) (hx : x ≤ 9223372036854775807) (hx' : -9223372036854775808 ≤ x) (hy : y ≤ 9223372036854775807) (hy' : -9223372036854775808 ≤ y) :
    Calls Tryz.prog 8 #[.int .i64 x, .int .i64 y] w fun e w' => e = .returned (.tuple #[.int .i64 (bnd x y).1, .int .i64 (bnd x y).2]) ∧ w' = w := by
  by_cases h : 1 ≤ x ∧ x ≤ 1048576 ∧ 0 ≤ y ∧ y ≤ 1048576
  · rw [bnd, if_pos h]
    obtain ⟨h1, h2, h3, h4⟩ := h
    have h5 : x * y ≤ 1048576 * 1048576 := Int.mul_le_mul h2 h4 h3 (by omega)
    have h6 : 0 ≤ x * y := Int.mul_nonneg (by omega) h3
    go_enter Tryz.func8, Tryz.ntmps8
    go_wp2
    go_ret2
    exact ⟨rfl, rfl⟩
  · rw [bnd, if_neg h]
    go_enter Tryz.func8, Tryz.ntmps8
    go_wp2
    all_goals (go_ret2; exact ⟨rfl, rfl⟩)

theorem must_ok (v : Value) (w : World) : Calls Tryz.prog 25 #[.bool true, v] w fun e w' => e = .returned (.tuple #[]) ∧ w' = w := by
  go_enter Tryz.func25, Tryz.ntmps25
  go_wp2
  go_end0
  exact ⟨rfl, rfl⟩

theorem must_no (w : World) : Calls Tryz.prog 25 #[.bool false, .int .i64 2] w fun e w' => e = .panicked [{ v := .iface 26 (.int .i64 2), recovered := false }] ∧ w' = w := by
  have hp : ∀ w, Sem.run Tryz.prog (Instr.panic (.iface 26 (.int .i64 2))) w = .halt (.panic (.iface 26 (.int .i64 2))) w := fun _ => rfl
  go_enter Tryz.func25, Tryz.ntmps25
  go_wp2
  exact ⟨rfl, rfl, rfl⟩

theorem bound_in (x y : Int) (w : World) (h1 : 1 ≤ x) (h2 : x ≤ 1048576) (h3 : 0 ≤ y) (h4 : y ≤ 1048576) :
    Calls Tryz.prog 7 #[.int .i64 x, .int .i64 y] w fun e w' => e = .returned (.tuple #[.int .i64 (x * y), .int .i64 0]) ∧ Below w.heap.size w w' := by
  have h5 : x * y ≤ 1048576 * 1048576 := Int.mul_le_mul h2 h4 h3 (by omega)
  have h6 : 0 ≤ x * y := Int.mul_nonneg (by omega) h3
  have hmf : ∀ (fn : Fn) (first cap : Array Value) (w : World), (Instr.makeFunc fn first cap).run Tryz.prog w = .ok (.func fn first cap) w := fun _ _ _ _ => rfl
  go_enter_defers Tryz.func7, Tryz.ntmps7
  go_wp2_with (go_at_call 25; refine (must_ok _ _).mono ?_; rintro e w1 ⟨rfl, rfl⟩)
  refine leaves_cons (f := 23) (args := #[.pointer (some ⟨w.heap.size + 1, 0, none⟩), .func (.func 24) #[] #[.pointer (some ⟨w.heap.size, 0, none⟩)]]) (by simp) (by simp [go_sem]) ?_
  refine (caught_idle ⟨w.heap.size + 1, 0, none⟩ ⟨w.heap.size, 0, none⟩ _).mono ?_
  rintro e u' w'' ⟨rfl, rfl, rfl⟩
  have hb : Below w.heap.size w ((w.alloc (Obj.cells #[Value.int IntKind.i64 (x * y)] 3)).alloc (Obj.cells #[Value.int IntKind.i64 0] 26)) := ((Below.refl _ w).alloc (Nat.le_refl _) _).alloc (by simp) _
  simp [Leaves, settle, results, Tryz.results7, go_sem]
  exact hb

theorem bound_out (x y : Int) (w : World) (h : ¬ (1 ≤ x ∧ x ≤ 1048576 ∧ 0 ≤ y ∧ y ≤ 1048576)) :
    Calls Tryz.prog 7 #[.int .i64 x, .int .i64 y] w fun e w' => e = .returned (.tuple #[.int .i64 0, .int .i64 2]) ∧ Below w.heap.size w w' := by
  have hmf : ∀ (fn : Fn) (first cap : Array Value) (w : World), (Instr.makeFunc fn first cap).run Tryz.prog w = .ok (.func fn first cap) w := fun _ _ _ _ => rfl
  have hb : Aside (Below w.heap.size w ((w.alloc (Obj.cells #[Value.int IntKind.i64 0] 3)).alloc (Obj.cells #[Value.int IntKind.i64 2] 26))) := ((Below.refl _ w).alloc (Nat.le_refl _) _).alloc (by simp) _
  have hcase : x < 1 ∨ (1 ≤ x ∧ 1048576 < x) ∨ (1 ≤ x ∧ x ≤ 1048576 ∧ y < 0) ∨ (1 ≤ x ∧ x ≤ 1048576 ∧ 0 ≤ y ∧ 1048576 < y) := by omega
  clear h
  rcases hcase with h | ⟨h1, h2⟩ | ⟨h1, h2, h3⟩ | ⟨h1, h2, h3, h4⟩ <;>
  (try have hf : decide (y ≤ 1048576) = false := decide_eq_false (by omega)
   go_enter_defers Tryz.func7, Tryz.ntmps7
   go_wp2_with (go_at_call 25; refine (must_no _).mono ?_; rintro e w1 ⟨rfl, rfl⟩)
   refine leaves_cons (f := 23) (args := #[.pointer (some ⟨w.heap.size + 1, 0, none⟩), .func (.func 24) #[] #[.pointer (some ⟨w.heap.size, 0, none⟩)]]) (by simp) (by simp [go_sem]) ?_
   refine (caught_panicking ⟨w.heap.size + 1, 0, none⟩ ⟨w.heap.size, 0, none⟩ 0 0 [] _ (by simp [go_sem]) (by simp [go_sem]) (by simp [go_sem]) (by simp [go_sem]) (by simp)).mono ?_
   rintro e u' w'' ⟨rfl, rfl, rfl⟩
   simp [Leaves, settle, results, Tryz.results7, go_sem]
   exact hb.out)

theorem bound_any (x y : Int) (w : World) :
    Calls Tryz.prog 7 #[.int .i64 x, .int .i64 y] w fun e w' => e = .returned (.tuple #[.int .i64 (bnd x y).1, .int .i64 (bnd x y).2]) ∧ Below w.heap.size w w' := by
  by_cases h : 1 ≤ x ∧ x ≤ 1048576 ∧ 0 ≤ y ∧ y ≤ 1048576
  · rw [bnd, if_pos h]
    exact bound_in x y w h.1 h.2.1 h.2.2.1 h.2.2.2
  · rw [bnd, if_neg h]
    exact bound_out x y w h

theorem num_calls (x : Int) (w : World) : Calls Tryz.prog 9 #[.int .i64 x] w fun e w' => e = .returned (.int .i64 x) ∧ w' = w := by
  go_enter Tryz.func9, Tryz.ntmps9
  go_wp2
  go_ret
  exact ⟨rfl, rfl⟩
end Go.Proofs
end

section
namespace Go.Proofs
open Go Go.RowKit Go.Lv

theorem tells_calls {w : World} {v : Value} {zs : List Stp} (h : Arg w v zs) (conn x y : Int) (hx : x ≤ 9223372036854775807) (hx' : -9223372036854775808 ≤ x) (hy : y ≤ 9223372036854775807) (hy' : -9223372036854775808 ≤ y) :
    Calls Tryz.prog 3 #[.int .u64 conn, .int .i64 x, .int .i64 y, v] w fun e w' => e = .returned (.bool true) ∧ Below w.heap.size w w' := by
  have c1 := few_any h 100
  have c2 : ∀ W, Below w.heap.size w W → Calls Tryz.prog 6 #[] W fun e w' => e = .returned (.bool true) ∧ Below w.heap.size w w' := fun W hb => (Go.Bel.works_calls W).mono fun e w' ⟨he, hw⟩ => ⟨he, hb.trans (hw.mono hb.size)⟩
  have c3 : ∀ W, Below w.heap.size w W → Calls Tryz.prog 7 #[.int .i64 x, .int .i64 y] W fun e w' => e = .returned (.tuple #[.int .i64 (bnd x y).1, .int .i64 (bnd x y).2]) ∧ Below w.heap.size w w' := fun W hb => (bound_any x y W).mono fun e w' ⟨he, hw⟩ => ⟨he, hb.trans (hw.mono hb.size)⟩
  have c4 : ∀ W, Calls Tryz.prog 8 #[.int .i64 x, .int .i64 y] W fun e w' => e = .returned (.tuple #[.int .i64 (bnd x y).1, .int .i64 (bnd x y).2]) ∧ w' = W := fun W => boundR x y W hx hx' hy hy'
  have c5 : ∀ W, Below w.heap.size w W → Calls Tryz.prog 10 #[v] W fun e w' => e = .returned (.bool (zs.all calm)) ∧ Below w.heap.size w w' := fun W hb => (calm_any (h.below hb)).mono fun e w' ⟨he, hw⟩ => ⟨he, hb.trans (hw.mono hb.size)⟩
  have c6 : ∀ W, Below w.heap.size w W → Calls Tryz.prog 11 #[v] W fun e w' => e = .returned (.bool (zs.all calm)) ∧ w' = W := fun W hb => calmR_any (h.below hb)
  have c7 : ∀ W, Below w.heap.size w W → Calls Tryz.prog 12 #[.int .u64 conn, .int .i64 x, v] W fun e w' => e = .returned (.bool (fairD conn x zs)) ∧ Below w.heap.size w w' := fun W hb => (fair_any (h.below hb) conn x hx).mono fun e w' ⟨he, hw⟩ => ⟨he, hb.trans (hw.mono hb.size)⟩
  have c8 : ∀ W, Below w.heap.size w W → Calls Tryz.prog 13 #[.int .u64 conn, .int .i64 x, v] W fun e w' => e = .returned (.bool (fairD conn x zs)) ∧ w' = W := fun W hb => fairR_any (h.below hb) conn x
  generalize (bnd x y).1 = p at c3 c4
  generalize (bnd x y).2 = q at c3 c4
  generalize zs.all calm = r at c5 c6
  generalize fairD conn x zs = s at c7 c8
  generalize short 100 zs = t at c1
  have C2 : Aside _ := c2
  have C3 : Aside _ := c3
  have C4 : Aside _ := c4
  have C5 : Aside _ := c5
  have C6 : Aside _ := c6
  have C7 : Aside _ := c7
  have C8 : Aside _ := c8
  clear c2 c3 c4 c5 c6 c7 c8 h
  have b0 : Aside (Below w.heap.size w w) := Below.refl _ w
  cases t with
  | false =>
    go_enter Tryz.func3, Tryz.ntmps3
    go_wp2_with (first | (go_at_call 5; refine c1.mono ?_; rintro e w1 ⟨rfl, rfl⟩) | (go_at_call 6; refine (C2.out _ b0.out).mono ?_; rintro e w2 ⟨rfl, b2⟩; have b2' : Aside _ := b2; clear b2))
    go_ret
    exact ⟨rfl, b2'.out⟩
  | true =>
    go_enter Tryz.func3, Tryz.ntmps3
    go_wp2_with (first | (go_at_call 5; refine c1.mono ?_; rintro e w1 ⟨rfl, rfl⟩) | (go_at_call 7; refine (C3.out _ b0.out).mono ?_; rintro e w2 ⟨rfl, b2⟩; have b2' : Aside _ := b2; clear b2) | (go_at_call 8; refine (C4.out _).mono ?_; rintro e w3 ⟨rfl, rfl⟩) | (go_at_call 9; refine (num_calls _ _).mono ?_; rintro e w4 ⟨rfl, rfl⟩) | (go_at_call 10; refine (C5.out _ b2'.out).mono ?_; rintro e w5 ⟨rfl, b5⟩; have b5' : Aside _ := b5; clear b5) | (go_at_call 11; refine (C6.out _ b5'.out).mono ?_; rintro e w6 ⟨rfl, rfl⟩) | (go_at_call 12; refine (C7.out _ b5'.out).mono ?_; rintro e w7 ⟨rfl, b7⟩; have b7' : Aside _ := b7; clear b7) | (go_at_call 13; refine (C8.out _ b7'.out).mono ?_; rintro e w8 ⟨rfl, rfl⟩) | (go_at_call 6; refine (C2.out _ b7'.out).mono ?_; rintro e w9 ⟨rfl, b9⟩; have b9' : Aside _ := b9; clear b9))
    go_ret
    exact ⟨rfl, b9'.out⟩
end Go.Proofs
end
