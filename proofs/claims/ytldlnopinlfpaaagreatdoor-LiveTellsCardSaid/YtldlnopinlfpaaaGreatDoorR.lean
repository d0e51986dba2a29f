/-
  The small functions that go over steps: few, Calm, Fair, and the document's.
  Conditions: none beyond those that the statements bear.
-/
import Derived.WalkKit
import Derived.Deep.LoopGhost
import Derived.Deep.QuietTactic
import Derived.BigQuiet
import Derived.RegionTactic
import Derived.Shelf.Abstract
import Derived.Shelf.SlicesQ.Load
import Derived.Test.YtldlnopinlfpaaaGreatDoorP
set_option maxRecDepth 100000

section
namespace Go.Proofs
open Go Go.RowKit Go.Lv

def short (most : Nat) (zs : List Stp) : Bool := decide (zs.length ≤ most) && zs.all fun x => decide (x.l ≤ 400)
theorem short_le {most : Nat} {zs : List Stp} (h : short most zs = true) : zs.length ≤ most := by
  simp only [short, Bool.and_eq_true, decide_eq_true_eq] at h
  exact h.1
theorem all_of {p : Stp → Bool} {zs : List Stp} (h : ∀ j, j < zs.length → p zs[j]! = true) : zs.all p = true := by
  rw [List.all_eq_true]
  intro x hx
  obtain ⟨j, hj, rfl⟩ := List.getElem_of_mem hx
  have := h j hj
  rwa [getElem!_pos zs j hj] at this
theorem not_all_of {p : Stp → Bool} {zs : List Stp} {j : Nat} (hj : j < zs.length) (h : p zs[j]! = false) : zs.all p = false := by
  rw [List.all_eq_false]
  refine ⟨zs[j], List.getElem_mem hj, ?_⟩
  rw [getElem!_pos zs j hj] at h
  simp [h]

theorem few_some (b off n c most : Nat) (zs : List Stp) (w : World) (hz : zs.length = n) (hbig : n ≤ 9223372036854775807) (hc : RowAt w b off zs) :
    Calls Tryz.prog 5 #[.slice (some ⟨b, off, none⟩) n c, .int .i64 most] w fun e w' => e = .returned (.bool (short most zs)) ∧ w' = w := by
  have H1 : most < n → short most zs = false := fun h => by simp [short]; omega
  have H2 : ∀ k, k < n → 400 < ((zs[k]!).l : Int) → short most zs = false := fun k hk h => by
    simp only [short]
    rw [not_all_of (j := k) (by omega) (by simp only [decide_eq_false_iff_not]; omega), Bool.and_false]
  have H3 : ¬ most < n → (∀ j, j < n → ((zs[j]!).l : Int) ≤ 400) → short most zs = true := fun h h2 => by
    simp only [short]
    rw [all_of fun j hj => by simp only [decide_eq_true_eq]; have := h2 j (by omega); omega, decide_eq_true (by omega)]
    rfl
  have B1 : Aside _ := H1
  have B2 : Aside _ := H2
  have B3 : Aside _ := H3
  clear H1 H2 H3
  generalize hr : short most zs = r at B1 B2 B3 ⊢
  clear hr
  go_enter Tryz.func5, Tryz.ntmps5
  go_wp2
  · have h : most < n := by assumption
    go_ret
    exact ⟨by rw [B1.out h]; rfl, rfl⟩
  · go_loop [5] (fun i => ∃ k : Nat, k ≤ n ∧ i = .int .i64 k ∧ Aside (∀ j, j < k → ((zs[j]!).l : Int) ≤ 400)) (fun i => n - (intOf i).toNat)
    case atStart => exact ⟨0, Nat.zero_le _, rfl, fun j hj => absurd hj (Nat.not_lt_zero _)⟩
    case round =>
      obtain ⟨k, hk, rfl, A⟩ := hrel
      have hcell : k < n → w.cell? ⟨b, off + k * 6 + 5, none⟩ = some (.slice (zs[k]!).a (zs[k]!).l (zs[k]!).cap) := fun h => hc k (by omega) 5 _ rfl
      generalize hy : zs[k]! = y at hcell
      have B : Aside (zs[k]! = y) := hy
      clear hy hc
      go_wp2
      · have h1 : k < n := by assumption
        have h2 : (400 : Int) < y.l := by assumption
        go_ret
        exact ⟨by rw [B2.out k h1 (by rw [B.out]; exact h2)]; rfl, rfl⟩
      · have h2 : (y.l : Int) ≤ 400 := by assumption
        go_round
        case rel =>
          refine ⟨k + 1, by omega, by go_num, (show Aside _ from fun j hj => ?_)⟩
          by_cases e : j = k
          · subst e; rw [B.out]; exact h2
          · exact A.out j (by omega)
        case measure => simp [intOf]; omega
      · have h1 : ¬ most < n := by assumption
        have h2 : ¬ k < n := by assumption
        go_ret
        exact ⟨by rw [B3.out h1 (fun j hj => A.out j (by omega))]; rfl, rfl⟩

theorem few_none (ao : Option Addr) (c most : Nat) (w : World) :
    Calls Tryz.prog 5 #[.slice ao 0 c, .int .i64 most] w fun e w' => e = .returned (.bool true) ∧ w' = w := by
  go_enter Tryz.func5, Tryz.ntmps5
  go_wp2
  go_loop [5] (fun i => i = .int .i64 0) (fun _ => 0)
  case atStart => rfl
  case round =>
    subst hrel
    go_wp2
    go_ret
    exact ⟨rfl, rfl⟩

theorem few_any {w : World} {v : Value} {zs : List Stp} (h : Arg w v zs) (most : Nat) :
    Calls Tryz.prog 5 #[v, .int .i64 most] w fun e w' => e = .returned (.bool (short most zs)) ∧ w' = w := by
  rcases h with ⟨rfl, ao, c, rfl⟩ | ⟨_, b, off, c, rfl, hr, _, hm⟩
  · exact few_none ao c most w
  · exact few_some b off zs.length c most zs w rfl (by unfold maxLen at hm; omega) hr

theorem calmR_some (b off n c : Nat) (zs : List Stp) (w : World) (hz : zs.length = n) (hbig : n ≤ 9223372036854775807) (hc : RowAt w b off zs) :
    Calls Tryz.prog 11 #[.slice (some ⟨b, off, none⟩) n c] w fun e w' => e = .returned (.bool (zs.all calm)) ∧ w' = w := by
  have B1 : Aside (∀ k, k < n → calm zs[k]! = false → zs.all calm = false) := fun k hk h => not_all_of (j := k) (by omega) h
  have B2 : Aside ((∀ j, j < n → calm zs[j]! = true) → zs.all calm = true) := fun h => all_of fun j hj => h j (by omega)
  generalize hr : zs.all calm = r at B1 B2 ⊢
  clear hr
  go_enter Tryz.func11, Tryz.ntmps11
  go_wp2
  go_loop [3] (fun i => ∃ k : Nat, k ≤ n ∧ i = .int .i64 k ∧ Aside (∀ j, j < k → calm zs[j]! = true)) (fun i => n - (intOf i).toNat)
  case atStart => exact ⟨0, Nat.zero_le _, rfl, fun j hj => absurd hj (Nat.not_lt_zero _)⟩
  case round =>
    obtain ⟨k, hk, rfl, A⟩ := hrel
    have hcell : k < n → w.cell? ⟨b, off + k * 6, none⟩ = some (.int .i64 (zs[k]!).k) := fun h => hc k (by omega) 0 _ rfl
    generalize hy : zs[k]! = y at hcell
    have B : Aside (zs[k]! = y) := hy
    clear hy hc
    have step : calm y = true → Aside (∀ j, j < k + 1 → calm zs[j]! = true) := fun h j hj => by
      by_cases e : j = k
      · subst e; rw [B.out]; exact h
      · exact A.out j (by omega)
    have S : Aside _ := step
    clear step
    go_wp2
    · have h2 : y.k = 1 := by assumption
      go_round
      case rel => exact ⟨k + 1, by omega, by go_num, S.out (by simp [calm, h2])⟩
      case measure => simp [intOf]; omega
    · have h1 : k < n := by assumption
      have h2 : (y.k != 1) = true ∧ (y.k != 4) = true := by assumption
      go_ret
      exact ⟨by rw [B1.out k h1 (by rw [B.out]; simpa [calm] using h2)]; rfl, rfl⟩
    · have h2 : ¬ y.k = 1 := by assumption
      have h3 : (y.k != 1) = false ∨ (y.k != 4) = false := by assumption
      go_round
      case rel => exact ⟨k + 1, by omega, by go_num, S.out (by simpa [calm] using h3)⟩
      case measure => simp [intOf]; omega
    · have h2 : ¬ k < n := by assumption
      go_ret
      exact ⟨by rw [B2.out (fun j hj => A.out j (by omega))]; rfl, rfl⟩

theorem calmR_none (ao : Option Addr) (c : Nat) (w : World) :
    Calls Tryz.prog 11 #[.slice ao 0 c] w fun e w' => e = .returned (.bool true) ∧ w' = w := by
  go_enter Tryz.func11, Tryz.ntmps11
  go_wp2
  go_loop [3] (fun i => i = .int .i64 0) (fun _ => 0)
  case atStart => rfl
  case round =>
    subst hrel
    go_wp2
    go_ret
    exact ⟨rfl, rfl⟩

theorem calmR_any {w : World} {v : Value} {zs : List Stp} (h : Arg w v zs) :
    Calls Tryz.prog 11 #[v] w fun e w' => e = .returned (.bool (zs.all calm)) ∧ w' = w := by
  rcases h with ⟨rfl, ao, c, rfl⟩ | ⟨_, b, off, c, rfl, hr, _, hm⟩
  · exact calmR_none ao c w
  · exact calmR_some b off zs.length c zs w rfl (by unfold maxLen at hm; omega) hr

theorem fairR_some (b off n c : Nat) (conn wd : Int) (zs : List Stp) (w : World) (hz : zs.length = n) (hbig : n ≤ 9223372036854775807) (hw : 1 ≤ wd) (hc : RowAt w b off zs) :
    Calls Tryz.prog 13 #[.int .u64 conn, .int .i64 wd, .slice (some ⟨b, off, none⟩) n c] w fun e w' => e = .returned (.bool (fairRef (grants conn) wd.toNat 0 zs)) ∧ w' = w := by
  have step : ∀ k (d : Nat), k < n → fairRef (grants conn) wd.toNat d (zs.drop k) =
      if wd.toNat ≤ (if grants conn zs[k]! = true then 0 else d + 1) then false else fairRef (grants conn) wd.toNat (if grants conn zs[k]! = true then 0 else d + 1) (zs.drop (k + 1)) := fun k d hk => by
    rw [List.drop_eq_getElem_cons (by omega : k < zs.length), fairRef, getElem!_pos zs k (by omega)]
  have last : ∀ (d : Nat), fairRef (grants conn) wd.toNat d (zs.drop n) = true := fun d => by rw [List.drop_of_length_le (by omega)]; cases d <;> rfl
  have S : Aside _ := step
  have L : Aside _ := last
  clear step last
  obtain ⟨r, hr⟩ : ∃ r, r = fairRef (grants conn) wd.toNat 0 zs := ⟨_, rfl⟩
  have R0 : Aside (fairRef (grants conn) wd.toNat 0 (zs.drop 0) = r) := by rw [hr]; rfl
  rw [← hr]
  clear hr
  go_enter Tryz.func13, Tryz.ntmps13
  go_wp2
  go_loop [7, 8] (fun d i => ∃ k m : Nat, k ≤ n ∧ m ≤ k ∧ (m : Int) < wd ∧ i = .int .i64 k ∧ d = .int .i64 m ∧ Aside (fairRef (grants conn) wd.toNat m (zs.drop k) = r)) (fun _ i => n - (intOf i).toNat)
  case atStart => exact ⟨0, 0, Nat.zero_le _, Nat.le_refl _, by omega, rfl, rfl, R0⟩
  case round =>
    obtain ⟨k, m, hk, hm, hmw, rfl, rfl, A⟩ := hrel
    have hc0 : k < n → w.cell? ⟨b, off + k * 6, none⟩ = some (.int .i64 (zs[k]!).k) := fun h => hc k (by omega) 0 _ rfl
    have hc1 : k < n → w.cell? ⟨b, off + k * 6 + 1, none⟩ = some (.int .u64 (zs[k]!).c) := fun h => hc k (by omega) 1 _ rfl
    have hc3 : k < n → w.cell? ⟨b, off + k * 6 + 3, none⟩ = some (.int .u64 (zs[k]!).n) := fun h => hc k (by omega) 3 _ rfl
    generalize hy : zs[k]! = y at hc0 hc1 hc3
    have B : Aside (zs[k]! = y) := hy
    have N : k < n → fairRef (grants conn) wd.toNat m (zs.drop k) = if wd.toNat ≤ (if grants conn y = true then 0 else m + 1) then false else fairRef (grants conn) wd.toNat (if grants conn y = true then 0 else m + 1) (zs.drop (k + 1)) := fun h => by
      have := S.out k m h
      rw [hy] at this
      exact this
    have Y : Aside (k < n → grants conn y = true → fairRef (grants conn) wd.toNat 0 (zs.drop (k + 1)) = r) := fun h hg => by
      have := N h
      rw [if_pos hg, if_neg (by omega), A.out] at this
      exact this.symm
    have N1 : Aside (k < n → grants conn y = false → wd ≤ (m : Int) + 1 → r = false) := fun h hg hl => by
      have := N h
      rw [if_neg (show ¬ grants conn y = true by simp [hg]), if_pos (by omega), A.out] at this
      exact this
    have N2 : Aside (k < n → grants conn y = false → (m : Int) + 1 < wd → fairRef (grants conn) wd.toNat (m + 1) (zs.drop (k + 1)) = r) := fun h hg hl => by
      have := N h
      rw [if_neg (show ¬ grants conn y = true by simp [hg]), if_neg (by omega), A.out] at this
      exact this.symm
    have L1 : Aside (¬ k < n → r = true) := fun h => by
      have e : k = n := by omega
      subst e
      rw [← A.out]
      exact L.out m
    clear N hy hc A S L
    go_wp2
    · have h1 : k < n := by assumption
      have h2 : y.k = 4 := by assumption
      have h3 : y.c = conn := by assumption
      have h4 : 1 ≤ y.n := by assumption
      have h5 : 0 < y.n := by omega
      have GR : grants conn y = true := by simp [grants, h2, h3, h5]
      go_round
      case rel => exact ⟨k + 1, 0, by omega, by omega, by omega, by go_num, rfl, Y.out h1 GR⟩
      case measure => simp [intOf]; omega
    · have h1 : k < n := by assumption
      have h2 : wd ≤ (m : Int) + 1 := by assumption
      go_ret
      exact ⟨by rw [N1.out h1 (by have h3 : y.n < 1 := (by assumption); have h4 : ¬ 0 < y.n := (by omega); simp [grants, h4]) h2]; rfl, rfl⟩
    · have h1 : k < n := by assumption
      have h2 : (m : Int) + 1 < wd := by assumption
      go_round
      case rel => exact ⟨k + 1, m + 1, by omega, by omega, by omega, by go_num, by go_num, N2.out h1 (by have h3 : y.n < 1 := (by assumption); have h4 : ¬ 0 < y.n := (by omega); simp [grants, h4]) h2⟩
      case measure => simp [intOf]; omega
    · have h1 : k < n := by assumption
      have h2 : wd ≤ (m : Int) + 1 := by assumption
      go_ret
      exact ⟨by rw [N1.out h1 (by have h3 : ¬ y.c = conn := (by assumption); simp [grants, h3]) h2]; rfl, rfl⟩
    · have h1 : k < n := by assumption
      have h2 : (m : Int) + 1 < wd := by assumption
      go_round
      case rel => exact ⟨k + 1, m + 1, by omega, by omega, by omega, by go_num, by go_num, N2.out h1 (by have h3 : ¬ y.c = conn := (by assumption); simp [grants, h3]) h2⟩
      case measure => simp [intOf]; omega
    · have h1 : k < n := by assumption
      have h2 : wd ≤ (m : Int) + 1 := by assumption
      go_ret
      exact ⟨by rw [N1.out h1 (by have h3 : ¬ y.k = 4 := (by assumption); simp [grants, h3]) h2]; rfl, rfl⟩
    · have h1 : k < n := by assumption
      have h2 : (m : Int) + 1 < wd := by assumption
      go_round
      case rel => exact ⟨k + 1, m + 1, by omega, by omega, by omega, by go_num, by go_num, N2.out h1 (by have h3 : ¬ y.k = 4 := (by assumption); simp [grants, h3]) h2⟩
      case measure => simp [intOf]; omega
    · have h1 : ¬ k < n := by assumption
      go_ret
      exact ⟨by rw [L1.out h1]; rfl, rfl⟩

theorem fairR_none (ao : Option Addr) (c : Nat) (conn wd : Int) (w : World) (hw : 1 ≤ wd) :
    Calls Tryz.prog 13 #[.int .u64 conn, .int .i64 wd, .slice ao 0 c] w fun e w' => e = .returned (.bool true) ∧ w' = w := by
  go_enter Tryz.func13, Tryz.ntmps13
  go_wp2
  go_loop [8] (fun i => i = .int .i64 0) (fun _ => 0)
  case atStart => rfl
  case round =>
    subst hrel
    go_wp2
    go_ret
    exact ⟨rfl, rfl⟩

theorem fairR_less (v : Value) (conn wd : Int) (w : World) (hw : wd < 1) :
    Calls Tryz.prog 13 #[.int .u64 conn, .int .i64 wd, v] w fun e w' => e = .returned (.bool false) ∧ w' = w := by
  go_enter Tryz.func13, Tryz.ntmps13
  go_wp2
  go_ret
  exact ⟨rfl, rfl⟩

/-- the document's answer -/
def fairD (conn wd : Int) (zs : List Stp) : Bool := if 1 ≤ wd then fairRef (grants conn) wd.toNat 0 zs else false

theorem fairR_any {w : World} {v : Value} {zs : List Stp} (h : Arg w v zs) (conn wd : Int) :
    Calls Tryz.prog 13 #[.int .u64 conn, .int .i64 wd, v] w fun e w' => e = .returned (.bool (fairD conn wd zs)) ∧ w' = w := by
  unfold fairD
  by_cases hw : 1 ≤ wd
  · rw [if_pos hw]
    rcases h with ⟨rfl, ao, c, rfl⟩ | ⟨_, b, off, c, rfl, hr, _, hm⟩
    · exact fairR_none ao c conn wd w hw
    · exact fairR_some b off zs.length c conn wd zs w rfl (by unfold maxLen at hm; omega) hw hr
  · rw [if_neg hw]
    exact fairR_less v conn wd w (by omega)
end Go.Proofs
end

section
namespace Go.Proofs
open Go Go.RowKit Go.Lv

/-- what is asked of a function over steps -/
def Pred (g : Nat) (lb : Array Value) (p : Stp → Bool) (w : World) : Prop :=
  ∀ (W : World) (x : Stp), Below w.heap.size w W → Calls Tryz.prog g (#[.agg (enc x).toArray] ++ lb) W fun e w' => e = .returned (.bool (p x)) ∧ Below w.heap.size w w'

theorem first_some (p : Stp → Bool) (g : Nat) (lb : Array Value) (eg : ∀ args w, (callFunc g args).run Tryz.prog w = .ok (.enter g args) w) (b off n c : Nat) (zs : List Stp) (w : World)
    (hp : Pred g lb p w) (hz : n ≤ zs.length) (hbig : n ≤ 9223372036854775807) (hb : b < w.heap.size) (hc : RowAt w b off zs) :
    Calls Tryz.prog 53 #[.slice (some ⟨b, off, none⟩) n c, .func (.func g) #[] lb] w fun e w' => (∃ i : Int, e = .returned (.int .i64 i) ∧ decide (0 ≤ i) = (zs.take n).any p) ∧ Below w.heap.size w w' := by
  have B1 : Aside (∀ k, k < n → p zs[k]! = true → (zs.take n).any p = true) := fun k hk h => by
    rw [List.any_eq_true]
    refine ⟨zs[k]!, ?_, h⟩
    rw [getElem!_pos zs k (by omega)]
    exact List.mem_take_iff_getElem.2 ⟨k, by omega, rfl⟩
  have B2 : Aside ((∀ j, j < n → p zs[j]! = false) → (zs.take n).any p = false) := fun h => by
    rw [List.any_eq_false]
    intro x hx
    obtain ⟨j, hj, rfl⟩ := List.mem_take_iff_getElem.1 hx
    have := h j (by omega)
    rw [getElem!_pos zs j (by omega)] at this
    simp [this]
  generalize hr : (zs.take n).any p = r at B1 B2 ⊢
  clear hr
  go_enter Tryz.func53, Tryz.ntmps53
  go_wp2
  go_loopg [5, 8] n (fun gg _ s8 wr => ∃ kk : Nat, kk ≤ n ∧ n - kk ≤ gg ∧ s8 = .int .i64 kk ∧ Aside (Below w.heap.size w wr) ∧ Aside (∀ j, j < kk → p zs[j]! = false))
  case atStart => exact ⟨0, Nat.zero_le _, by omega, rfl, Below.refl _ w, fun j hj => absurd hj (Nat.not_lt_zero _)⟩
  case round =>
    obtain ⟨kk, hkk, hg, rfl, BW, A⟩ := hrel
    by_cases hlt : kk < n
    · have hltz : (kk : Int) < (n : Int) := by omega
      have row := (hc.below BW.out hb) kk (by omega)
      have c0 : wr.cell? ⟨b, off + kk * 6, none⟩ = some (.int .i64 (zs[kk]!).k) := row 0 _ rfl
      have c1 : wr.cell? ⟨b, off + kk * 6 + 1, none⟩ = some (.int .u64 (zs[kk]!).c) := row 1 _ rfl
      have c2 : wr.cell? ⟨b, off + kk * 6 + 2, none⟩ = some (.int .i64 (zs[kk]!).t) := row 2 _ rfl
      have c3 : wr.cell? ⟨b, off + kk * 6 + 3, none⟩ = some (.int .u64 (zs[kk]!).n) := row 3 _ rfl
      have c4 : wr.cell? ⟨b, off + kk * 6 + 4, none⟩ = some (.int .u64 (zs[kk]!).m) := row 4 _ rfl
      have c5 : wr.cell? ⟨b, off + kk * 6 + 5, none⟩ = some (.slice (zs[kk]!).a (zs[kk]!).l (zs[kk]!).cap) := row 5 _ rfl
      have hcall : Calls Tryz.prog g (#[.agg #[.int .i64 (zs[kk]!).k, .int .u64 (zs[kk]!).c, .int .i64 (zs[kk]!).t, .int .u64 (zs[kk]!).n, .int .u64 (zs[kk]!).m, .slice (zs[kk]!).a (zs[kk]!).l (zs[kk]!).cap]] ++ lb) wr fun e w' => e = .returned (.bool (p zs[kk]!)) ∧ Below w.heap.size w w' := hp wr zs[kk]! BW.out
      clear row hp hc
      generalize hy : zs[kk]! = y at c0 c1 c2 c3 c4 c5 hcall
      have B : Aside (zs[kk]! = y) := hy
      clear hy
      cases hq : p y with
      | true =>
        rw [hq] at hcall
        go_wp2_with (go_at_fn g; refine hcall.mono ?_; rintro e w' ⟨rfl, hb'⟩)
        go_ret
        refine ⟨⟨kk, rfl, ?_⟩, hb'⟩
        rw [B1.out kk hlt (by rw [B.out]; exact hq)]
        simp
      | false =>
        rw [hq] at hcall
        go_wp2_with (go_at_fn g; refine hcall.mono ?_; rintro e w' ⟨rfl, hb'⟩)
        go_roundg (n - (kk + 1))
        case measure => omega
        case rel =>
          refine ⟨kk + 1, by omega, by omega, by go_num, hb', (show Aside _ from fun j hj => ?_)⟩
          by_cases e : j = kk
          · subst e
            rw [B.out]; exact hq
          · exact A.out j (by omega)
    · have hltz : ¬ (kk : Int) < (n : Int) := by omega
      have : kk = n := by omega
      subst this
      go_wp2
      go_ret
      refine ⟨⟨-1, rfl, ?_⟩, BW.out⟩
      rw [B2.out A.out]
      rfl
end Go.Proofs
end

section
namespace Go.Proofs
open Go Go.RowKit Go.Lv

theorem first_none (g : Nat) (lb : Array Value) (ao : Option Addr) (c : Nat) (w : World) :
    Calls Tryz.prog 53 #[.slice ao 0 c, .func (.func g) #[] lb] w fun e w' => e = .returned (.int .i64 (-1)) ∧ w' = w := by
  go_enter Tryz.func53, Tryz.ntmps53
  go_wp2
  go_loop [8] (fun i => i = .int .i64 0) (fun _ => 0)
  case atStart => rfl
  case round =>
    subst hrel
    go_wp2
    go_ret
    exact ⟨rfl, rfl⟩

theorem has_some (p : Stp → Bool) (g : Nat) (lb : Array Value) (eg : ∀ args w, (callFunc g args).run Tryz.prog w = .ok (.enter g args) w) (b off n c : Nat) (zs : List Stp) (w : World)
    (hp : Pred g lb p w) (hz : n ≤ zs.length) (hbig : n ≤ 9223372036854775807) (hb : b < w.heap.size) (hc : RowAt w b off zs) :
    Calls Tryz.prog 27 #[.slice (some ⟨b, off, none⟩) n c, .func (.func g) #[] lb] w fun e w' => e = .returned (.bool ((zs.take n).any p)) ∧ Below w.heap.size w w' := by
  have hcall := first_some p g lb eg b off n c zs w hp hz hbig hb hc
  generalize (zs.take n).any p = r at hcall ⊢
  clear hp hc
  go_enter Tryz.func27, Tryz.ntmps27
  go_wp2_with (go_at_call 53; refine hcall.mono ?_; rintro e w' ⟨⟨i, rfl, hi⟩, hb'⟩)
  go_ret
  exact ⟨by rw [← hi]; rfl, hb'⟩

theorem has_none (g : Nat) (lb : Array Value) (ao : Option Addr) (c : Nat) (w : World) :
    Calls Tryz.prog 27 #[.slice ao 0 c, .func (.func g) #[] lb] w fun e w' => e = .returned (.bool false) ∧ w' = w := by
  have hcall := first_none g lb ao c w
  go_enter Tryz.func27, Tryz.ntmps27
  go_wp2_with (go_at_call 53; refine hcall.mono ?_; rintro e w' ⟨rfl, rfl⟩)
  go_ret
  exact ⟨rfl, rfl⟩

theorem Arg.below {w W : World} {v : Value} {zs : List Stp} (h : Arg w v zs) (hb : Below w.heap.size w W) : Arg W v zs := by
  rcases h with h | ⟨h1, b, off, c, h2, h3, h4, h5⟩
  · exact .inl h
  · exact .inr ⟨h1, b, off, c, h2, h3.below hb h4, Nat.lt_of_lt_of_le h4 hb.size, h5⟩

theorem has_any (p : Stp → Bool) (g : Nat) (lb : Array Value) (eg : ∀ args w, (callFunc g args).run Tryz.prog w = .ok (.enter g args) w) {w : World} {v : Value} {zs : List Stp} (hp : Pred g lb p w) (h : Arg w v zs) :
    Calls Tryz.prog 27 #[v, .func (.func g) #[] lb] w fun e w' => e = .returned (.bool (zs.any p)) ∧ Below w.heap.size w w' := by
  rcases h with ⟨rfl, ao, c, rfl⟩ | ⟨_, b, off, c, rfl, hr, hb, hm⟩
  · exact (has_none g lb ao c w).mono fun e w' ⟨h1, h2⟩ => ⟨h1, h2 ▸ Below.refl _ _⟩
  · have := has_some p g lb eg b off zs.length c zs w hp (Nat.le_refl _) (by unfold maxLen at hm; omega) hb hr
    rwa [List.take_length] at this

theorem kind_index (B : Nat) (v : Int) (w : World) (h0 : w.cell? ⟨B, 0, none⟩ = some (.int .i64 1)) (h1 : w.cell? ⟨B, 1, none⟩ = some (.int .i64 4)) :
    Calls Tryz.prog 54 #[.slice (some ⟨B, 0, none⟩) 2 2, .int .i64 v] w fun e w' => (∃ i : Int, e = .returned (.int .i64 i) ∧ decide (0 ≤ i) = (decide (v = 1) || decide (v = 4))) ∧ w' = w := by
  have B1 : Aside (v = 1 → (decide (v = 1) || decide (v = 4)) = true) := fun h => by simp [h]
  have B2 : Aside (v = 4 → (decide (v = 1) || decide (v = 4)) = true) := fun h => by simp [h]
  have B3 : Aside (¬ v = 1 → ¬ v = 4 → (decide (v = 1) || decide (v = 4)) = false) := fun h k => by simp [h, k]
  generalize (decide (v = 1) || decide (v = 4)) = r at B1 B2 B3 ⊢
  go_enter Tryz.func54, Tryz.ntmps54
  go_wp2
  go_loop [8] (fun i => ∃ k : Nat, k ≤ 2 ∧ i = .int .i64 k ∧ Aside ((1 ≤ k → ¬ v = 1) ∧ (2 ≤ k → ¬ v = 4))) (fun i => 2 - (intOf i).toNat)
  case atStart => exact ⟨0, by omega, rfl, fun h => by omega, fun h => by omega⟩
  case round =>
    obtain ⟨k, hk, rfl, A⟩ := hrel
    match k, hk with
    | 0, _ =>
      go_wp2
      · have h : (v == 1) = true := by assumption
        go_ret
        refine ⟨⟨0, rfl, ?_⟩, rfl⟩
        rw [B1.out (by simpa using h)]; rfl
      · have h : (v == 1) = false := by assumption
        go_round
        case rel => exact ⟨1, by omega, rfl, fun _ => by simpa using h, fun h => by omega⟩
        case measure => simp [intOf]
    | 1, _ =>
      go_wp2
      · have h : (v == 4) = true := by assumption
        go_ret
        refine ⟨⟨1, rfl, ?_⟩, rfl⟩
        rw [B2.out (by simpa using h)]; rfl
      · have h : (v == 4) = false := by assumption
        go_round
        case rel => exact ⟨2, by omega, rfl, fun _ => A.out.1 (by omega), fun _ => by simpa using h⟩
        case measure => simp [intOf]
    | 2, _ =>
      go_wp2
      go_ret
      refine ⟨⟨-1, rfl, ?_⟩, rfl⟩
      rw [B3.out (A.out.1 (by omega)) (A.out.2 (by omega))]; rfl

theorem kind_in (B : Nat) (v : Int) (w : World) (h0 : w.cell? ⟨B, 0, none⟩ = some (.int .i64 1)) (h1 : w.cell? ⟨B, 1, none⟩ = some (.int .i64 4)) :
    Calls Tryz.prog 29 #[.slice (some ⟨B, 0, none⟩) 2 2, .int .i64 v] w fun e w' => e = .returned (.bool (decide (v = 1) || decide (v = 4))) ∧ w' = w := by
  have hcall := kind_index B v w h0 h1
  generalize (decide (v = 1) || decide (v = 4)) = r at hcall ⊢
  go_enter Tryz.func29, Tryz.ntmps29
  go_wp2_with (go_at_call 54; refine hcall.mono ?_; rintro e w' ⟨⟨i, rfl, hi⟩, rfl⟩)
  go_ret
  exact ⟨by rw [← hi]; rfl, rfl⟩

/-- a step that is neither -/
theorem calm1 (B : Nat) (w : World) (hB : B < w.heap.size) (h0 : w.cell? ⟨B, 0, none⟩ = some (.int .i64 1)) (h1 : w.cell? ⟨B, 1, none⟩ = some (.int .i64 4)) :
    Pred 28 #[.pointer (some ⟨B, 0, none⟩)] (fun x => !calm x) w := by
  intro W x hb
  have g0 := (hb.cell (p := ⟨B, 0, none⟩) hB).trans h0
  have g1 := (hb.cell (p := ⟨B, 1, none⟩) hB).trans h1
  have hs : w.heap.size ≤ W.heap.size := hb.size
  show Calls Tryz.prog 28 #[.agg (enc x).toArray, .pointer (some ⟨B, 0, none⟩)] W _
  unfold enc calm
  go_enter Tryz.func28, Tryz.ntmps28
  go_wp2
  have k0 : ∀ q, ((W.alloc (Obj.cells #[Value.int IntKind.i64 x.k, Value.int IntKind.u64 x.c, Value.int IntKind.i64 x.t, Value.int IntKind.u64 x.n, Value.int IntKind.u64 x.m, Value.slice x.a x.l x.cap] 51)).drewN q).cell? ⟨B, 0, none⟩ = some (.int .i64 1) := fun q => by
    have : B < W.heap.size := by omega
    simp [World.cell?_alloc_past, this, g0]
  have k1 : ∀ q, ((W.alloc (Obj.cells #[Value.int IntKind.i64 x.k, Value.int IntKind.u64 x.c, Value.int IntKind.i64 x.t, Value.int IntKind.u64 x.n, Value.int IntKind.u64 x.m, Value.slice x.a x.l x.cap] 51)).drewN q).cell? ⟨B, 1, none⟩ = some (.int .i64 4) := fun q => by
    have : B < W.heap.size := by omega
    simp [World.cell?_alloc_past, this, g1]
  go_quiet ((go_at_call 29; exact Calls.quiet_of_same (kind_in B x.k _ (k0 _) (k1 _))))
  go_wp2
  go_ret
  refine ⟨?_, ?_⟩
  · rw [Bool.not_or]; rfl
  · have h := hb.alloc hs (Obj.cells #[Value.int IntKind.i64 x.k, Value.int IntKind.u64 x.c, Value.int IntKind.i64 x.t, Value.int IntKind.u64 x.n, Value.int IntKind.u64 x.m, Value.slice x.a x.l x.cap] 51)
    exact ⟨h.os, h.tape, h.output, h.size, h.block⟩

theorem enters28 : ∀ (args : Array Value) (w : World), (callFunc 28 args).run Tryz.prog w = .ok (.enter 28 args) w := enters_of Tryz.func28 (by kernel_rfl) rfl

theorem calms_calls (w : World) : Calls Tryz.prog 26 #[] w fun e w' => e = .returned (.agg #[.int .i64 1, .int .i64 4]) ∧ Below w.heap.size w w' ∧ w'.heap.size = w.heap.size + 1 := by
  go_enter Tryz.func26, Tryz.ntmps26
  go_wp2
  refine bodyPost_ret (v := .agg #[.int .i64 1, .int .i64 4]) (by simp [results, Tryz.results26, go_sem]) rfl ⟨rfl, (Below.refl _ w).alloc (Nat.le_refl _) _, by simp⟩

/-- are they calm? -/
theorem calm_any {w : World} {v : Value} {zs : List Stp} (h : Arg w v zs) :
    Calls Tryz.prog 10 #[v] w fun e w' => e = .returned (.bool (zs.all calm)) ∧ Below w.heap.size w w' := by
  have ea : (zs.any fun x => !calm x) = !zs.all calm := by
    rw [Bool.eq_iff_iff]
    simp [List.any_eq_true]
  generalize zs.all calm = r at ea ⊢
  go_enter Tryz.func10, Tryz.ntmps10
  go_wp2_with (go_at_call 26; refine (calms_calls w).mono ?_; rintro e w1 ⟨rfl, hb1, hs1⟩)
  have e1 : w.heap.size + 1 = w1.heap.size := hs1.symm
  have hb2 := hb1.alloc hb1.size (Obj.cells #[Value.int IntKind.i64 1, Value.int IntKind.i64 4] 79)
  have hP := calm1 w1.heap.size (w1.alloc (Obj.cells #[Value.int IntKind.i64 1, Value.int IntKind.i64 4] 79)) (by simp) (by simp) (by simp)
  have hcall := has_any _ 28 _ enters28 hP (h.below hb2)
  rw [ea] at hcall
  rw [e1]
  refine hcall.mono ?_
  rintro e w' ⟨rfl, hb3⟩
  have hb4 := hb2.trans (hb3.mono (by simp; omega))
  clear hP hb1 hb2 hb3 ea h hcall e1 hs1
  go_wp2
  go_ret
  exact ⟨by simp, hb4⟩
end Go.Proofs
end
