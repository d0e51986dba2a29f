/-
  Plain laws of the steps of layer 31; an argument of steps, opened.
  Conditions: none beyond those that the statements bear.
-/
import GoSem.Claims
import Derived.Test.YtldlnopinlfpaaaGreatDoorProg
import Derived.Deep.Slices
import Derived.ChangeSame
import Derived.Below
import Derived.KernelRfl
set_option maxRecDepth 100000

section
namespace Go.Lv

/-- a step's cells -/
structure Stp where
  k : Int
  c : Int
  t : Int
  n : Int
  m : Int
  a : Option Addr
  l : Nat
  cap : Nat
deriving Inhabited

def enc (x : Stp) : List Value := [.int .i64 x.k, .int .u64 x.c, .int .i64 x.t, .int .u64 x.n, .int .u64 x.m, .slice x.a x.l x.cap]
theorem enc_length (x : Stp) : (enc x).length = 6 := rfl

/-- is it a tick, or a grant? -/
def calm (x : Stp) : Bool := decide (x.k = 1) || decide (x.k = 4)
/-- does it grant something to the connection? -/
def grants (conn : Int) (x : Stp) : Bool := decide (x.k = 4) && (decide (x.c = conn) && decide (0 < x.n))

section
variable (g : Stp → Bool) (w : Nat)
/-- the program: each row of w steps has one -/
def fairGo : List Stp → Bool
  | [] => true
  | x :: r => if w ≤ (x :: r).length then (if ((x :: r).take w).any g = true then fairGo r else false) else true
/-- the document: a count of the steps without -/
def fairRef : Nat → List Stp → Bool
  | _, [] => true
  | c, x :: r => if w ≤ (if g x = true then 0 else c + 1) then false else fairRef (if g x = true then 0 else c + 1) r

def Rows (zs : List Stp) : Prop := ∀ i, i + w ≤ zs.length → ((zs.drop i).take w).any g = true

theorem rows_cons {x : Stp} {r : List Stp} : Rows g w (x :: r) ↔ (w ≤ (x :: r).length → ((x :: r).take w).any g = true) ∧ Rows g w r := by
  constructor
  · intro h
    refine ⟨fun h0 => by simpa using h 0 (by omega), fun i hi => ?_⟩
    have := h (i + 1) (by simp only [List.length_cons]; omega)
    simpa using this
  · rintro ⟨h0, h1⟩ i hi
    cases i with
    | zero => simpa using h0 (by omega)
    | succ i =>
      have := h1 i (by simp only [List.length_cons] at hi; omega)
      simpa using this

theorem fairGo_iff (hw : 1 ≤ w) (zs : List Stp) : fairGo g w zs = true ↔ Rows g w zs := by
  induction zs with
  | nil =>
    refine ⟨fun _ i hi => ?_, fun _ => rfl⟩
    simp only [List.length_nil] at hi
    omega
  | cons x r ih =>
    rw [rows_cons, fairGo]
    by_cases h : w ≤ (x :: r).length
    · rw [if_pos h]
      by_cases h2 : ((x :: r).take w).any g = true
      · rw [if_pos h2, ih]
        exact ⟨fun k => ⟨fun _ => h2, k⟩, fun k => k.2⟩
      · rw [if_neg h2]
        exact ⟨fun k => (by cases k), fun k => absurd (k.1 h) h2⟩
    · rw [if_neg h]
      refine ⟨fun _ => ⟨fun k => absurd k h, fun i hi => ?_⟩, fun _ => rfl⟩
      simp only [List.length_cons] at h
      omega

theorem any_take_le {a b : Nat} (hab : a ≤ b) {zs : List Stp} (h : (zs.take a).any g = true) : (zs.take b).any g = true := by
  rw [List.any_eq_true] at h ⊢
  obtain ⟨x, hx, hg⟩ := h
  exact ⟨x, (List.take_subset_take_left zs hab) hx, hg⟩

theorem fairRef_iff (zs : List Stp) : ∀ c, c < w → (fairRef g w c zs = true ↔ (w - c ≤ zs.length → (zs.take (w - c)).any g = true) ∧ Rows g w zs) := by
  induction zs with
  | nil =>
    intro c hc
    refine ⟨fun _ => ⟨fun h => ?_, fun i hi => ?_⟩, fun _ => rfl⟩
    · simp only [List.length_nil] at h
      omega
    · simp only [List.length_nil] at hi
      omega
  | cons x r ih =>
    intro c hc
    obtain ⟨d, hd⟩ : ∃ d, w - c = d + 1 := ⟨w - c - 1, by omega⟩
    rw [fairRef, rows_cons, hd]
    by_cases hg : g x = true
    · rw [if_pos hg, if_neg (by omega), ih 0 (by omega)]
      constructor
      · rintro ⟨_, k⟩
        refine ⟨fun _ => by simp [hg], fun _ => ?_, k⟩
        obtain ⟨w', rfl⟩ : ∃ w', w = w' + 1 := ⟨w - 1, by omega⟩
        simp [hg]
      · rintro ⟨_, _, k⟩
        refine ⟨fun h => ?_, k⟩
        have := k 0 (by omega)
        simpa using this
    · have hg' : g x = false := by simpa using hg
      rw [if_neg hg]
      by_cases hl : w ≤ c + 1
      · rw [if_pos hl]
        have hd0 : d = 0 := by omega
        subst hd0
        refine ⟨fun k => (by cases k), fun k => ?_⟩
        have := k.1 (by simp)
        simp [hg'] at this
      · rw [if_neg hl, ih (c + 1) (by omega)]
        have hd1 : w - (c + 1) = d := by omega
        rw [hd1]
        constructor
        · rintro ⟨k1, k2⟩
          have k3 : d + 1 ≤ (x :: r).length → ((x :: r).take (d + 1)).any g = true := fun h => by
            have := k1 (by simpa using h)
            simpa [hg'] using this
          exact ⟨k3, fun h => any_take_le g (by omega) (k3 (by omega)), k2⟩
        · rintro ⟨k1, _, k2⟩
          refine ⟨fun h => ?_, k2⟩
          have := k1 (by simpa using h)
          simpa [hg'] using this

theorem fair_same (hw : 1 ≤ w) (zs : List Stp) : fairGo g w zs = fairRef g w 0 zs := by
  have h1 := fairGo_iff g w hw zs
  have h2 := fairRef_iff g w zs 0 (by omega)
  have h3 : fairRef g w 0 zs = true ↔ Rows g w zs := by
    rw [h2]
    refine ⟨fun k => k.2, fun k => ⟨fun h => ?_, k⟩⟩
    have := k 0 (by simpa using h)
    simpa using this
  exact Bool.eq_iff_iff.2 (h1.trans h3.symm)
end
end Go.Lv
end

section
namespace Go.Proofs
open Go Go.RowKit Go.Lv Go.ChangeShapes Go.WideShapes Go.Deep

/-- the steps' cells -/
def RowAt (w : World) (b off : Nat) (zs : List Stp) : Prop := ∀ j, j < zs.length → ∀ i v, (enc zs[j]!)[i]? = some v → w.cell? ⟨b, off + j * 6 + i, none⟩ = some v

theorem RowAt.below {w W : World} {b off : Nat} {zs : List Stp} (h : RowAt w b off zs) (hb : Below w.heap.size w W) (hlt : b < w.heap.size) : RowAt W b off zs :=
  fun j hj i v hv => (hb.cell (p := ⟨b, off + j * 6 + i, none⟩) hlt).trans (h j hj i v hv)
theorem RowAt.drop {w : World} {b off : Nat} {zs : List Stp} (h : RowAt w b off zs) (k : Nat) : RowAt w b (off + k * 6) (zs.drop k) := by
  intro j hj i v hv
  have hj' : k + j < zs.length := by simp only [List.length_drop] at hj; omega
  have e : (zs.drop k)[j]! = zs[k + j]! := by
    rw [getElem!_pos (zs.drop k) j hj, getElem!_pos zs (k + j) hj', List.getElem_drop]
  rw [e] at hv
  have := h (k + j) hj' i v hv
  rw [show off + k * 6 + j * 6 + i = off + (k + j) * 6 + i by omega]
  exact this

/-- a slice of steps -/
def Arg (W : World) (v : Value) (zs : List Stp) : Prop :=
  (zs = [] ∧ ∃ ao c, v = .slice ao 0 c) ∨
  (0 < zs.length ∧ ∃ b off c, v = .slice (some ⟨b, off, none⟩) zs.length c ∧ RowAt W b off zs ∧ b < W.heap.size ∧ zs.length ≤ maxLen ∧ zs.length ≤ c)

theorem Tryz.cells51 : Tryz.prog.cellsOf 51 = 6 := by kernel_rfl
theorem Tryz.cells48 : Tryz.prog.cellsOf 48 = 1 := by kernel_rfl
theorem Tryz.cells22 : Tryz.prog.cellsOf 22 = 1 := by kernel_rfl
theorem Tryz.cells3 : Tryz.prog.cellsOf 3 = 1 := by kernel_rfl
theorem Tryz.cells49 : Tryz.prog.cellsOf 49 = 1 := by kernel_rfl

theorem lt_of_cell {w : World} {a : Addr} {v : Value} (h : w.cell? a = some v) : a.block < w.heap.size := by
  rcases Nat.lt_or_ge a.block w.heap.size with hl | hl
  · exact hl
  · unfold World.cell? at h
    rw [Array.getElem?_eq_none hl] at h
    simp at h

theorem open_step {H : Type} {enc' : TypeId × Value → H} {W : World} {base : Nat} {sp : Nat → Bool} {held : Bool} {n : Nat} {cs : List Value} {x : DataW H × List MemPlace}
    (h : DataW.trod enc' Tryz.prog W base sp held n 51 cs = some x) (hlen : cs.length = 6) : ∃ y : Stp, cs = enc y := by
  obtain ⟨xs, k, hk, hxy, _, hxl, hf⟩ := DataW.trod_struct Tryz.underlying51 h
  match cs, hlen with
  | [v0, v1, v2, v3, v4, v5], _ =>
    match xs, hxl with
    | [y0, y1, y2, y3, y4, y5], _ =>
      have g0 := hf 0 _ rfl
      have g1 := hf 1 _ rfl
      have g2 := hf 2 _ rfl
      have g3 := hf 3 _ rfl
      have g4 := hf 4 _ rfl
      have g5 := hf 5 _ rfl
      simp [Tryz.cells48, Tryz.cells22, Tryz.cells3, Tryz.cells49] at g0 g1 g2 g3 g4 g5
      obtain ⟨m0, e0, _⟩ := DataW.trod_int Tryz.underlying48 g0
      obtain ⟨m1, e1, _⟩ := DataW.trod_int Tryz.underlying22 g1
      obtain ⟨m2, e2, _⟩ := DataW.trod_int Tryz.underlying3 g2
      obtain ⟨m3, e3, _⟩ := DataW.trod_int Tryz.underlying22 g3
      obtain ⟨m4, e4, _⟩ := DataW.trod_int Tryz.underlying22 g4
      simp only [List.cons.injEq, and_true] at e0 e1 e2 e3 e4
      subst e0 e1 e2 e3 e4
      rcases DataW.trod_slice Tryz.underlying49 g5 with ⟨e5, _⟩ | ⟨a, len, cap, _, _, _, _, e5, _⟩
      · simp only [List.cons.injEq, and_true] at e5
        exact ⟨⟨m0, m1, m2, m3, m4, none, 0, 0⟩, by rw [e5]; rfl⟩
      · simp only [List.cons.injEq, and_true] at e5
        exact ⟨⟨m0, m1, m2, m3, m4, some a, len, cap⟩, by rw [e5]; rfl⟩

theorem open_steps {H : Type} {enc' : TypeId × Value → H} {W : World} {sp : Nat → Bool} {held : Bool} {n : Nat} {v : Value} {x : DataW H × List MemPlace}
    (h : DataW.trod enc' Tryz.prog W 0 sp held n 23 [v] = some x) : ∃ zs, Arg W v zs := by
  rcases open_slice Tryz.underlying23 h with ⟨hcs, _⟩ | ⟨a, len, cap, m, n', D, Pl, hcs, _, hl, hm, hmm, _, hx⟩
  · simp only [List.cons.injEq, and_true] at hcs
    exact ⟨[], .inl ⟨rfl, none, 0, hcs⟩⟩
  · simp only [List.cons.injEq, and_true] at hcs
    have hlm : len ≤ m := by rw [hmm]; split <;> omega
    by_cases h0 : len = 0
    · subst h0
      exact ⟨[], .inl ⟨rfl, some a, cap, hcs⟩⟩
    have each : ∀ i, i < len → ∃ y : Stp, ∀ j u, (enc y)[j]? = some u → W.cell? (a.add (i * 6 + j)) = some u := by
      intro i hi
      obtain ⟨cs', h1, h2⟩ := hx i (by omega)
      rw [Tryz.cells51] at h1
      obtain ⟨_, hlen, hcell⟩ := World.cells?_some h1
      obtain ⟨y, rfl⟩ := open_step h2 hlen
      refine ⟨y, fun j u hu => ?_⟩
      have hj : j < 6 := by
        have := (List.getElem?_eq_some_iff.1 hu).1
        simpa [enc_length] using this
      have := hcell j hj
      rw [add_add] at this
      rw [this, hu]
    obtain ⟨q, hq⟩ := choose_lt each
    have hsp : a.spot = none := by
      have := hq 0 (by omega) 0 _ rfl
      simpa [Addr.add] using World.cell?_spot this
    obtain ⟨b, off, spot⟩ := a
    simp only at hsp
    subst hsp
    have hb : b < W.heap.size := by
      exact lt_of_cell (hq 0 (by omega) 0 _ rfl)
    refine ⟨(List.range len).map q, .inr ⟨by simp; omega, b, off, cap, by simpa using hcs, ?_, hb, by simp; omega, by simp; omega⟩⟩
    intro j hj i u hu
    have hj' : j < len := by simpa using hj
    have e : ((List.range len).map q)[j]! = q j := by
      rw [getElem!_pos ((List.range len).map q) j hj]; simp
    rw [e] at hu
    have := hq j hj' i u hu
    rwa [add_plain, show off + (j * 6 + i) = off + j * 6 + i by omega] at this
end Go.Proofs
end
