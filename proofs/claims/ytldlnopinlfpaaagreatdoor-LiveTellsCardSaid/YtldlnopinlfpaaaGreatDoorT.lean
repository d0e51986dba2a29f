/-
  LiveNone returns true, whatever its arguments.
  Conditions: none beyond those that the statements bear.
-/
import Derived.Test.YtldlnopinlfpaaaGreatDoorProg
import Derived.WalkKit
import Derived.Test.YtldlnopinlfpaaaGreatDoorS
set_option maxRecDepth 100000

section
namespace Go.Proofs
open Go Go.RowKit

theorem name_out (n : Int) (h : 3 < n) (w : World) : Calls Tryz.prog 17 #[.int .i64 n] w fun e w' => e = .returned (.string ⟨⟨[]⟩⟩) ∧ w' = w := by
  have h0 : ¬ n < 0 := by omega
  go_enter Tryz.func17, Tryz.ntmps17
  go_wp2
  go_ret
  exact ⟨rfl, rfl⟩

theorem nameR_out (n : Int) (h : 3 < n) (w : World) : Calls Tryz.prog 18 #[.int .i64 n] w fun e w' => e = .returned (.string ⟨⟨[]⟩⟩) ∧ w' = w := by
  have h0 : ¬ n < 1 := by omega
  go_enter Tryz.func18, Tryz.ntmps18
  go_wp2
  go_ret
  exact ⟨rfl, rfl⟩
end Go.Proofs
namespace Go.Bel
open Go.RowKit
theorem callOk_of {P : Program} {f : FuncId} {args : List Value} {v : Value} {n : Nat} (hv : ∀ ρ, VRel ρ v v)
    (h : ∀ (ρ : Rho) (w : World) (args' : List Value), VRelL ρ args args' → Calls P f ⟨args'⟩ w fun e w' => e = .returned v ∧ w' = w) :
    CallOk P f args { heap := .nil, next := n } (.ret v) { heap := .nil, next := n } := by
  intro ρ w args' cs hs ha
  obtain ⟨e, w', fr, ⟨rfl, rfl⟩, hst, hfn, hl⟩ := h ρ w args' ha cs
  exact ⟨ρ, w', fr, .returned v, Post.refl hs, hv ρ, hst, hl, hfn⟩
end Go.Bel
end

section
namespace Go.Proofs
theorem enters5 : ∀ (args : Array Value) (w : World), (callFunc 5 args).run Tryz.prog w = .ok (.enter 5 args) w := enters_of Tryz.func5 (by kernel_rfl) rfl
end Go.Proofs
namespace Go.Bel
open Go.RowKit
noncomputable def fnN : Func := match tab.fn.get 4 with
  | some f => f
  | none => default
noncomputable def cdN : Code := match fnN.body with
  | some c => c
  | none => .skip
theorem N1 : tab.fn.get 4 = some fnN := by kernel_rfl
theorem N2 : fnN.body = some cdN := by kernel_rfl
def sq1 : Code → Code
  | .seq a _ => a
  | _ => .skip
def sq2 : Code → Code
  | .seq _ b => b
  | _ => .skip
def opsOf : Code → Array Oper
  | .region _ o _ => o
  | _ => #[]
def yesOf : Code → Code
  | .cond _ a _ => a
  | _ => .skip
noncomputable def pRest : Code := sq2 (sq2 cdN)
noncomputable def pYes : Code := yesOf (sq2 (sq1 (sq2 cdN)))
noncomputable def ops0 : Array Oper := opsOf (sq1 cdN)
noncomputable def ops1 : Array Oper := opsOf (sq1 (sq1 (sq2 cdN)))
theorem e0 : cdN = .seq (.region 0 ops0 false) (.seq (.seq (.region 1 ops1 false) (.cond (.tmp 15) pYes .skip)) pRest) := by kernel_rfl
noncomputable def o0 : Oper := (ops0[0]?).getD default
noncomputable def o1 : Oper := (ops1[0]?).getD default
noncomputable def o2 : Oper := (ops1[1]?).getD default
noncomputable def o3 : Oper := (ops1[2]?).getD default
theorem s0 : ops0.size = 1 := by kernel_rfl
theorem s1 : ops1.size = 3 := by kernel_rfl
theorem a0 : ops0[0]? = some o0 := by kernel_rfl
theorem a1 : ops1[0]? = some o1 := by kernel_rfl
theorem a2 : ops1[1]? = some o2 := by kernel_rfl
theorem a3 : ops1[2]? = some o3 := by kernel_rfl
theorem b0 : o0.op = .alloc 4 := by kernel_rfl
theorem b1 : o1.op = .move (.tmp 1) := by kernel_rfl
noncomputable def c2 : Call := match o2.op with
  | .call c => c
  | _ => default
theorem b2 : o2.op = .call c2 := by kernel_rfl
theorem b2c : c2.callee = .value (.func 5) := by kernel_rfl
theorem b2a : c2.args = #[.tmp 13, .const (.int .i64 10)] := by kernel_rfl
theorem b3 : o3.op = .unOp .not 4 (.tmp 14) := by kernel_rfl
theorem d0 : o0.dst = some 6 := by kernel_rfl
theorem d1 : o1.dst = some 13 := by kernel_rfl
theorem d2 : o2.dst = some 14 := by kernel_rfl
theorem d3 : o3.dst = some 15 := by kernel_rfl
theorem g0 : o0.guard = none := by kernel_rfl
theorem g1 : o1.guard = none := by kernel_rfl
theorem g2 : o2.guard = none := by kernel_rfl
theorem g3 : o3.guard = none := by kernel_rfl
abbrev frN : Frame := { (default : Frame) with fn := 4, kind := .normal, roundOf := none }
theorem nt : fnN.ntmps = 64 := by kernel_rfl
def actN (c n : Int) (v : Value) : Act := { tmps := (⟨[.int .u64 c, v, .int .i64 n]⟩ : Array Value) ++ Array.replicate (64 - (⟨[.int .u64 c, v, .int .i64 n]⟩ : Array Value).size) undef, defers := [] }

noncomputable def act1 (W : World) (c n : Int) (v : Value) : Act := (actN c n v).put o0.dst (.pointer (some ⟨W.heap.size, 0, none⟩))
noncomputable def act2 (W : World) (c n : Int) (v : Value) : Act := (act1 W c n v).put o1.dst v
noncomputable def act3 (W : World) (c n : Int) (v : Value) (r : Bool) : Act := (act2 W c n v).put o2.dst (.bool r)
noncomputable def act4 (W : World) (c n : Int) (v : Value) (r : Bool) : Act := (act3 W c n v r).put o3.dst (.bool (!r))

theorem go_few {W : World} {c n : Int} {v : Value} {r : Bool} {cs : List Frame} (h : Calls tab.P 5 #[v, .int .i64 10] (W.alloc (.cells #[.bool false] 4)) fun e w' => e = .returned (.bool r) ∧ w' = W.alloc (.cells #[.bool false] 4)) :
    Steps tab.P (lone (frN.atR (actN c n v) [.code cdN]) cs W)
      (lone (frN.atR (act4 W c n v r) [.code (if r = true then .skip else pYes), .code pRest]) cs (W.alloc (.cells #[.bool false] 4))) := by
  have w0 : Region.wanted o0 (yielded ops0 (actN c n v).tmps) = true := by unfold Region.wanted; rw [g0]
  have w1 : Region.wanted o1 (yielded ops1 (act1 W c n v).tmps) = true := by unfold Region.wanted; rw [g1]
  have w2 : Region.wanted o2 (yielded ops1 (act2 W c n v).tmps) = true := by unfold Region.wanted; rw [g2]
  have w3 : Region.wanted o3 (yielded ops1 (act3 W c n v r).tmps) = true := by unfold Region.wanted; rw [g3]
  have m0 : (o0.semAt frN.roundOf (actN c n v).eval).run tab.P W = .ok (.value (.pointer (some ⟨W.heap.size, 0, none⟩))) (W.alloc (.cells #[.bool false] 4)) := by
    rw [Oper.semAt_none]
    simp only [execOp, b0]
    rfl
  have m1 : (o1.semAt frN.roundOf (act1 W c n v).eval).run tab.P (W.alloc (.cells #[.bool false] 4)) = .ok (.value v) (W.alloc (.cells #[.bool false] 4)) := by
    rw [Oper.semAt_none]
    simp only [execOp, b1]
    have e : (act1 W c n v).eval (.tmp 1) = v := by simp [act1, d0, Act.put, Act.eval, actN]
    rw [e]
    rfl
  have m2 : (o2.semAt frN.roundOf (act2 W c n v).eval).run tab.P (W.alloc (.cells #[.bool false] 4)) = .ok (.enter 5 #[v, .int .i64 10]) (W.alloc (.cells #[.bool false] 4)) := by
    rw [Oper.semAt_none]
    have e : (act2 W c n v).eval (.tmp 13) = v := by simp [act2, act1, d0, d1, Act.put, Act.eval, actN]
    have ex : execOp (act2 W c n v).eval o2 = (resolve (act2 W c n v).eval c2 o2.type).bind fun d => invoke d.target d.args := by
      simp only [execOp, b2]; rfl
    rw [ex]
    have hfv : (act2 W c n v).eval (.func 5) = .func (.func 5) #[] #[] := rfl
    simp only [resolve, b2c, b2a, pure_eq, Sem.bind, Deferred.ofValue, hfv, invoke]
    have ea : (#[] : Array Value) ++ (#[Operand.tmp 13, Operand.const (.int .i64 10)] : Array Operand).map (act2 W c n v).eval ++ #[] = #[v, .int .i64 10] := by
      have e2 : (act2 W c n v).eval (.const (.int .i64 10)) = .int .i64 10 := rfl
      simp [e, e2]
    rw [ea]
    exact Go.Proofs.enters5 _ _
  have m3 : (o3.semAt frN.roundOf (act3 W c n v r).eval).run tab.P (W.alloc (.cells #[.bool false] 4)) = .ok (.value (.bool (!r))) (W.alloc (.cells #[.bool false] 4)) := by
    rw [Oper.semAt_none]
    simp only [execOp, b3]
    have e : (act3 W c n v r).eval (.tmp 14) = .bool r := by simp [act3, act2, act1, d0, d1, d2, Act.put, Act.eval, actN]
    rw [e]
    rfl
  have hc : (act4 W c n v r).eval (.tmp 15) = .bool (!r) := by simp [act4, act3, act2, act1, d0, d1, d2, d3, Act.put, Act.eval, actN]
  have k2 := stepR_call (P := tab.P) (b := frN) (a := act2 W c n v) (k := [.code (.cond (.tmp 15) pYes .skip), .code pRest]) (cs := cs) (rest := [2]) a2 w2 m2 h (fun e w' ⟨he, _⟩ => ⟨_, he⟩)
  obtain ⟨v', w', ⟨hv, rfl⟩, k2⟩ := k2
  cases hv
  rw [e0]
  refine .head stepR_seq (.head stepR_region ?_)
  rw [s0]
  refine .head (stepR_value a0 w0 m0) (.head stepR_region_end (.head stepR_seq (.head stepR_seq (.head stepR_region ?_))))
  rw [s1]
  refine .head (stepR_value a1 w1 m1) (k2.trans (.head (stepR_value a3 w3 m3) (.head stepR_region_end ?_)))
  refine .head (stepR_cond hc) ?_
  cases r <;> exact Steps.refl _ _
end Go.Bel
end

section
namespace Go.Bel
open Go.RowKit

theorem FOk.code {T : Tab} {rec : Rec} (hrec : ∀ t s o s', rec t s = some (o, s') → TaskOk T t s o s') {c : Code} {k : List Item} {fr fr' : Fr} {s s' : St} (h : rec (.code c fr) s = some (.code .normal fr', s')) :
    FOk T.P (.code c :: k) fr s k fr' s' := by
  have w1 := hrec _ _ _ _ h
  intro ρ w b a X m hs hf
  exact w1 ρ w b a X m _ hs hf

def argsN (l nv : Value) : List Value := [.chan (some 5), l, nv]
noncomputable def get1 (x : Option Fr) (d : Fr) : Fr := match x with
  | some y => y
  | none => d
noncomputable def f0 (l nv : Value) : Fr := frameOf 4 fnN (argsN l nv) none
noncomputable def f1 (m : Nat) (l nv : Value) : Fr := get1 ((f0 l nv).put o0.dst (vp m 0)) (f0 l nv)
noncomputable def f2 (m : Nat) (l nv : Value) : Fr := get1 ((f1 m l nv).put o1.dst l) (f0 l nv)
noncomputable def f3 (m : Nat) (l nv : Value) (r : Bool) : Fr := get1 ((f2 m l nv).put o2.dst (.bool r)) (f0 l nv)
noncomputable def f4 (m : Nat) (l nv : Value) (r : Bool) : Fr := get1 ((f3 m l nv r).put o3.dst (.bool (!r))) (f0 l nv)
theorem p1 (m : Nat) (l nv : Value) : (f0 l nv).put o0.dst (vp m 0) = some (f1 m l nv) := by kernel_rfl
theorem p2 (m : Nat) (l nv : Value) : (f1 m l nv).put o1.dst l = some (f2 m l nv) := by kernel_rfl
theorem p3 (m : Nat) (l nv : Value) (r : Bool) : (f2 m l nv).put o2.dst (.bool r) = some (f3 m l nv r) := by kernel_rfl
theorem p4 (m : Nat) (l nv : Value) (r : Bool) : (f3 m l nv r).put o3.dst (.bool (!r)) = some (f4 m l nv r) := by kernel_rfl
def st1 (m : Nat) : St := { heap := (Tr.nil : Tr AObj).put m (.rw (.cells ⟨[.bool false]⟩ 4 (0, 0))), next := m + 1 }

theorem start {W : World} {m : Nat} {c n : Int} {v l nv : Value} {r : Bool} {cs : List Frame} (hl : ∀ ρ, VRel ρ l v) (hn : ∀ ρ, VRel ρ nv (.int .i64 n)) :
    ∃ ρ1, Post (fun _ => none) { heap := .nil, next := m } W ρ1 (st1 m) (W.alloc (.cells #[.bool false] 4)) ∧ FrRel ρ1 (f4 m l nv r) frN (act4 W c n v r) (.plain cs) .run := by
  have hs0 : SRel (fun _ => none) { heap := .nil, next := m } W := ⟨⟨fun i o hi => (by cases hi), fun i c hi => (by cases hi), fun i j o o' b b' hi => (by cases hi), fun i j o c b b' hi => (by cases hi)⟩, fun i hi => rfl, fun _ _ => rfl⟩
  have hp := Post.new hs0 (b := ⟨W.heap.size, 0, 1, 1⟩) (o := .cells ⟨[.bool false]⟩ 4 (0, 0)) (o' := .cells ⟨[.bool false]⟩ 4 (0, 0)) rfl (.cells (by simp) (by simp) (.cons (.atom rfl) .nil) (fun _ o _ _ h => by omega) (fun _ => rfl) (.inl (by simp))) W.drawn
  refine ⟨_, hp, ?_⟩
  have hf0 : FrRel (fun _ => none) (f0 l nv) frN (actN c n v) (.plain cs) .run := by
    have := frameOf_rel (up := none) (kd := .normal) (X := .plain cs) (m := .run) tabOk N1 (show VRelL (fun _ => none) (argsN l nv) [.int .u64 c, v, .int .i64 n] from .cons .anyI (.cons (hl _) (.cons (hn _) .nil))) .none
    rw [nt] at this
    exact this
  have hf1 := hf0.mono (hp.le hs0)
  exact (((hf1.put (.ptr (.mk (b := ⟨W.heap.size, 0, 1, 1⟩) (by simp [Rho.with]))) (p1 m l nv)).put (hl _) (p2 m l nv)).put (.atom rfl) (p3 m l nv r)).put (.atom rfl) (p4 m l nv r)
end Go.Bel
end

section
namespace Go.Bel
open Go.RowKit

noncomputable def runN (sm : Summ) (m : Nat) (l nv : Value) (r : Bool) : Bool := match ev2 tab sm 100000 (.code (if r = true then pRest else pYes) (f4 m l nv r)) (st1 m) with
  | some (.code .ret fr, s) => (match ev2 tab sm 100000 (.leave fnN fr.tmps fr.defers .returning) s with
    | some (.res (.ret v), _) => veq v (.bool true)
    | _ => false)
  | _ => false

theorem none_of {sm : Summ} (hsm : SummOk tab sm) {m : Nat} {c n : Int} {v l nv : Value} {r : Bool} (hl : ∀ ρ, VRel ρ l v) (hn : ∀ ρ, VRel ρ nv (.int .i64 n)) (hr : runN sm m l nv r = true) {W : World}
    (h : Calls tab.P 5 #[v, .int .i64 10] (W.alloc (.cells #[.bool false] 4)) fun e w' => e = .returned (.bool r) ∧ w' = W.alloc (.cells #[.bool false] 4)) :
    Calls tab.P 4 #[.int .u64 c, v, .int .i64 n] W fun e W' => e = .returned (.bool true) ∧ Below W.heap.size W W' := by
  intro cs
  obtain ⟨ρ1, hp1, hf1⟩ := start (W := W) (m := m) (c := c) (r := r) (cs := cs) hl hn
  have pre := go_few (n := n) (c := c) (cs := cs) h
  unfold runN at hr
  split at hr
  case h_2 => cases hr
  rename_i fr s hev1
  split at hr
  case h_2 => cases hr
  rename_i v1 s2 hev2
  rw [ev2_eq] at hev1 hev2
  have w1 := ev_sound tabOk hsm _ _ _ _ _ hev1
  have w2 := ev_sound tabOk hsm _ _ _ _ _ hev2
  rw [veq_sound _ _ hr] at w2
  have mid : ∃ (ρ2 : Rho) (wd2 : World) (a2 : Act) (m2 : FrameMode) (k : List Item), Post ρ1 (st1 m) (W.alloc (.cells #[.bool false] 4)) ρ2 s wd2 ∧ FrRel ρ2 fr frN a2 (.plain cs) m2 ∧
      Steps tab.P (lone (frN.atR (act4 W c n v r) [.code (if r = true then .skip else pYes), .code pRest]) cs (W.alloc (.cells #[.bool false] 4))) (lone (frN.atR a2 (.code .ret :: k)) cs wd2) := by
    cases r with
    | true =>
      obtain ⟨ρ2, wd2, a2, m2, hp2, hf2, k, har⟩ := w1 ρ1 _ frN _ (.plain cs) .run [] hp1.rel hf1
      exact ⟨ρ2, wd2, a2, m2, k, hp2, hf2, .head stepR_skip har⟩
    | false =>
      obtain ⟨ρ2, wd2, a2, m2, hp2, hf2, k, har⟩ := w1 ρ1 _ frN _ (.plain cs) .run [.code pRest] hp1.rel hf1
      exact ⟨ρ2, wd2, a2, m2, k, hp2, hf2, har⟩
  obtain ⟨ρ2, wd2, a2, m2, k, hp2, hf2, st2⟩ := mid
  obtain ⟨ρ3, wd3, fr3, e3, hp3, hr3, hs3, hl3, hfn3⟩ := w2 ρ2 wd2 { (frN.atR a2 (.code .ret :: k)) with mode := .returning } cs hp2.rel hf2.tmps hf2.defers .ret (by simp) (tabOk.fn _ _ N1) rfl
  have hp := (hp1.trans hp2).trans hp3
  have ke := hp.kept
  rw [enter_atR tabOk N1 N2, nt]
  cases e3 with
  | panicked c => exact hr3.elim
  | outgrown => exact hr3.elim
  | returned v3 =>
    have hv : v3 = .bool true := VRel.bool hr3
    subst hv
    refine ⟨.returned (.bool true), wd3, fr3, ⟨rfl, ⟨ke.os, ke.tape, ke.output, ke.size, fun i hi => ke.block i hi ?_⟩⟩, (pre.trans st2).trans (.head (stepR_ret rfl) hs3), hfn3, hl3⟩
    rintro ⟨j, o, b, h1, _⟩
    cases h1
end Go.Bel
end

section
namespace Go.Bel
open Go.RowKit Go.Lv Go.Proofs

def four : Value := .chan (some 10)
def empt : Value := .string ⟨⟨[]⟩⟩
def cN4 : Chk where
  f := 17
  args := [four]
  pre := []
  n0 := 23
  res := empt
  post := []
  n1 := 23
def cR4 : Chk where
  f := 18
  args := [four]
  pre := []
  n0 := 23
  res := empt
  post := []
  n1 := 23
theorem four_inv {ρ : Rho} {l : List Value} (h : VRelL ρ [four] l) : ∃ n : Int, 3 < n ∧ l = [.int .i64 n] := by
  unfold four at h
  cases h with
  | cons h ht =>
    cases ht
    cases h with
    | atom h => cases h
    | geI h => exact ⟨_, by omega, rfl⟩
theorem fn17 : ∃ fn, tab.fn.get 17 = some fn ∧ fn.body.isSome = true := ⟨Tryz.f17, by kernel_rfl, by kernel_rfl⟩
theorem fn18 : ∃ fn, tab.fn.get 18 = some fn ∧ fn.body.isSome = true := ⟨Tryz.f18, by kernel_rfl, by kernel_rfl⟩
theorem okN4 : cN4.Ok tab := ⟨callOk_of (fun _ => .atom rfl) (fun ρ w args' ha => by
  obtain ⟨n, h, rfl⟩ := four_inv ha
  exact name_out n h w), fn17⟩
theorem okR4 : cR4.Ok tab := ⟨callOk_of (fun _ => .atom rfl) (fun ρ w args' ha => by
  obtain ⟨n, h, rfl⟩ := four_inv ha
  exact nameR_out n h w), fn18⟩
def smN : Summ := summOf [cW, cN4, cR4]
theorem smN_ok : SummOk tab smN := summOf_ok (all_cons okW (all_cons okN4 (all_cons okR4 all_nil)))
def smW : Summ := summOf [cW]
theorem smW_ok : SummOk tab smW := summOf_ok (all_cons okW all_nil)
def shrt : Value := .chan (some 1)
theorem r0 : runN smW 9 shrt (.int .i64 (.ofNat 0)) true = true := by kernel_rfl
theorem r1 : runN smW 8 shrt (.int .i64 (.ofNat 1)) true = true := by kernel_rfl
theorem r2 : runN smW 8 shrt (.int .i64 (.ofNat 2)) true = true := by kernel_rfl
theorem r3 : runN smW 8 shrt (.int .i64 (.ofNat 3)) true = true := by kernel_rfl
theorem r4 : runN smN 10 shrt four true = true := by kernel_rfl
theorem rm : runN smW 10 shrt (.int .i64 (.negSucc 0)) true = true := by kernel_rfl
theorem rn (k : Nat) : runN smW 10 shrt (.int .i64 (.negSucc (k + 1))) true = true := by kernel_rfl
theorem rf : runN smW 22 unk (.chan (some 5)) false = true := by kernel_rfl
end Go.Bel
end

section
namespace Go.Bel
open Go.RowKit Go.Lv Go.Proofs

theorem none_calls {w : World} {v : Value} {zs : List Stp} (h : Arg w v zs) (c n : Int) :
    Calls Tryz.prog 4 #[.int .u64 c, v, .int .i64 n] w fun e w' => e = .returned (.bool true) ∧ Below w.heap.size w w' := by
  have hf := few_any (h.below ((Below.refl _ w).alloc (Nat.le_refl _) (.cells #[.bool false] 4))) 10
  cases hr : short 10 zs with
  | false =>
    rw [hr] at hf
    exact none_of smW_ok (l := unk) (nv := .chan (some 5)) (fun _ => .unk) (fun _ => .anyI) rf hf
  | true =>
    rw [hr] at hf
    have hle := short_le hr
    have hl : ∀ ρ, VRel ρ shrt v := by
      intro ρ
      rcases h with ⟨_, ao, cp, rfl⟩ | ⟨_, b, off, cp, rfl, _⟩
      · exact .shortS (by omega)
      · exact .shortS (by omega)
    cases n with
    | negSucc k =>
      cases k with
      | zero => exact none_of smW_ok hl (fun _ => .atom rfl) rm hf
      | succ k => exact none_of smW_ok hl (fun _ => .atom rfl) (rn k) hf
    | ofNat n =>
      match n with
      | 0 => exact none_of smW_ok hl (fun _ => .atom rfl) r0 hf
      | 1 => exact none_of smW_ok hl (fun _ => .atom rfl) r1 hf
      | 2 => exact none_of smW_ok hl (fun _ => .atom rfl) r2 hf
      | 3 => exact none_of smW_ok hl (fun _ => .atom rfl) r3 hf
      | n + 4 => exact none_of smN_ok hl (fun _ => .geI (by omega)) r4 hf
end Go.Bel
end

section
namespace Go.Bel
theorem cell_i64 {P : Program} {W : World} {r : Reach} {base : Nat} {u : TypeId} {v : Value} (hu : P.underlying u = some (.int .i64)) (h : Cell.okWide P W r base u v) :
    ∃ n : Int, v = .int .i64 n ∧ -9223372036854775808 ≤ n ∧ n ≤ 9223372036854775807 := by
  cases v <;> simp only [Cell.okWide, Cell.ok, hu] at h
  rename_i k n
  obtain ⟨rfl, h⟩ := h
  refine ⟨n, rfl, ?_⟩
  simp [IntKind.has, IntKind.min, IntKind.max] at h
  exact h
end Go.Bel
end
