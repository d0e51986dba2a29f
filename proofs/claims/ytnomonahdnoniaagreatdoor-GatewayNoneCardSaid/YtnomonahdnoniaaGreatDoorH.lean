/-
  This program's tables fit; response.What and slices.Insert at the two calls where the model draws.
  Conditions: none beyond those that the statements bear.
-/
import Derived.KernelRfl
import Derived.Test.YtnomonahdnoniaaGreatDoorProg
import Derived.Test.YtnomonahdnoniaaGreatDoorG
set_option maxRecDepth 100000
namespace Go.Bel

section
noncomputable def tab : Tab := tabOf Go.Proofs.Tryz.prog [225, 33, 35, 37, 39, 41, 49, 638, 68]
theorem tabOk : TabOk tab := tabOk_of (by kernel_rfl) (by kernel_rfl) (by kernel_rfl)
end

section
def default3 : List Item × Fr × St := ([], { fn := 0, tmps := .nil, n := 0, defers := [], up := none, round := none }, { heap := .nil, next := 0 })
noncomputable def get3 (x : Option (List Item × Fr × St)) : List Item × Fr × St := match x with
  | some y => y
  | none => default3
def hd1 : List Item → Array Oper
  | .inRegion ops _ :: _ => ops
  | _ => #[]
def tl1 : List Item → List Item
  | _ :: k => k
  | [] => []
noncomputable def fnW : Func := match tab.fn.get 319 with
  | some f => f
  | none => default
noncomputable def cdW : Code := match fnW.body with
  | some c => c
  | none => .skip
theorem W1 : tab.fn.get 319 = some fnW := by kernel_rfl
theorem W2 : fnW.body = some cdW := by kernel_rfl
def argW : List Value := [.agg ⟨[.int .i64 (.ofNat 200), .bool true, .bool false, .bool false, .int .u64 (.ofNat 0)]⟩]
def N0 : Nat := 8238
def no : Summ := fun _ => none
noncomputable def rcW : Rec := ev tab no 200
noncomputable def rA := runF tab no rcW 25 [.code cdW] (frameOf 319 fnW argW none) { heap := .nil, next := N0 }
noncomputable def tA := (get3 rA).1
noncomputable def fA := (get3 rA).2.1
noncomputable def sA := (get3 rA).2.2
theorem W3 : rA = some (tA, fA, sA) := by kernel_rfl
noncomputable def oA := hd1 tA
noncomputable def kA := tl1 tA
theorem W4 : tA = .inRegion oA [0, 1] :: kA := by kernel_rfl
noncomputable def opA : Oper := match oA[0]? with
  | some o => o
  | none => default
theorem W5 : oA[0]? = some opA := by kernel_rfl
theorem W6 : opA.op = .next (.tmp 10) false := by kernel_rfl
theorem W6g : opA.guard = none := by kernel_rfl
theorem W7 : fA.eval (.tmp 10) = .pointer (some ⟨N0 + 2, 0, none⟩) := by kernel_rfl
def e1 : MapEntry := ⟨.int .i64 (.ofNat 1), .func (.func 526) #[] #[], 0⟩
def e2 : MapEntry := ⟨.int .i64 (.ofNat 2), .func (.func 527) #[] #[], 1⟩
theorem W8 : sA.heap.get (N0 + 2) = some (.rw (.mapIter (some (N0 + 1)) 2 ⟨[]⟩ 2)) := by kernel_rfl
theorem W9 : sA.heap.get (N0 + 1) = some (.rw (.map ⟨[e1, e2]⟩ 2)) := by kernel_rfl
noncomputable def put3 (v : Value) : Fr := match fA.put opA.dst v with
  | some f => f
  | none => fA
def tup (e : MapEntry) : Value := .tuple ⟨[.bool true, e.key, e.val]⟩
noncomputable def sB (e : MapEntry) : St := { sA with heap := sA.heap.put (N0 + 2) (.rw (.mapIter (some (N0 + 1)) 2 ⟨[e.born]⟩ 2)) }
noncomputable def rB (n : Nat) (e : MapEntry) := runF tab no rcW n (.inRegion oA [1] :: kA) (put3 (tup e)) (sB e)
def isRet : List Item → Bool
  | .code .ret :: _ => true
  | _ => false
def noDef : List Deferred → Bool
  | [] => true
  | _ => false
noncomputable def okB (n : Nat) (e : MapEntry) : Bool := match rB n e with
  | some (t, f, s) => isRet t && noDef f.defers && Nat.ble s.next (N0 + 300) && (match results tab fnW f.tmps s with
    | some v => veq v (.int .i64 (.ofNat 1))
    | none => false)
  | none => false
noncomputable def okP (e : MapEntry) : Bool := match fA.put opA.dst (tup e) with
  | some _ => true
  | none => false
theorem W10 : okB 26 e1 = true := by kernel_rfl
theorem W11 : okB 53 e2 = true := by kernel_rfl
theorem W12 : okP e1 = true := by kernel_rfl
theorem W13 : okP e2 = true := by kernel_rfl
theorem no_ok : SummOk tab no := fun f g args s r s' h => by cases h
theorem rcW_ok : ∀ t s o s', rcW t s = some (o, s') → TaskOk tab t s o s' := ev_sound tabOk no_ok 200

theorem what_ok : CallOk tab.P 319 argW { heap := .nil, next := N0 } (.ret (.int .i64 (.ofNat 1))) { heap := .nil, next := N0 + 300 } := by
  refine call_of_frame tabOk W1 W2 fun ρ w args' cs hs ha => ?_
  have h1 := runF_sound tabOk no_ok rcW_ok 25 W3
  obtain ⟨ρ1, w1, a1, m1, hp1, hf1, hst1⟩ := h1 ρ w _ _ (.plain cs) .run hs (frameOf_rel tabOk W1 ha .none)
  rw [W4] at hst1
  have hx := hf1.tmps 10
  rw [W7] at hx
  obtain ⟨e, hee, v', w2, hrun, hp2, hv⟩ := next_two (P := tab.P) (t := opA.type) hp1.rel W8 W9 (by decide) (by decide) hx
  have hgo : ∀ (n : Nat), okB n e = true → okP e = true → ∃ (ρ' : Rho) (w' : World) (a' : Act) (k : List Item) (fr : Fr) (v' : Value), Post ρ { heap := .nil, next := N0 } w ρ' { heap := .nil, next := N0 + 300 } w' ∧ VRel ρ' (.int .i64 (.ofNat 1)) v' ∧ a'.defers = [] ∧ (Go.results fnW a'.tmps).run tab.P w' = .ok v' w' ∧
        Steps tab.P (lone (Frame.atR { (default : Frame) with fn := 319, kind := .normal, roundOf := none } { tmps := (⟨args'⟩ : Array Value) ++ Array.replicate (fnW.ntmps - (⟨args'⟩ : Array Value).size) undef, defers := [] } [.code cdW]) cs w)
          (lone (Frame.atR { (default : Frame) with fn := 319, kind := .normal, roundOf := none } a' (.code .ret :: k)) cs w') := by
    intro n hB hP
    unfold okP at hP
    cases hput : fA.put opA.dst (tup e) with
    | none => rw [hput] at hP; cases hP
    | some fB =>
    have e3 : put3 (tup e) = fB := by unfold put3; rw [hput]
    have hf2 := hf1.put hv hput
    have hwt : Region.wanted opA (yielded oA a1.tmps) = true := by unfold Region.wanted; rw [W6g]
    have hsem : (opA.semAt none a1.eval).run tab.P w1 = .ok (.value v') w2 := by
      rw [Oper.semAt_none]
      simp only [execOp, W6, bind_eq, pure_eq]
      rw [run_bind_ok (show (Instr.next (a1.eval (.tmp 10)) false opA.type).run tab.P w1 = .ok v' w2 from hrun)]
      rfl
    have hst2 := stepR_value (P := tab.P) (b := { (default : Frame) with fn := 319, kind := .normal, roundOf := none }) (a := a1) (k := kA) (cs := cs) (rest := [1]) W5 hwt hsem
    unfold okB at hB
    unfold rB at hB
    rw [e3] at hB
    cases hr : runF tab no rcW n (.inRegion oA [1] :: kA) fB (sB e) with
    | none => rw [hr] at hB; cases hB
    | some y =>
    obtain ⟨t3, f3, s3⟩ := y
    rw [hr] at hB
    simp only [Bool.and_eq_true] at hB
    obtain ⟨⟨⟨hB1, hB2⟩, hB3⟩, hB4⟩ := hB
    obtain ⟨ρ3, w3, a3, m3, hp3, hf3, hst3⟩ := runF_sound tabOk no_ok rcW_ok n hr ρ1 w2 _ _ (.plain cs) m1 hp2.rel hf2
    cases hres : results tab fnW f3.tmps s3 with
    | none => rw [hres] at hB4; cases hB4
    | some v =>
    rw [hres] at hB4
    have hv1 := veq_sound _ _ hB4
    subst hv1
    obtain ⟨v3, hv3, hvr3⟩ := results_sound tabOk hp3.rel hf3.tmps hres
    have hd0 : a3.defers = [] := by
      have h4 := hf3.defers
      cases hfd : f3.defers with
      | nil =>
        rw [hfd] at h4
        revert h4
        generalize a3.defers = x
        intro h4
        cases h4; rfl
      | cons d l => rw [hfd] at hB2; cases hB2
    have ht3 : ∃ k, t3 = .code .ret :: k := by
      unfold isRet at hB1
      split at hB1
      · exact ⟨_, rfl⟩
      · cases hB1
    obtain ⟨k, rfl⟩ := ht3
    exact ⟨ρ3, w3, a3, k, f3, v3, ((hp1.trans hp2).trans hp3).drop (Nat.le_of_ble_eq_true hB3), hvr3, hd0, hv3, hst1.trans (.head hst2 hst3)⟩
  rcases hee with rfl | rfl
  · exact hgo 26 W10 W12
  · exact hgo 53 W11 W13
end

section
def L1 : Nat := 3458764513820540929
def L2 : Nat := 3458764513820540930
def A0 : Nat := 11348
def V0 : Nat := 11608
def M0 : Nat := 11613
def ii (n : Nat) : Value := .int .i64 (.ofNat n)
def uu (n : Nat) : Value := .int .u64 (.ofNat n)
def oldI : List Value := [ii 2, uu 0, uu 45000]
def newI : List Value := [ii 3, uu 1, uu 15000]
def sI : St := { heap := lays [(A0, .cells ⟨oldI⟩ 343 (0, 0)), (V0, .cells ⟨newI⟩ 343 (0, 0))] .nil, next := M0 }
def s1I : St := { heap := lays [(M0 + 1000, .cells ⟨newI ++ oldI⟩ 343 (1, 0))] .nil, next := M0 + 1000 + 1 }
def argI (x : Value) : List Value := [x, ii 0, vs V0 0 1 1]
noncomputable def fnI : Func := match tab.fn.get 388 with
  | some f => f
  | none => default
noncomputable def cdI : Code := match fnI.body with
  | some c => c
  | none => .skip
theorem I1 : tab.fn.get 388 = some fnI := by kernel_rfl
theorem I2 : fnI.body = some cdI := by kernel_rfl
/-- how it ends -/
noncomputable def okI (J : Nat) (x : Option (List Item × Fr × St)) : Bool := match x with
  | some (t, f, s) => isRet t && noDef f.defers && Nat.ble s.next (M0 + 1000) && (match s.heap.get J with
    | some (.rw o) => oeq o (.cells ⟨newI ++ oldI⟩ 343 (0, 0))
    | _ => false) && (match results tab fnI f.tmps s with
    | some v => veq v (vs J 0 2 L2)
    | none => false)
  | none => false

theorem slice_inv {ρ : Rho} {i o n C : Nat} {v' : Value} (h : VRel ρ (.slice (some ⟨i, o, none⟩) n C) v') :
    (C < loose ∧ ∃ b, ρ i = some b ∧ v' = .slice (some ⟨b.blk, b.base + o, none⟩) n C) ∨
    ∃ b x c c', C = loose * b.size + c ∧ v' = .slice (some ⟨b.blk, x, none⟩) n c' ∧ ρ i = some b ∧ (x = b.base + o ∨ c' = 0) ∧ n ≤ c' ∧ c ≤ c' ∧ o + c' * b.size ≤ b.avail ∧ c < loose ∧ 1 ≤ b.size := by
  cases h with
  | atom h => cases h
  | slice h hc => cases h with | mk h => exact .inl ⟨hc, _, h, rfl⟩
  | loose h hx hn hc ho hl hz => exact .inr ⟨_, _, _, _, rfl, rfl, h, hx, hn, hc, ho, hl, hz⟩

theorem okI_done {J n : Nat} {todo : List Item} {fr : Fr} {s : St} (hok : okI J (runF tab no rcW n todo fr s) = true) {ρ0 ρ : Rho} {s0 : St} {w0 w : World} {b : Frame} {a : Act} {X : Cx} {m : FrameMode} (hp : Post ρ0 s0 w0 ρ s w) (hf : FrRel ρ fr b a X m) :
    ∃ (ρ' : Rho) (w' : World) (a' : Act) (k : List Item) (v' : Value) (m' : FrameMode), Post ρ0 s0 w0 ρ' s1I w' ∧ VRel ρ' (vs (M0 + 1000) 0 2 L2) v' ∧ a'.defers = [] ∧ (Go.results fnI a'.tmps).run tab.P w' = .ok v' w' ∧
      Steps tab.P (lone (b.atR a todo) (X.at m) w) (lone (b.atR a' (.code .ret :: k)) (X.at m') w') := by
  unfold okI at hok
  split at hok
  case h_2 => cases hok
  rename_i t f s3 hr
  simp only [Bool.and_eq_true] at hok
  obtain ⟨⟨⟨⟨h1, h2⟩, h3⟩, h4⟩, h5⟩ := hok
  obtain ⟨ρ3, w3, a3, m3, hp3, hf3, hst3⟩ := runF_sound tabOk no_ok rcW_ok n hr ρ w b a X m hp.rel hf
  cases hres : results tab fnI f.tmps s3 with
  | none => rw [hres] at h5; cases h5
  | some v =>
  rw [hres] at h5
  have hv1 := veq_sound _ _ h5
  subst hv1
  obtain ⟨v3, hv3, hvr3⟩ := results_sound tabOk hp3.rel hf3.tmps hres
  have hd0 : a3.defers = [] := by
    have h4 := hf3.defers
    cases hfd : f.defers with
    | nil =>
      rw [hfd] at h4
      revert h4
      generalize a3.defers = x
      intro h4
      cases h4; rfl
    | cons d l => rw [hfd] at h2; cases h2
  have ht3 : ∃ k, t = .code .ret :: k := by
    unfold isRet at h1
    split at h1
    · exact ⟨_, rfl⟩
    · cases h1
  obtain ⟨k, rfl⟩ := ht3
  split at h4
  case h_2 => cases h4
  rename_i o ho
  have := oeq_sound h4
  subst this
  have hN := Nat.le_of_ble_eq_true h3
  have hLl : ¬ L2 < loose := by unfold L2 loose; decide
  rcases slice_inv hvr3 with ⟨hlt, _⟩ | ⟨bb, x, c, c', hC, rfl, hb, hx, hn, hc, hoo, hl, hz⟩
  · exact absurd hlt hLl
  · obtain ⟨ρ4, hb4, hp4⟩ := (hp.trans hp3).only ho hb (by decide) hN
    refine ⟨ρ4, w3, a3, k, _, m3, hp4, ?_, hd0, hv3, hst3⟩
    unfold vs
    rw [hC]
    exact .loose hb4 hx hn hc hoo hl hz

def argA : List Value := argI (.slice (some ⟨A0, 0, none⟩) 1 1)
noncomputable def iA := runF tab no rcW 60 [.code cdI] (frameOf 388 fnI argA none) sI
noncomputable def tIA := (get3 iA).1
noncomputable def fIA := (get3 iA).2.1
noncomputable def sIA := (get3 iA).2.2
theorem IA1 : iA = some (tIA, fIA, sIA) := by kernel_rfl
noncomputable def oIA := hd1 tIA
noncomputable def kIA := tl1 tIA
theorem IA2 : tIA = .inRegion oIA [8, 9] :: kIA := by kernel_rfl
noncomputable def opIA : Oper := match oIA[8]? with
  | some o => o
  | none => default
theorem IA3 : oIA[8]? = some opIA := by kernel_rfl
noncomputable def cIA : Call := match opIA.op with
  | .call c => c
  | _ => default
theorem IA4 : opIA.op = .call cIA := by kernel_rfl
theorem IA4c : cIA.callee = .builtin .append := by kernel_rfl
theorem IA4a : cIA.args = #[.tmp 34, .tmp 39] := by kernel_rfl
theorem IA4t : cIA.argTypes = ⟨[439, 3]⟩ := by kernel_rfl
theorem IA4g : opIA.guard = none := by kernel_rfl
theorem IA5 : fIA.eval (.tmp 34) = .slice (some ⟨A0, 0, none⟩) 0 1 := by kernel_rfl
theorem IA6 : fIA.eval (.tmp 39) = ii 2 := by kernel_rfl
theorem IA7 : sIA.next = M0 := by kernel_rfl
noncomputable def zI : Value := match tab.zero 343 with
  | some z => z
  | none => default
noncomputable def tiI : TypeInfo := match tab.info 343 with
  | some z => z
  | none => default
theorem IT1 : tab.und 439 = some (.slice 343) := by kernel_rfl
theorem IT2 : tab.und 3 = some (.int .i64) := by kernel_rfl
theorem IT3 : tab.size 343 = some 3 := by kernel_rfl
theorem IT4 : tab.info 343 = some tiI := by kernel_rfl
theorem IT5 : tab.zero 343 = some zI := by kernel_rfl
theorem IT6 : (lst zI).length = 3 := by kernel_rfl
theorem IT7 : Nat.ble tiI.bytes 1000 = true := by kernel_rfl
theorem IT8 : known zI = true := by kernel_rfl
noncomputable def fIA2 : Fr := match fIA.put opIA.dst (vs M0 0 2 L2) with
  | some f => f
  | none => fIA
theorem IA8 : fIA.put opIA.dst (vs M0 0 2 L2) = some fIA2 := by kernel_rfl
noncomputable def sIA2 : St := { heap := sIA.heap.put sIA.next (.rw (.cells ⟨rep 2 (lst zI)⟩ 343)), next := sIA.next + 1 }
theorem IA9 : okI M0 (runF tab no rcW 17 (.inRegion oIA [9] :: kIA) fIA2 sIA2) = true := by kernel_rfl

abbrev frI : Frame := { (default : Frame) with fn := 388, kind := .normal, roundOf := none }

theorem insA {ρ : Rho} {w : World} {args' : List Value} {cs : List Frame} (hs : SRel ρ sI w) (ha : VRelL ρ argA args') :
    ∃ (ρ' : Rho) (w' : World) (a' : Act) (k : List Item) (_fr : Fr) (v' : Value), Post ρ sI w ρ' s1I w' ∧ VRel ρ' (vs (M0 + 1000) 0 2 L2) v' ∧ a'.defers = [] ∧ (Go.results fnI a'.tmps).run tab.P w' = .ok v' w' ∧
      Steps tab.P (lone (Frame.atR frI { tmps := (⟨args'⟩ : Array Value) ++ Array.replicate (fnI.ntmps - (⟨args'⟩ : Array Value).size) undef, defers := [] } [.code cdI]) cs w)
        (lone (Frame.atR frI a' (.code .ret :: k)) cs w') := by
  obtain ⟨ρ1, w1, a1, m1, hp1, hf1, hst1⟩ := runF_sound tabOk no_ok rcW_ok 60 IA1 ρ w _ _ (.plain cs) .run hs (frameOf_rel tabOk I1 ha .none)
  rw [IA2] at hst1
  have hx := hf1.tmps 34
  have hy := hf1.tmps 39
  rw [IA5] at hx
  rw [IA6] at hy
  have h1l : (1 : Nat) < loose := by unfold loose; decide
  have hx2 : ∃ a', a1.eval (.tmp 34) = .slice (some a') 0 1 := by
    rcases slice_inv hx with ⟨_, b, _, h⟩ | ⟨b, x, c, c', hC, _, _, _, _, _, _, _, hz⟩
    · exact ⟨_, h⟩
    · have := Nat.le_mul_of_pos_right loose hz
      omega
  obtain ⟨a', hx2⟩ := hx2
  have hy2 : a1.eval (.tmp 39) = .int .i64 (2 : Int) := hy.int
  have hsr := appendMake (T := tab) (ρ := ρ1) (rt := opIA.type) (a' := a') tabOk IT1 IT2 IT3 IT4 IT5 (by decide) IT6 (Nat.le_of_ble_eq_true IT7) IT8
  have hrun : (AS.new (.cells ⟨rep 2 (lst zI)⟩ 343) fun r => .ret (.slice (some ⟨r, 0, none⟩) 2 (loose * 3 + 2))).run sIA = some (vs M0 0 2 L2, sIA2) := by
    show some (Value.slice (some ⟨sIA.next, 0, none⟩) 2 (loose * 3 + 2), sIA2) = _
    rw [IA7]
    have : loose * 3 + 2 = L2 := by unfold loose L2; decide
    rw [this]; rfl
  obtain ⟨ρ2, v', w2, hm, hv, hp2⟩ := hsr.run_sound hp1.rel hrun
  have hf2 := (hf1.mono (hp2.le hp1.rel)).put hv IA8
  have hwt : Region.wanted opIA (yielded oIA a1.tmps) = true := by unfold Region.wanted; rw [IA4g]
  have hsem : (opIA.semAt none a1.eval).run tab.P w1 = .ok (.value v') w2 := by
    rw [Oper.semAt_none]
    have ex : execOp a1.eval opIA = (resolve a1.eval cIA opIA.type).bind fun d => invoke d.target d.args := by
      simp only [execOp, IA4]; rfl
    rw [ex]
    simp only [resolve, IA4c, IA4a, pure_eq, Sem.bind, invoke, builtin, bind_eq, IA4t]
    have e : (#[Operand.tmp 34, Operand.tmp 39] : Array Operand).map a1.eval = #[.slice (some a') 0 1, .int .i64 (2 : Int)] := by
      simp [hx2, hy2]
    rw [e]
    rw [run_bind_ok hm]
    rfl
  have hst2 := stepR_value (P := tab.P) (b := frI) (a := a1) (k := kIA) (cs := cs) (rest := [9]) IA3 hwt hsem
  obtain ⟨ρ4, w4, a4, k, v4, m4, g1, g2, g3, g4, g5⟩ := okI_done IA9 (hp1.trans hp2) hf2
  exact ⟨ρ4, w4, a4, k, fIA2, v4, g1, g2, g3, g4, hst1.trans (.head hst2 g5)⟩
end

section
noncomputable def fnO : Func := match tab.fn.get 487 with
  | some f => f
  | none => default
theorem O1 : tab.fn.get 487 = some fnO := by kernel_rfl
theorem O2 : fnO.body.isSome = false := by kernel_rfl
theorem O3 : (fnO.name == "runtime.NumGoroutine") = false := by kernel_rfl
theorem O4 : Extern.findNext fnO = none := by kernel_rfl
theorem O5 : Extern.find fnO = some (Extern.SlicesOverlaps.overlaps fnO.params fnO.resultTypes) := by kernel_rfl
theorem O6 : fnO.params[0]? = some 439 := by kernel_rfl

def sIB : St := { sI with heap := sI.heap.put A0 (.rw (.cells ⟨oldI ++ rep 3 [unk]⟩ 343 (0, 0))) }
def argB : List Value := argI (vs A0 0 1 L2)
noncomputable def iB := runF tab no rcW 69 [.code cdI] (frameOf 388 fnI argB none) sIB
noncomputable def tIB := (get3 iB).1
noncomputable def fIB := (get3 iB).2.1
noncomputable def sIB1 := (get3 iB).2.2
theorem IB1 : iB = some (tIB, fIB, sIB1) := by kernel_rfl
noncomputable def oIB := hd1 tIB
noncomputable def kIB := tl1 tIB
theorem IB2 : tIB = .inRegion oIB [6, 7] :: kIB := by kernel_rfl
noncomputable def opIB : Oper := match oIB[6]? with
  | some o => o
  | none => default
theorem IB3 : oIB[6]? = some opIB := by kernel_rfl
noncomputable def cIB : Call := match opIB.op with
  | .call c => c
  | _ => default
theorem IB4 : opIB.op = .call cIB := by kernel_rfl
theorem IB4c : cIB.callee = .value (.func 487) := by kernel_rfl
theorem IB4a : cIB.args = #[.tmp 61, .tmp 66] := by kernel_rfl
theorem IB4g : opIB.guard = none := by kernel_rfl
theorem IB5 : fIB.eval (.tmp 61) = .slice (some ⟨V0, 0, none⟩) 1 1 := by kernel_rfl
theorem IB6 : fIB.eval (.tmp 66) = .slice (some ⟨A0, 3, none⟩) 1 L1 := by kernel_rfl
theorem IB7 : sIB1.heap.get V0 = some (.rw (.cells ⟨newI⟩ 343 (0, 0))) := by kernel_rfl
theorem IB8 : sIB1.heap.get A0 = some (.rw (.cells ⟨oldI ++ rep 3 [unk]⟩ 343 (0, 0))) := by kernel_rfl
noncomputable def fIB2 (q : Bool) : Fr := match fIB.put opIB.dst (.bool q) with
  | some f => f
  | none => fIB
theorem IB9 : ∀ q, fIB.put opIB.dst (.bool q) = some (fIB2 q)
  | true => by kernel_rfl
  | false => by kernel_rfl
theorem IBt : okI A0 (runF tab no rcW 25 (.inRegion oIB [7] :: kIB) (fIB2 true) sIB1) = true := by kernel_rfl
theorem IBf : okI A0 (runF tab no rcW 18 (.inRegion oIB [7] :: kIB) (fIB2 false) sIB1) = true := by kernel_rfl
theorem IBq : ∀ q, ∃ n, okI A0 (runF tab no rcW n (.inRegion oIB [7] :: kIB) (fIB2 q) sIB1) = true
  | true => ⟨25, IBt⟩
  | false => ⟨18, IBf⟩
theorem V0_ne : V0 ≠ A0 := by decide

theorem insB {ρ : Rho} {w : World} {args' : List Value} {cs : List Frame} (hs : SRel ρ sIB w) (ha : VRelL ρ argB args') :
    ∃ (ρ' : Rho) (w' : World) (a' : Act) (k : List Item) (_fr : Fr) (v' : Value), Post ρ sIB w ρ' s1I w' ∧ VRel ρ' (vs (M0 + 1000) 0 2 L2) v' ∧ a'.defers = [] ∧ (Go.results fnI a'.tmps).run tab.P w' = .ok v' w' ∧
      Steps tab.P (lone (Frame.atR frI { tmps := (⟨args'⟩ : Array Value) ++ Array.replicate (fnI.ntmps - (⟨args'⟩ : Array Value).size) undef, defers := [] } [.code cdI]) cs w)
        (lone (Frame.atR frI a' (.code .ret :: k)) cs w') := by
  obtain ⟨ρ1, w1, a1, m1, hp1, hf1, hst1⟩ := runF_sound tabOk no_ok rcW_ok 69 IB1 ρ w _ _ (.plain cs) .run hs (frameOf_rel tabOk I1 ha .none)
  rw [IB2] at hst1
  have hx := hf1.tmps 61
  have hy := hf1.tmps 66
  rw [IB5] at hx
  rw [IB6] at hy
  have h1l : (1 : Nat) < loose := by unfold loose; decide
  have hL1 : ¬ L1 < loose := by unfold L1 loose; decide
  have hx2 : ∃ b, ρ1 V0 = some b ∧ a1.eval (.tmp 61) = .slice (some ⟨b.blk, b.base + 0, none⟩) 1 1 := by
    rcases slice_inv hx with ⟨_, b, h1, h⟩ | ⟨b, x, c, c', hC, _, _, _, _, _, _, _, hz⟩
    · exact ⟨b, h1, h⟩
    · have := Nat.le_mul_of_pos_right loose hz
      omega
  obtain ⟨bv, hbv, hx2⟩ := hx2
  have hy2 : ∃ b x c', ρ1 A0 = some b ∧ a1.eval (.tmp 66) = .slice (some ⟨b.blk, x, none⟩) 1 c' := by
    rcases slice_inv hy with ⟨h, _⟩ | ⟨b, x, c, c', hC, h, hb, _⟩
    · exact absurd h hL1
    · exact ⟨b, x, c', hb, h⟩
  obtain ⟨ba, x, c', hba, hy2⟩ := hy2
  obtain ⟨q, n, hrun⟩ := overlaps_run (rs := fnO.resultTypes) (cap := 1) (cap' := c') (o := x) tabOk hp1.rel O6 IT1 IT3 IB7 IB8 V0_ne hbv hba (by decide)
  have hp2 := Post.drew hp1.rel n
  have hf2 := hf1.put (v := .bool q) (v' := .bool q) (.atom rfl) (IB9 q)
  have hwt : Region.wanted opIB (yielded oIB a1.tmps) = true := by unfold Region.wanted; rw [IB4g]
  have hsem : (opIB.semAt none a1.eval).run tab.P w1 = .ok (.value (.bool q)) { w1 with drawn := n } := by
    rw [Oper.semAt_none]
    have ex : execOp a1.eval opIB = (resolve a1.eval cIB opIB.type).bind fun d => invoke d.target d.args := by
      simp only [execOp, IB4]; rfl
    rw [ex]
    have hfv : a1.eval (.func 487) = .func (.func 487) #[] #[] := rfl
    simp only [resolve, IB4c, IB4a, pure_eq, Sem.bind, Deferred.ofValue, hfv, invoke]
    have e : (#[] : Array Value) ++ (#[Operand.tmp 61, Operand.tmp 66] : Array Operand).map a1.eval ++ #[] = #[.slice (some ⟨bv.blk, bv.base + 0, none⟩) 1 1, .slice (some ⟨ba.blk, x, none⟩) 1 c'] := by
      simp [hx2, hy2]
    rw [e]
    rw [run_extern (T := tab) (tabOk.fn _ _ O1) O3 O2 O4 O5, run_bind_ok hrun]
    rfl
  have hst2 := stepR_value (P := tab.P) (b := frI) (a := a1) (k := kIB) (cs := cs) (rest := [7]) IB3 hwt hsem
  obtain ⟨n2, hok⟩ := IBq q
  obtain ⟨ρ4, w4, a4, k, v4, m4, g1, g2, g3, g4, g5⟩ := okI_done hok (hp1.trans hp2) hf2
  exact ⟨ρ4, w4, a4, k, fIB2 q, v4, g1, g2, g3, g4, hst1.trans (.head hst2 g5)⟩

theorem ins_ok : CallOk tab.P 388 (argI (vs A0 0 1 L1)) sI (.ret (vs (M0 + 1000) 0 2 L2)) s1I := by
  refine call_of_frame tabOk I1 I2 fun ρ w args' cs hs ha => ?_
  unfold argI at ha
  obtain ⟨x', r, rfl, hx, hr⟩ := ha.cons'
  have hL1 : ¬ L1 < loose := by unfold L1 loose; decide
  rcases slice_inv hx with ⟨h, _⟩ | ⟨b, x, c, c', hC, rfl, hb, hxo, hn, hc, ho, hl, hz⟩
  · exact absurd h hL1
  · have hsz : b.size = 3 ∧ c = 1 := by
      have e1 : loose = 1152921504606846976 := by unfold loose; decide
      have e2 : L1 = 3458764513820540929 := rfl
      rw [e1] at hC hl
      rw [e2] at hC
      omega
    have hxb : x = b.base + 0 := by
      rcases hxo with h | h
      · exact h
      · omega
    by_cases h1 : c' = 1
    · subst h1
      refine insA hs (.cons ?_ hr)
      rw [hxb]
      exact .slice (.mk hb) (by unfold loose; decide)
    · have hp0 := Post.more (n := 3) hs (i := A0) (c := oldI) (e := 343) (lo := 0) (hi := 0) (by kernel_rfl) hb (by
        rw [hsz.1] at ho
        have : oldI.length = 3 := rfl
        omega)
      obtain ⟨ρ', w', a', k, fr, v', g1, g2⟩ := insB (cs := cs) (args' := .slice (some ⟨b.blk, x, none⟩) 1 c' :: r) hp0.rel (.cons (by
        have e : L2 = loose * b.size + 2 := by rw [hsz.1]; unfold loose L2; decide
        unfold vs
        rw [e]
        exact .loose hb hxo hn (by omega) ho (by unfold loose; decide) hz) hr)
      exact ⟨ρ', w', a', k, fr, v', hp0.trans g1, g2⟩
end

section
theorem ok8238 : c8238.Ok tab := ⟨what_ok, fnW, W1, by kernel_rfl⟩
theorem ok11613 : c11613.Ok tab := ⟨ins_ok, fnI, I1, by kernel_rfl⟩
end

end Go.Bel
