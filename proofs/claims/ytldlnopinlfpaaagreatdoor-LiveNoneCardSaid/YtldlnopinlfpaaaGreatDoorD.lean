/-
  D's calls, frames, single operations and regions in order stand to the model's machine.
  Conditions: none beyond those that the statements bear.
-/
import Derived.Lib.Bytealg
import Derived.Test.YtldlnopinlfpaaaGreatDoorC
set_option maxRecDepth 100000
namespace Go.Bel

section
variable {T : Tab} {ρ : Rho}

theorem indexByte_rel {P : Program} {s : ByteArray} {c : Nat} (hc : c < 256) : SR P VRel ρ (.ret (.int .i64 (idx1 c s.data.toList 0))) (Extern.BytealgIndexByte.indexByte #[.string s, .int .u8 (.ofNat c)]) := by
  have e : Extern.BytealgIndexByte.indexByte #[.string s, .int .u8 (.ofNat c)] = (match (List.range s.size).find? fun i => s[i]! == c.toUInt8 with
    | some i => pure (goInt i)
    | none => pure (goInt (-1)) : Sem Value) := rfl
  rw [e, idx1_eq hc s s.data.toList 0 rfl, List.range_eq_range']
  have : s.data.toList.length = s.size := rfl
  rw [this]
  cases (List.range' 0 s.size).find? fun j => s[j]! == c.toUInt8 with
  | none => exact .ret (.atom rfl)
  | some i => exact .ret (.atom rfl)

theorem clone_rel {P : Program} {t : TypeId} {r : Nat} {x' : Value} (hx : VRel ρ (.iface t (.map (some r))) x') :
    SR P VRel ρ (.getObj r fun o => match o with
      | .map es clock => .new (.map es clock) fun r => .ret (.iface t (.map (some r)))
      | _ => .fail) (Extern.MapsClone.clone #[x']) := by
  obtain ⟨y, rfl, hy⟩ := hx.toIface
  obtain ⟨b, rfl, hb⟩ := hy.toMap
  have e : Extern.MapsClone.clone #[.iface t (.map (some b.blk))] = (do
    let .map entries clock ← getObj b.blk | stuck "maps.clone: a map expected"
    pure (.iface t (.map (some (← newObj (.map entries clock)))))) := rfl
  rw [e]
  simp only [getObj, newObj, bind_eq, pure_eq, Sem.bind]
  refine .getObj hb fun o o' ho hc => ?_
  cases ho with
  | cells => cases hc
  | @map es es' clock he =>
    exact .new (av := 0) (sz := 0) (fun _ => .map he) fun ρ' r r' hle hr => .ret (.iface (.map hr))
  | _ => exact .fail

theorem digits_length : ∀ (n t : Nat) (acc : Array Value), (Extern.BytealgMakeNoZero.digits n t acc).size = acc.size + n
  | 0, _, acc => rfl
  | n + 1, t, acc => by
    rw [Extern.BytealgMakeNoZero.digits, digits_length n]
    simp; omega
theorem unks_rel : ∀ (n : Nat) (l : List Value), l.length = n → VRelL ρ (rep n [unk]) l
  | 0, l, h => by
    have : l = [] := List.length_eq_zero_iff.1 h
    subst this; exact .nil
  | n + 1, [], h => by cases h
  | n + 1, v :: l, h => .cons .unk (unks_rel n l (by simpa using h))
end

section
variable {T : Tab} {ρ : Rho}

theorem foldl_int (c : UInt8) : ∀ (l : List UInt8) (n : Nat), l.foldl (fun (n : Int) x => if x == c then n + 1 else n) (n : Int) = ((l.foldl (fun (n : Nat) x => if x == c then n + 1 else n) n : Nat) : Int)
  | [], _ => rfl
  | b :: l, n => by
    simp only [List.foldl_cons]
    split
    · exact foldl_int c l (n + 1)
    · exact foldl_int c l n
theorem count_rel {P : Program} {s : ByteArray} {c : Nat} (hc : c < 256) : SR P VRel ρ (.ret (goI (cnt1 c s.data.toList 0))) (Extern.BytealgCount.count #[.string s, .int .u8 (.ofNat c)]) := by
  have e : Extern.BytealgCount.count #[.string s, .int .u8 (.ofNat c)] = .pure (goInt (s.foldl (fun (n : Int) x => if x == c.toUInt8 then n + 1 else n) ((0 : Nat) : Int))) := rfl
  rw [e, _root_.Go.Lib.foldl_data, foldl_int, ← cnt1_eq hc]
  exact .ret (.atom rfl)

theorem makeNoZero_rel (hT : TabOk T) {ps : Array TypeId} {t e : TypeId} {n : Nat} (hu : T.und t = some (.slice e)) (hn : n ≤ 1000000000000) :
    SR T.P VRel ρ (.new (.cells ⟨rep n [unk]⟩ e) fun r => .ret (.slice (some ⟨r, 0, none⟩) n (loose * 1 + n))) (Extern.BytealgMakeNoZero.makeNoZero ps ⟨[t]⟩ #[.int .i64 (.ofNat n)]) := by
  have h48 : (2 : Int) ^ 48 = 281474976710656 := by decide
  have e1 : Extern.BytealgMakeNoZero.makeNoZero ps ⟨[t]⟩ #[.int .i64 (.ofNat n)] = (do
    let some t := (⟨[t]⟩ : Array TypeId)[0]? | stuck "bytealg.MakeNoZero: no result type"
    let .slice elem ← underlying t | stuck "bytealg.MakeNoZero: slice type expected"
    if Int.ofNat n < 0 || Int.ofNat n > 2 ^ 48 then runtimePanic (.error "makeslice: len out of range")
    let cap ← choose (.appendCap (Int.ofNat n).toNat 0 elem)
    askRoom cap
    let bytes ← choose (.extern "internal/bytealg.MakeNoZero.bytes" 0)
    let a ← newRow elem (Extern.BytealgMakeNoZero.digits cap bytes #[])
    pure (.slice (some a) (Int.ofNat n).toNat cap)) := rfl
  have e2 : (⟨[t]⟩ : Array TypeId)[0]? = some t := rfl
  rw [e1]
  simp only [e2, bind_eq, pure_eq]
  refine SR.und hT hu ?_
  have hg : (decide (Int.ofNat n < 0) || decide (Int.ofNat n > 2 ^ 48)) = false := by
    rw [h48, Bool.or_eq_false_iff]
    exact ⟨decide_eq_false (by simp), decide_eq_false (by simp; omega)⟩
  simp only [hg, Bool.false_eq_true, if_false, choose, Sem.bind]
  refine .choose rfl fun q => ?_
  have hle : n ≤ (Question.appendCap (Int.ofNat n).toNat 0 e).cut q := by simp [Question.cut]
  generalize (Question.appendCap (Int.ofNat n).toNat 0 e).cut q = cap at hle
  refine SR.askRoom ?_
  refine .choose rfl fun q => ?_
  generalize (Question.extern "internal/bytealg.MakeNoZero.bytes" 0).cut q = bytes
  have hsz := digits_length cap bytes #[]
  generalize Extern.BytealgMakeNoZero.digits cap bytes #[] = cells at hsz
  obtain ⟨cells⟩ := cells
  have hsz : cells.length = cap := by simpa using hsz
  simp only [newRow, bind_eq, pure_eq, newObj, Sem.bind]
  have hrep : ∀ n, (rep n [unk]).length = n := by
    intro n
    induction n with
    | zero => rfl
    | succ n ih => simp [rep, ih]
  refine .new (av := cap) (sz := 1) (fun r => ?_) fun ρ' r r' hle' hr => ?_
  · refine .cells (by rw [hrep]; exact hle) (by simp [hsz]) ?_ (fun _ o _ _ h => by omega) (fun _ => rfl) (.inl (Nat.le_refl _))
    simp only [List.drop_zero, hrep]
    exact unks_rel n _ (by simp [hsz, hle])
  · refine .ret ?_
    exact .loose (b := ⟨r', 0, cap, 1⟩) hr (.inl rfl) hle hle (by simp) (by unfold Go.Bel.loose; omega) (Nat.le_refl 1)
end

section
variable {T : Tab} {ρ : Rho}

inductive NxRel (ρ : Rho) : Nx → Next → Prop where
  | value {v v' : Value} (h : VRel ρ v v') : NxRel ρ (.value v) (.value v')
  | skip : NxRel ρ .skip .skip
  | enter {f : FuncId} {a a' : List Value} (h : VRelL ρ a a') : NxRel ρ (.enter f a) (.enter f ⟨a'⟩)
  | yield {l : Nat} {b : BI} {r : Loop} {t' args args' : List Value} (hb : ρ l = some b) (ht : VRelL ρ r.tmps.toList t') (ha : VRelL ρ args args') (hl : r.params.toList.length = args.length) :
      NxRel ρ (.yield l r args) (.round b.blk r.fn ((r.params.zip ⟨args'⟩).foldl (fun tmps (t, a) => tmps.setIfInBounds t a) ⟨t'⟩) r.assign r.body)
  | defer {f : FuncId} {c c' a a' : List Value} (hc : VRelL ρ c c') (ha : VRelL ρ a a') :
      NxRel ρ (.defer { target := .fn (.func f) ⟨c⟩, args := ⟨a⟩ }) (.defer { target := .fn (.func f) ⟨c'⟩, args := ⟨a'⟩ })
  | recover : NxRel ρ .recover .recover

theorem SR.vNx {P : Program} {s : AS Value} {s' : Sem Value} (h : SR P VRel ρ s s') : SR P NxRel ρ (Bel.vNx s) (s'.bind fun v => .pure (.value v)) :=
  SR.bind h fun _ _ _ _ hv => .ret (.value hv)
theorem SR.uNx {P : Program} {s : AS Unit} {s' : Sem Unit} {R : Rho → Unit → Unit → Prop} (h : SR P R ρ s s') : SR P NxRel ρ (Bel.uNx s) (s'.bind fun _ => .pure .skip) :=
  SR.bind h fun _ _ _ _ _ => .ret .skip

/-- how the model calls a function without a body -/
theorem run_extern {f : FuncId} {fn : Func} {args : Array Value} {e : Array Value → Sem Value} (hf : T.P.funcs[f]? = some fn) (hng : (fn.name == "runtime.NumGoroutine") = false) (hb : fn.body.isSome = false)
    (h1 : Extern.findNext fn = none) (h2 : Extern.find fn = some e) (w : World) : (callFunc f args).run T.P w = ((e args).bind fun v => .pure (.value v)).run T.P w := by
  have hb' : fn.body.isNone = true := by cases h : fn.body <;> simp_all
  simp only [callFunc, bind_eq, pure_eq, program, Sem.bind, Sem.run, hf, hng, hb', h1, h2, Bool.false_eq_true, if_false, if_true, mark]
theorem run_enter {f : FuncId} {fn : Func} {args : Array Value} (hf : T.P.funcs[f]? = some fn) (hng : (fn.name == "runtime.NumGoroutine") = false) (hb : fn.body.isSome = true) (w : World) :
    (callFunc f args).run T.P w = .ok (.enter f args) w := by
  have hb' : fn.body.isNone = false := by cases h : fn.body <;> simp_all
  simp only [callFunc, bind_eq, pure_eq, program, Sem.bind, Sem.run, hf, hng, hb', Bool.false_eq_true, if_false]
end

section
variable {T : Tab} {ρ : Rho}

theorem extern_rel (hT : TabOk T) {f : FuncId} {fn : Func} {args args' : List Value} (hf : T.fn.get f = some fn) (hb : fn.body.isSome = false) (ha : VRelL ρ args args') :
    SR T.P NxRel ρ (aExtern T fn args) (callFunc f ⟨args'⟩) := by
  have hfn := hT.fn _ _ hf
  have hng := hT.ng _ _ hf
  have ho := hT.origin _ _ hf hb
  unfold aExtern
  split
  · rename_i n hname
    obtain ⟨h1, h2⟩ := makeNoZero_row fn hname (ho (by simp [hname]))
    split
    · rename_i t hres
      split
      · rename_i e hu
        split
        · rename_i hle
          have hle := Nat.le_of_ble_eq_true hle
          cases ha with
          | cons hv ht =>
          cases ht
          cases hv.int
          refine .equiv (run_extern hfn hng hb h1 h2) ?_
          have hr : fn.resultTypes = ⟨[t]⟩ := by
            apply Array.ext'; exact hres
          rw [hr]
          exact SR.bind (makeNoZero_rel hT hu hle) fun _ _ _ _ hv => .ret (.value hv)
        · exact .fail
      · exact .fail
    · exact .fail
  · rename_i x hname
    obtain ⟨h1, h2⟩ := noEscape_row fn hname (ho (by simp [hname]))
    cases ha with
    | cons hv ht =>
    cases ht
    exact .equiv (run_extern hfn hng hb h1 h2) (.ret (.value hv))
  · rename_i s c hname
    obtain ⟨h1, h2⟩ := indexByte_row fn hname (ho (by simp [hname]))
    cases ha with
    | cons hv ht =>
    cases ht with
    | cons hw ht =>
    cases ht
    cases hv.string
    cases hw.int
    split
    · rename_i hc
      have hc : c < 256 := Nat.le_of_ble_eq_true hc
      refine .equiv (run_extern hfn hng hb h1 h2) ?_
      exact SR.bind (indexByte_rel hc) fun _ _ _ _ hv => .ret (.value hv)
    · exact .fail
  · rename_i s c hname
    obtain ⟨h1, h2⟩ := count_row fn hname (ho (by simp [hname]))
    cases ha with
    | cons hv ht =>
    cases ht with
    | cons hw ht =>
    cases ht
    cases hv.string
    cases hw.int
    split
    · rename_i hc
      have hc : c < 256 := Nat.le_of_ble_eq_true hc
      refine .equiv (run_extern hfn hng hb h1 h2) ?_
      exact SR.bind (count_rel hc) fun _ _ _ _ hv => .ret (.value hv)
    · exact .fail
  · rename_i t r hname
    obtain ⟨h1, h2⟩ := clone_row fn hname (ho (by simp [hname]))
    cases ha with
    | cons hv ht =>
    cases ht
    refine .equiv (run_extern hfn hng hb h1 h2) ?_
    obtain ⟨y, rfl, hy⟩ := hv.toIface
    obtain ⟨b, rfl, hb⟩ := hy.toMap
    have e : Extern.MapsClone.clone ⟨[.iface t (.map (some b.blk))]⟩ = (do
      let .map entries clock ← getObj b.blk | stuck "maps.clone: a map expected"
      pure (.iface t (.map (some (← newObj (.map entries clock)))))) := rfl
    rw [e]
    simp only [getObj, newObj, bind_eq, pure_eq, Sem.bind]
    refine .getObj hb fun o o' ho hc => ?_
    cases ho with
    | cells => cases hc
    | @map es es' clock he =>
      exact .new (av := 0) (sz := 0) (fun _ => .map he) fun ρ' r r' hle hr => .ret (.value (.iface (.map hr)))
    | _ => exact .fail
  · exact .fail
end

section
variable {T : Tab} {ρ : Rho}

theorem callFn_rel (hT : TabOk T) {f : FuncId} {args args' : List Value} (ha : VRelL ρ args args') : SR T.P NxRel ρ (aCallFn T f args) (callFunc f ⟨args'⟩) := by
  unfold aCallFn
  split
  · rename_i fn hf
    split
    · rename_i hb
      exact .equiv (s'' := .pure (.enter f ⟨args'⟩)) (run_enter (hT.fn _ _ hf) (hT.ng _ _ hf) hb) (.ret (.enter ha))
    · rename_i hb
      exact extern_rel hT hf hb ha
  · exact .fail

def Ev (ρ : Rho) (η η' : Operand → Value) (l : List Operand) : Prop := ∀ x ∈ l, VRel ρ (η x) (η' x)
theorem Ev.list {η η' : Operand → Value} : ∀ {l : List Operand}, Ev ρ η η' l → VRelL ρ (lst2 η l) (l.map η')
  | [], _ => .nil
  | x :: l, h => .cons (h x (by simp)) (Ev.list fun y hy => h y (by simp [hy]))
end

section
variable {T : Tab} {ρ : Rho}

theorem VRelL.one {x : Value} {l' : List Value} (h : VRelL ρ [x] l') : ∃ x', l' = [x'] ∧ VRel ρ x x' := by
  cases h with
  | cons h ht => cases ht; exact ⟨_, rfl, h⟩
theorem VRelL.two {x y : Value} {l' : List Value} (h : VRelL ρ [x, y] l') : ∃ x' y', l' = [x', y'] ∧ VRel ρ x x' ∧ VRel ρ y y' := by
  cases h with
  | cons h ht =>
    obtain ⟨y', rfl, hy⟩ := ht.one
    exact ⟨_, _, rfl, h, hy⟩

theorem builtin_rel (hT : TabOk T) {b : Builtin} {ts : List TypeId} {t : TypeId} {cs : Array Bool} {args args' : List Value} (ha : VRelL ρ args args') :
    SR T.P NxRel ρ (aBuiltin T b ts t args) (builtin b ⟨ts⟩ t cs ⟨args'⟩) := by
  unfold aBuiltin
  split
  · rename_i ts rest s x
    obtain ⟨s', x', rfl, hs, hx⟩ := ha.two
    split
    · rename_i hm
      exact SR.vNx (append_rel hT hm hs hx)
    · exact .fail
  · rename_i t ts x
    obtain ⟨x', rfl, hx⟩ := ha.one
    exact SR.vNx (len_rel hT hx)
  · rename_i t ts x
    obtain ⟨x', rfl, hx⟩ := ha.one
    exact SR.vNx (cap_rel hT hx)
  · rename_i t ts x
    obtain ⟨x', rfl, hx⟩ := ha.one
    exact SR.vNx (clear_rel hT hx)
  · rename_i t ts d x
    obtain ⟨d', x', rfl, hd, hx⟩ := ha.two
    exact SR.vNx (copy_rel hT hd hx)
  · rename_i t ts m k
    obtain ⟨m', k', rfl, hm, hk⟩ := ha.two
    exact SR.vNx (delete_rel hT hm hk)
  · exact SR.vNx (max_rel ha)
  · exact SR.vNx (min_rel ha)
  · rename_i n c
    obtain ⟨x', rfl, hx⟩ := ha.one
    exact SR.bind (sliceDataNil_rel (ats := ⟨ts⟩) (rt := t) hx) fun _ _ _ _ hv => .ret (.value hv)
  · rename_i a n c
    obtain ⟨x', rfl, hx⟩ := ha.one
    have h := SR.bind (sliceData_rel (P := T.P) (ats := ⟨ts⟩) (rt := t) hx) (S := NxRel) (f := fun v => .ret (.value v)) (g := fun v => .pure (.value v)) fun _ _ _ _ hv => .ret (.value hv)
    split
    · rename_i h1 h2
      rw [h1, h2] at h
      exact h
    · rename_i h1 h2
      rw [h1, h2] at h
      cases hb : Nat.beq (c % Go.Bel.loose) 0 <;> (rw [hb] at h; exact h)
    · exact .fail
  · rename_i pt ts p k n
    obtain ⟨x', y', rfl, hx, hy⟩ := ha.two
    cases hy.int
    obtain ⟨p', rfl⟩ : ∃ p', x' = .pointer p' := by
      cases p with
      | none => exact ⟨_, hx.pnil⟩
      | some a => obtain ⟨a', h, _⟩ := hx.toPtr; exact ⟨_, h⟩
    exact SR.vNx (unsafeString_rel hT hx)
  · exact .ret .recover
  · exact .fail
end

section
variable {T : Tab} {ρ : Rho}

theorem VRelL.cons' {x : Value} {l l' : List Value} (h : VRelL ρ (x :: l) l') : ∃ x' r, l' = x' :: r ∧ VRel ρ x x' ∧ VRelL ρ l r := by
  cases h with
  | cons h ht => exact ⟨_, _, rfl, h, ht⟩

theorem arr_app {α : Type} (a b : List α) : (⟨a⟩ : Array α) ++ ⟨b⟩ = ⟨a ++ b⟩ := by simp
theorem arr_first {α : Type} (x : α) (l : List α) : (⟨x :: l⟩ : Array α).extract 1 (⟨x :: l⟩ : Array α).size = ⟨l⟩ := by simp

theorem Ev.args {η η' : Operand → Value} {a : Array Operand} (h : Ev ρ η η' a.toList) : VRelL ρ (lst2 η a.toList) (a.map η').toList := by
  rw [Array.toList_map]; exact h.list

/-- the method of a value behind an interface value -/
theorem run_method (hT : TabOk T) {t : TypeId} {i : TypeInfo} {m : Method} {f : FuncId} {p : Bool} {v : Value} {name : String} {d : TypeDesc} (hi : T.ty.get t = some i)
    (hm : i.methods.toList.find? (fun m => m.name == name) = some m) (hp : m.path.toList = []) (hf : m.func = some (f, p)) (hu : T.und t = some d)
    (hd : (∃ e, d = .pointer e) ↔ p = true) (fuel : Nat) (w : World) : (method (fuel + 1) t v name).run T.P w = .ok (f, v) w := by
  have hm' : i.methods.find? (fun m => m.name == name) = some m := by
    rw [← Array.find?_toList]; exact hm
  simp only [method, bind_eq, pure_eq]
  rw [run_bind_ok (hT.run_info hi w)]
  simp only [hm', hp, hf, follow, pure_eq, Sem.bind]
  rw [receiverAt]
  simp only [bind_eq, pure_eq]
  have hr := hT.run_und hu w
  rw [Sem.run_bind', Sem.run_bind', hr]
  cases p with
  | true =>
    obtain ⟨e, rfl⟩ := hd.2 rfl
    rfl
  | false =>
    have : ∀ e, d ≠ .pointer e := fun e he => by have := hd.1 ⟨e, he⟩; cases this
    cases d <;> first | exact absurd rfl (this _) | rfl

theorem run_callMethod (hT : TabOk T) {t : TypeId} {i : TypeInfo} {m : Method} {f : FuncId} {p : Bool} {v : Value} {name : String} {d : TypeDesc} {args : List Value} (hi : T.ty.get t = some i)
    (hm : i.methods.toList.find? (fun m => m.name == name) = some m) (hp : m.path.toList = []) (hf : m.func = some (f, p)) (hu : T.und t = some d)
    (hd : (∃ e, d = .pointer e) ↔ p = true) (w : World) : (callMethod (.iface t v) name ⟨args⟩).run T.P w = (callFunc f ⟨v :: args⟩).run T.P w := by
  have hpos : ∃ n, T.P.types.size + Made.depth = n + 1 := ⟨T.P.types.size + Made.depth - 1, by have : 1 ≤ Made.depth := by decide
                                                                                               omega⟩
  obtain ⟨n, hn⟩ := hpos
  simp only [callMethod, bind_eq]
  show ((method (T.P.types.size + Made.depth) t v name).bind _).run T.P w = _
  rw [hn, run_bind_ok (run_method hT hi hm hp hf hu hd n w)]
  simp

theorem call_rel (hT : TabOk T) {η η' : Operand → Value} {c : Call} {t : TypeId} (hev : Ev ρ η η' c.operands.toList) :
    SR T.P NxRel ρ (aCall T η c t) ((resolve η' c t).bind fun d => invoke d.target d.args) := by
  have hargs : Ev ρ η η' c.args.toList := fun x hx => hev x (by simp [Call.operands, hx])
  have ha := hargs.args
  unfold aCall
  split
  · rename_i b hb
    simp only [resolve, hb, pure_eq, Sem.bind, invoke]
    have := builtin_rel (T := T) hT (b := b) (ts := c.argTypes.toList) (t := t) (cs := c.args.map fun | .const _ => true | _ => false) ha
    exact this
  · rename_i recv name hcal
    have hr : VRel ρ (η recv) (η' recv) := hev recv (by simp [Call.operands, hcal])
    split
    · rename_i ty v hev1
      rw [hev1] at hr
      obtain ⟨v', hv', hvr⟩ := hr.toIface
      split
      · rename_i i hi
        split
        · rename_i m hm
          have key : ∀ (f : FuncId) (p : Bool) (d : TypeDesc), m.path.toList = [] → m.func = some (f, p) → T.und ty = some d → ((∃ e, d = .pointer e) ↔ p = true) →
              SR T.P NxRel ρ (aCallFn T f (v :: lst2 η c.args.toList)) ((resolve η' c t).bind fun d => invoke d.target d.args) := by
            intro f p d hp hf hu hd
            refine .equiv (s'' := callFunc f ⟨v' :: (c.args.map η').toList⟩) (fun w => ?_) (callFn_rel hT (.cons hvr ha))
            simp only [resolve, hcal, pure_eq, Sem.bind, invoke, hv']
            have := run_callMethod (v := v') (args := (c.args.map η').toList) hT hi hm hp hf hu hd w
            rw [← this]
            have e : #[Value.iface ty v'] ++ c.args.map η' = ⟨Value.iface ty v' :: (c.args.map η').toList⟩ := arr_app [_] _
            rw [e, arr_first]
            rfl
          split
          · rename_i f hp hf
            split
            · exact .fail
            · rename_i d hne hu
              exact key f false d hp hf hu ⟨fun ⟨e, he⟩ => absurd he (hne e), fun h => by cases h⟩
            · exact .fail
          · rename_i f hp hf
            split
            · rename_i e hu
              exact key f true _ hp hf hu ⟨fun _ => rfl, fun _ => ⟨e, rfl⟩⟩
            · exact .fail
          · exact .fail
        · exact .fail
      · exact .fail
    · exact .fail
  · rename_i g hcal
    have hr : VRel ρ (η g) (η' g) := hev g (by simp [Call.operands, hcal])
    split
    · rename_i f first captured hv
      rw [hv] at hr
      obtain ⟨⟨first⟩, ⟨captured⟩⟩ := first, captured
      obtain ⟨fn', a', c', hv', hfn, ha1, hc1⟩ := hr.toFunc
      cases hfn with
      | same hn =>
        simp only [resolve, hcal, hv', Deferred.ofValue, pure_eq, Sem.bind, invoke]
        have := callFn_rel (f := f) hT ((ha1.append ha).append hc1)
        have e : (⟨a'⟩ : Array Value) ++ c.args.map η' ++ ⟨c'⟩ = ⟨a' ++ (c.args.map η').toList ++ c'⟩ := by
          rw [← arr_app, ← arr_app]
        rw [e]
        exact this
    · rename_i l first captured hv
      rw [hv] at hr
      split
      · rename_i h1 h2
        obtain ⟨⟨first⟩, ⟨captured⟩⟩ := first, captured
        simp only at h1 h2
        subst h1; subst h2
        obtain ⟨fn', a', c', hv', hfn, ha1, hc1⟩ := hr.toFunc
        cases ha1
        cases hc1
        cases hfn with
        | same hn => exact absurd rfl (hn l)
        | @yield l b hb =>
          simp only [resolve, hcal, hv', Deferred.ofValue, pure_eq, Sem.bind, invoke, Instr.yield, Instr.getLoop, bind_eq, getObj]
          have e : (⟨[]⟩ : Array Value) ++ c.args.map η' = c.args.map η' := by simp
          simp only [e]
          refine .getObj hb fun o o' ho hc => ?_
          cases ho with
          | cells => cases hc
          | @loop st pd fn tm tm' ps as bd d bd' htm hd h0 =>
            simp only [Sem.bind]
            split
            · rename_i hlen
              have hlen := Nat.eq_of_beq_eq_true hlen
              rw [if_neg (by simp; simpa using hlen.symm)]
              refine .ret ?_
              have := NxRel.yield (ρ := ρ) (l := l) (b := b) (r := { state := st, pending := pd, fn, tmps := ⟨tm⟩, params := ps, assign := as, body := bd, defers := d }) (t' := tm') (args := lst2 η c.args.toList) (args' := (c.args.map η').toList) hb htm ha ?_
              · exact this
              · rw [hlen, ha.length]; simp
            · exact .fail
          | _ => exact .fail
      · exact .fail
    · exact .fail
end

section
variable {T : Tab} {ρ : Rho}

theorem optRel {η η' : Operand → Value} {o : Option Operand} (h : ∀ x, o = some x → VRel ρ (η x) (η' x)) : OptRel ρ (o.map η) (o.map η') := by
  cases o with
  | none => exact .none
  | some x => exact .some (h x rfl)
theorem partsRel {η η' : Operand → Value} : ∀ {l : List (Nat × Operand)}, (∀ p ∈ l, VRel ρ (η p.2) (η' p.2)) → PRelL ρ (lst2 (fun (p : Nat × Operand) => (p.1, η p.2)) l) (l.map fun p => (p.1, η' p.2))
  | [], _ => .nil
  | (i, x) :: l, h => .cons (h (i, x) (by simp)) (partsRel fun p hp => h p (by simp [hp]))

theorem op_rel (hT : TabOk T) {η η' : Operand → Value} {o : Oper} (hev : Ev ρ η η' o.op.operands.toList) : SR T.P NxRel ρ (aOp T η o) (execOp η' o) := by
  unfold aOp execOp
  simp only [bind_eq, pure_eq]
  split
  · rename_i x hop
    simp only [hop]
    exact .ret (.value (hev x (by simp [hop, Op.operands])))
  · rename_i x hop
    simp only [hop]
    exact .ret (.value (hev x (by simp [hop, Op.operands])))
  · rename_i c a b hop
    simp only [hop]
    have hc := hev c (by simp [hop, Op.operands])
    have ha := hev a (by simp [hop, Op.operands])
    have hb := hev b (by simp [hop, Op.operands])
    split
    · rename_i h
      rw [h] at hc
      rw [hc.bool]
      exact .ret (.value (by simpa [asBool] using ha))
    · rename_i h
      rw [h] at hc
      rw [hc.bool]
      exact .ret (.value (by simpa [asBool] using hb))
    · exact .fail
  · rename_i e hop
    simp only [hop]
    split
    · rename_i z hz
      exact SR.vNx (alloc_rel hT hz)
    · exact .fail
  · rename_i e x hop
    simp only [hop]
    have hx := hev x (by simp [hop, Op.operands])
    split
    · rename_i hk
      exact SR.vNx (box_rel hx hk)
    · exact .fail
  · rename_i t parts hop
    simp only [hop]
    have hp := partsRel (η := η) (η' := η') (l := parts.toList) (fun p hp => hev p.2 (by
      simp only [hop, Op.operands]
      simp only [List.mem_map]
      exact ⟨p, hp, rfl⟩))
    exact SR.vNx (build_rel hT (parts' := parts.map fun (i, x) => (i, η' x)) (by simpa using hp))
  · rename_i t n parts hop
    simp only [hop]
    have hp := partsRel (η := η) (η' := η') (l := parts.toList) (fun p hp => hev p.2 (by
      simp only [hop, Op.operands]
      simp only [List.mem_map]
      exact ⟨p, hp, rfl⟩))
    exact SR.vNx (buildSlice_rel hT (parts' := parts.map fun (i, x) => (i, η' x)) (by simpa using hp))
  · rename_i t a hop
    simp only [hop]
    exact SR.vNx (load_rel hT (hev a (by simp [hop, Op.operands])))
  · rename_i t a x hop
    simp only [hop]
    exact SR.uNx (store_rel hT (hev a (by simp [hop, Op.operands])) (hev x (by simp [hop, Op.operands])))
  · rename_i x hop
    simp only [hop]
    have hx := hev x (by simp [hop, Op.operands])
    split
    · rename_i a h
      rw [h] at hx
      obtain ⟨a', h', ha⟩ := hx.toPtr
      rw [h']
      exact .ret (.value (.ptr ha))
    · rename_i f a b h
      rw [h] at hx
      obtain ⟨⟨a⟩, ⟨b⟩⟩ := a, b
      obtain ⟨fn', a', c', hv', hfn, ha1, hc1⟩ := hx.toFunc
      cases hfn with
      | same hn =>
        rw [hv']
        exact .ret (.value (.func (.same hn) ha1 hc1))
    · rename_i t v h
      rw [h] at hx
      obtain ⟨v', h', hv⟩ := hx.toIface
      rw [h']
      exact .ret (.value (.iface hv))
    · rename_i l a b h
      rw [h] at hx
      obtain ⟨⟨a⟩, ⟨b⟩⟩ := a, b
      obtain ⟨fn', a', c', hv', hfn, ha1, hc1⟩ := hx.toFunc
      cases hfn with
      | same hn => exact absurd rfl (hn l)
      | yield hb =>
        rw [hv']
        exact .ret (.value (.func (.yield hb) ha1 hc1))
    · exact .fail
  · rename_i op t x y yt hop
    simp only [hop]
    have hx := hev x (by simp [hop, Op.operands])
    have hy := hev y (by simp [hop, Op.operands])
    split
    · rename_i hio
      refine SR.vNx (bin_rel hT hx hy fun h1 h2 => ?_)
      rw [h1, h2] at hio
      simpa [ifaceOk] using hio
    · exact .fail
  · rename_i op t x hop
    simp only [hop]
    exact SR.vNx (un_rel (hev x (by simp [hop, Op.operands])))
  · rename_i s d x hop
    simp only [hop]
    exact SR.vNx (convert_rel hT (hev x (by simp [hop, Op.operands])))
  · rename_i t x hop
    simp only [hop]
    have h := SR.vNx (makeInterface_rel hT (t := t) (hev x (by simp [hop, Op.operands])))
    refine Eq.mp (congrArg (fun s => SR T.P NxRel ρ s _) ?_) h
    cases T.und t with
    | none => rfl
    | some d => cases d <;> rfl
  · rename_i fn first captured hop
    simp only [hop]
    have h1 : VRelL ρ (lst2 η first.toList) (first.map η').toList := Ev.args fun x hx => hev x (by simp [hop, Op.operands, hx])
    have h2 : VRelL ρ (lst2 η captured.toList) (captured.map η').toList := Ev.args fun x hx => hev x (by simp [hop, Op.operands, hx])
    split
    · rename_i hn
      simp only [Instr.makeFunc, pure_eq, Sem.bind]
      exact .ret (.value (.func (.same fun l he => by rw [he] at hn; cases hn) h1 h2))
    · exact .fail
  · rename_i t hop
    simp only [hop]
    exact SR.vNx makeMap0_rel
  · rename_i t x hop
    simp only [hop]
    have hx := hev x (by simp [hop, Op.operands])
    split
    · rename_i k e kd n hu hxe
      rw [hxe] at hx
      have h := makeMap1_rel hT (t := t) hx
      rw [hu] at h
      exact SR.vNx h
    · exact .fail
  · rename_i t l c hop
    simp only [hop]
    exact SR.vNx (makeSlice_rel hT (hev l (by simp [hop, Op.operands])) (hev c (by simp [hop, Op.operands])))
  · rename_i t x lo hi mx hop
    simp only [hop]
    refine SR.vNx (slice_rel hT (hev x (by simp [hop, Op.operands])) (optRel fun y hy => hev y ?_) (optRel fun y hy => hev y ?_) (optRel fun y hy => hev y ?_))
    all_goals simp [hop, Op.operands, hy]
  · rename_i t x f hop
    simp only [hop]
    exact SR.vNx (fieldAddr_rel hT (hev x (by simp [hop, Op.operands])))
  · rename_i t x f hop
    simp only [hop]
    exact SR.vNx (field_rel hT (hev x (by simp [hop, Op.operands])))
  · rename_i t x i hop
    simp only [hop]
    exact SR.vNx (indexAddr_rel hT (hev x (by simp [hop, Op.operands])) (hev i (by simp [hop, Op.operands])))
  · rename_i t x i hop
    simp only [hop]
    exact SR.vNx (index_rel hT (hev x (by simp [hop, Op.operands])) (hev i (by simp [hop, Op.operands])))
  · rename_i t x i ok hop
    simp only [hop]
    exact SR.vNx (lookup_rel hT (hev x (by simp [hop, Op.operands])) (hev i (by simp [hop, Op.operands])))
  · rename_i t m k x hop
    simp only [hop]
    exact SR.uNx (mapUpdate_rel hT (hev m (by simp [hop, Op.operands])) (hev k (by simp [hop, Op.operands])) (hev x (by simp [hop, Op.operands])))
  · rename_i t m k x hop
    simp only [hop]
    exact SR.uNx (mapUpdate_rel hT (hev m (by simp [hop, Op.operands])) (hev k (by simp [hop, Op.operands])) (hev x (by simp [hop, Op.operands])))
  · rename_i t x hop
    simp only [hop]
    exact SR.vNx (range_rel hT (hev x (by simp [hop, Op.operands])))
  · rename_i it str hop
    simp only [hop]
    exact SR.vNx (next_rel (hev it (by simp [hop, Op.operands])))
  · rename_i it hop
    simp only [hop]
    exact SR.vNx (entry_rel (hev it (by simp [hop, Op.operands])))
  · rename_i x xt t ok hop
    simp only [hop]
    exact SR.vNx (typeAssert_rel hT (hev x (by simp [hop, Op.operands])))
  · rename_i x i hop
    simp only [hop]
    exact SR.vNx (extract_rel (hev x (by simp [hop, Op.operands])))
  · rename_i c hop
    simp only [hop]
    exact call_rel hT (by simpa [hop, Op.operands] using hev)
  · rename_i c hop
    simp only [hop]
    split
    · rename_i f hcal
      have hargs : Ev ρ η η' c.args.toList := fun x hx => hev x (by simp [hop, Op.operands, Call.operands, hx])
      have ha := hargs.args
      have hr : VRel ρ (η f) (η' f) := hev f (by simp [hop, Op.operands, Call.operands, hcal])
      split
      · rename_i f first captured hv
        rw [hv] at hr
        obtain ⟨⟨first⟩, ⟨captured⟩⟩ := first, captured
        obtain ⟨fn', a', c', hv', hfn, ha1, hc1⟩ := hr.toFunc
        cases hfn with
        | same hn =>
          simp only [resolve, hcal, hv', Deferred.ofValue, pure_eq, Sem.bind]
          have e : (⟨a'⟩ : Array Value) ++ c.args.map η' = ⟨a' ++ (c.args.map η').toList⟩ := by
            rw [← arr_app]
          rw [e]
          exact .ret (.defer hc1 (ha1.append ha))
      · exact .fail
    · exact .fail
  · exact .fail
end

section
/-! ## frames -/

inductive DRel (ρ : Rho) : Deferred → Deferred → Prop where
  | fn {f : FuncId} {c c' a a' : List Value} (hc : VRelL ρ c c') (ha : VRelL ρ a a') : DRel ρ { target := .fn (.func f) ⟨c⟩, args := ⟨a⟩ } { target := .fn (.func f) ⟨c'⟩, args := ⟨a'⟩ }
  | mark {r : Nat} {b : BI} {a a' : Array Value} (h : ρ r = some b) : DRel ρ { target := .collected r, args := a } { target := .collected b.blk, args := a' }
inductive DRelL (ρ : Rho) : List Deferred → List Deferred → Prop where
  | nil : DRelL ρ [] []
  | cons {d d' : Deferred} {l l' : List Deferred} (h : DRel ρ d d') (ht : DRelL ρ l l') : DRelL ρ (d :: l) (d' :: l')
structure PRel (ρ : Rho) (e e' : PanicEntry) : Prop where
  v : VRel ρ e.v e'.v
  rcv : e'.recovered = e.recovered
  ex : e'.goexit = e.goexit
inductive ChRel (ρ : Rho) : List PanicEntry → List PanicEntry → Prop where
  | nil : ChRel ρ [] []
  | cons {e e' : PanicEntry} {l l' : List PanicEntry} (h : PRel ρ e e') (ht : ChRel ρ l l') : ChRel ρ (e :: l) (e' :: l')
inductive URel (ρ : Rho) : FrameMode → FrameMode → Prop where
  | run : URel ρ .run .run
  | ret : URel ρ .returning .returning
  | panic {l l' : List PanicEntry} (h : ChRel ρ l l') : URel ρ (.panicking l) (.panicking l')

section
variable {ρ ρ' : Rho}
theorem DRel.mono (hle : ρ.le ρ') {d d' : Deferred} (h : DRel ρ d d') : DRel ρ' d d' := by
  cases h with
  | fn hc ha => exact .fn (hc.mono hle) (ha.mono hle)
  | mark h => exact .mark (hle _ _ h)
theorem DRelL.mono (hle : ρ.le ρ') {d d' : List Deferred} (h : DRelL ρ d d') : DRelL ρ' d d' := by
  induction h with
  | nil => exact .nil
  | cons h _ ih => exact .cons (h.mono hle) ih
theorem PRel.mono (hle : ρ.le ρ') {d d' : PanicEntry} (h : PRel ρ d d') : PRel ρ' d d' := ⟨h.v.mono hle, h.rcv, h.ex⟩
theorem ChRel.mono (hle : ρ.le ρ') {d d' : List PanicEntry} (h : ChRel ρ d d') : ChRel ρ' d d' := by
  induction h with
  | nil => exact .nil
  | cons h _ ih => exact .cons (h.mono hle) ih
theorem ChRel.append {a a' c c' : List PanicEntry} (h : ChRel ρ a a') (k : ChRel ρ c c') : ChRel ρ (a ++ c) (a' ++ c') := by
  induction h with
  | nil => exact k
  | cons h _ ih => exact .cons h ih
theorem URel.mono (hle : ρ.le ρ') {d d' : FrameMode} (h : URel ρ d d') : URel ρ' d d' := by
  cases h with
  | run => exact .run
  | ret => exact .ret
  | panic h => exact .panic (h.mono hle)
theorem ChRel.drop {l l' : List PanicEntry} (h : ChRel ρ l l') : ChRel ρ (l.dropWhile fun e => !e.goexit) (l'.dropWhile fun e => !e.goexit) := by
  induction h with
  | nil => exact .nil
  | @cons e e' l l' h ht ih =>
    simp only [List.dropWhile_cons, h.ex]
    split
    · exact ih
    · exact .cons h ht
theorem settle_rel {u u' : FrameMode} (h : URel ρ u u') : URel ρ (settleA u) (settle u') := by
  cases h with
  | run => exact .run
  | ret => exact .ret
  | panic h =>
    cases h with
    | nil => exact .panic .nil
    | @cons e e' l l' h ht =>
      obtain ⟨v, r, g⟩ := e
      obtain ⟨v', r', g'⟩ := e'
      have h1 := h.rcv
      have h2 := h.ex
      simp only at h1 h2
      subst h1; subst h2
      cases r' with
      | false => exact .panic (.cons h ht)
      | true =>
        have hd := ht.drop
        unfold settleA settle
        simp only
        revert hd
        generalize (l.dropWhile fun e => !e.goexit) = a
        generalize (l'.dropWhile fun e => !e.goexit) = c
        intro hd
        cases hd with
        | nil => exact .ret
        | cons h1 h2 => exact .panic (.cons h1 h2)
theorem raised_rel {u u' : FrameMode} {ch ch' : List PanicEntry} (h : URel ρ u u') (hc : ChRel ρ ch ch') : URel ρ (raisedA u ch) (raised u' ch') := by
  cases h with
  | run => exact .panic hc
  | ret => exact .panic hc
  | panic h => exact .panic (hc.append h)
theorem settle_run {u : FrameMode} (h : u ≠ .run) : settle u ≠ .run := by
  unfold settle
  split
  · split <;> simp
  · exact h
theorem raised_run {u : FrameMode} {ch : List PanicEntry} : raised u ch ≠ .run := by
  unfold raised
  split <;> simp
end

/-- the frames behind: where this one is of a deferred call, the first of them has this mode -/
inductive Cx where
  | plain (cs : List Frame)
  | dfr (c : Frame) (cs : List Frame)
def Cx.at : Cx → FrameMode → List Frame
  | .plain cs, _ => cs
  | .dfr c cs, m => { c with mode := m } :: cs

inductive UpRel (ρ : Rho) : Option FrameMode → CallKind → Cx → FrameMode → Prop where
  | none {cs : List Frame} {m : FrameMode} : UpRel ρ none .normal (.plain cs) m
  | some {u m : FrameMode} {c : Frame} {cs : List Frame} (h : URel ρ u m) (hm : m ≠ .run) : UpRel ρ (some u) .deferred (.dfr c cs) m
inductive RoRel (ρ : Rho) : Option Nat → Option Nat → Prop where
  | none : RoRel ρ none none
  | some {l : Nat} {b : BI} (h : ρ l = some b) : RoRel ρ (some l) (some b.blk)

structure FrRel (ρ : Rho) (fr : Fr) (b : Frame) (a : Act) (X : Cx) (m : FrameMode) : Prop where
  fn : b.fn = fr.fn
  size : a.tmps.size = fr.n
  tmps : ∀ t, VRel ρ (fr.eval (.tmp t)) (a.tmps.getD t undef)
  defers : DRelL ρ fr.defers a.defers
  up : UpRel ρ fr.up b.kind X m
  round : RoRel ρ fr.round b.roundOf
  one : fr.up = none ∨ fr.round = none

section
variable {ρ ρ' : Rho} {fr : Fr} {b : Frame} {a : Act} {X : Cx} {m : FrameMode}
theorem FrRel.mono (hle : ρ.le ρ') (h : FrRel ρ fr b a X m) : FrRel ρ' fr b a X m where
  fn := h.fn
  size := h.size
  tmps t := (h.tmps t).mono hle
  defers := h.defers.mono hle
  up := by
    have := h.up
    revert this
    generalize fr.up = u
    generalize b.kind = k
    intro hu
    cases hu with
    | none => exact .none
    | some h hm => exact .some (h.mono hle) hm
  round := by
    have := h.round
    revert this
    generalize fr.round = u
    generalize b.roundOf = k
    intro hu
    cases hu with
    | none => exact .none
    | some h => exact .some (hle _ _ h)
  one := h.one

theorem undef_rel : VRel ρ (.tuple #[]) undef := .tuple .nil

theorem FrRel.eval (h : FrRel ρ fr b a X m) {x : Operand} (hx : okOperand x = true) : VRel ρ (fr.eval x) (a.eval x) := by
  cases x with
  | tmp t => exact h.tmps t
  | const v => exact plain_rel v hx
  | global g => cases hx
  | func f => exact .func (.same (by intro l h; cases h)) .nil .nil

theorem allOk_mem : ∀ {l : List Operand}, allOk l = true → ∀ x ∈ l, okOperand x = true
  | [], _, _, h => by cases h
  | y :: l, h, x, hx => by
    simp only [allOk, Bool.and_eq_true] at h
    cases hx with
    | head => exact h.1
    | tail _ hm => exact allOk_mem h.2 x hm
theorem FrRel.ev (h : FrRel ρ fr b a X m) {l : List Operand} (hl : allOk l = true) : Ev ρ fr.eval a.eval l := fun x hx => h.eval (allOk_mem hl x hx)

theorem eval_put {t : Tmp} {v : Value} {d : Tmp} : ({ fr with tmps := fr.tmps.put d v } : Fr).eval (.tmp t) = if t = d then v else fr.eval (.tmp t) := by
  simp only [Fr.eval, Tr.get_put]
  by_cases h : t = d
  · simp [h]
  · simp [h]

theorem FrRel.put (h : FrRel ρ fr b a X m) {d : Option Tmp} {v v' : Value} (hv : VRel ρ v v') {fr' : Fr} (hp : fr.put d v = some fr') : FrRel ρ fr' b (a.put d v') X m := by
  cases d with
  | none =>
    simp only [Fr.put, Option.some.injEq] at hp
    subst hp
    exact h
  | some d =>
    simp only [Fr.put] at hp
    split at hp
    · rename_i hlt
      have hlt : d < fr.n := Nat.le_of_ble_eq_true hlt
      simp only [Option.some.injEq] at hp
      subst hp
      refine ⟨h.fn, by simpa [Act.put] using h.size, fun t => ?_, h.defers, h.up, h.round, h.one⟩
      rw [eval_put]
      by_cases ht : t = d
      · subst ht
        rw [if_pos rfl]
        simp only [Act.put]
        rw [Array.getD_eq_getD_getElem?, Array.getElem?_setIfInBounds_self_of_lt (by rw [h.size]; exact hlt)]
        exact hv
      · rw [if_neg ht]
        simp only [Act.put]
        rw [Array.getD_eq_getD_getElem?, Array.getElem?_setIfInBounds_ne (fun e => ht e.symm), ← Array.getD_eq_getD_getElem?]
        exact h.tmps t
    · cases hp

/-- whether it is wanted -/
theorem FrRel.wanted (h : FrRel ρ fr b a X m) {ops : Array Oper} {o : Oper} {c : Bool} (hw : wantedA ops.toList o fr = some c) : Region.wanted o (yielded ops a.tmps) = c := by
  unfold wantedA at hw
  unfold Region.wanted
  split at hw
  · rename_i hg
    simp only [Option.some.injEq] at hw
    subst hw
    simp only [hg]
  · rename_i j want hg
    simp only [hg]
    split at hw
    · rename_i g hj
      rw [nth_eq, Array.getElem?_toList] at hj
      split at hw
      · rename_i d hd
        have ht := h.tmps d
        have hy : yielded ops a.tmps j = match a.tmps[d]? with | some (.bool b) => some b | _ => none := by
          simp only [yielded, hj, Option.bind_some, hd]
          rfl
        rw [hy]
        split at hw
        · rename_i x hx
          simp only [Fr.eval, hx] at ht
          have h1 := ht.bool
          have h2 : a.tmps[d]? = some (.bool x) := by
            rw [Array.getD_eq_getD_getElem?] at h1
            cases h3 : a.tmps[d]? with
            | none => rw [h3] at h1; cases h1
            | some y => rw [h3] at h1; simpa using h1
          rw [h2]
          simp only [Option.some.injEq] at hw
          subst hw
          cases x <;> cases want <;> rfl
        · rename_i l hx
          simp only [Option.some.injEq] at hw
          subst hw
          simp only [Fr.eval, hx] at ht
          obtain ⟨l⟩ := l
          obtain ⟨l', h1, _⟩ := ht.toTuple
          rw [Array.getD_eq_getD_getElem?] at h1
          cases h3 : a.tmps[d]? with
          | none => rfl
          | some y => rw [h3] at h1; simp only [Option.getD_some] at h1; subst h1; rfl
        · cases hw
        · rename_i hx
          simp only [Option.some.injEq] at hw
          subst hw
          simp only [Fr.eval, hx] at ht
          obtain ⟨l', h1, _⟩ := ht.toTuple
          rw [Array.getD_eq_getD_getElem?] at h1
          cases h3 : a.tmps[d]? with
          | none => rfl
          | some y => rw [h3] at h1; simp only [Option.getD_some] at h1; subst h1; rfl
      · simp only [Option.some.injEq] at hw
        subst hw
        have hy : yielded ops a.tmps j = none := by
          rename_i hd
          simp only [yielded, hj, Option.bind_some, hd]
          rfl
        rw [hy]; rfl
    · simp only [Option.some.injEq] at hw
      subst hw
      rename_i hj
      rw [nth_eq, Array.getElem?_toList] at hj
      have hy : yielded ops a.tmps j = none := by simp only [yielded, hj]; rfl
      rw [hy]; rfl

end
end

section
def RRel (ρ : Rho) : Res → Ending → Prop
  | .ret v, .returned v' => VRel ρ v v'
  | .panic ch, .panicked ch' => ChRel ρ ch ch'
  | _, _ => False

/-- a call of a function, in the model -/
def CallOk (P : Program) (f : FuncId) (args : List Value) (s : St) (r : Res) (s' : St) : Prop :=
  ∀ (ρ : Rho) (w : World) (args' : List Value) (cs : List Frame), SRel ρ s w → VRelL ρ args args' →
    ∃ ρ' w' fr e, Post ρ s w ρ' s' w' ∧ RRel ρ' r e ∧ Steps P (lone (Frame.enter P f ⟨args'⟩ .normal) cs w) (lone fr cs w') ∧ fr.leaving P w' e ∧ fr.fn = f

/-- how a walk ends -/
def Arr (P : Program) (M : Machine) (b : Frame) (k : List Item) (cs : List Frame) (ρ : Rho) (a : Act) (w : World) : Ex → Prop
  | .normal => Steps P M (lone (b.atR a k) cs w)
  | .exit id => ∃ k₁, exitTo id k₁ = exitTo id k ∧ Steps P M (lone (b.atR a (.code (.exit id) :: k₁)) cs w)
  | .goto l => ∃ k₁, gotoIn l k₁ = gotoIn l k ∧ Steps P M (lone (b.atR a (.code (.goto l) :: k₁)) cs w)
  | .ret => ∃ k₁, Steps P M (lone (b.atR a (.code .ret :: k₁)) cs w)
  | .panic ch => ∃ k₁ ch', ChRel ρ ch ch' ∧ Steps P M (lone { b.atR a k₁ with mode := .panicking ch' } cs w)
theorem Arr.of_steps {P : Program} {M M' : Machine} {b : Frame} {k : List Item} {cs : List Frame} {ρ : Rho} {a : Act} {w : World} {e : Ex} (h : Steps P M M') (h' : Arr P M' b k cs ρ a w e) : Arr P M b k cs ρ a w e := by
  cases e with
  | normal => exact h.trans h'
  | exit id => obtain ⟨k₁, h1, h2⟩ := h'; exact ⟨k₁, h1, h.trans h2⟩
  | goto l => obtain ⟨k₁, h1, h2⟩ := h'; exact ⟨k₁, h1, h.trans h2⟩
  | ret => obtain ⟨k₁, h2⟩ := h'; exact ⟨k₁, h.trans h2⟩
  | panic ch => obtain ⟨k₁, ch', h1, h2⟩ := h'; exact ⟨k₁, ch', h1, h.trans h2⟩

def WalkOk (P : Program) (todo : List Item → List Item) (fr : Fr) (s : St) (e : Ex) (fr' : Fr) (s' : St) : Prop :=
  ∀ (ρ : Rho) (w : World) (b : Frame) (a : Act) (X : Cx) (m : FrameMode) (k : List Item), SRel ρ s w → FrRel ρ fr b a X m →
    ∃ ρ' w' a' m', Post ρ s w ρ' s' w' ∧ FrRel ρ' fr' b a' X m' ∧ Arr P (lone (b.atR a (todo k)) (X.at m) w) b k (X.at m') ρ' a' w' e

def CallDOk (P : Program) (f : FuncId) (args : List Value) (u : FrameMode) (s : St) (r : Res) (u' : FrameMode) (s' : St) : Prop :=
  ∀ (ρ : Rho) (w : World) (args' : List Value) (c : Frame) (cs : List Frame) (m : FrameMode), SRel ρ s w → VRelL ρ args args' → URel ρ u m → m ≠ .run →
    ∃ ρ' w' m' fr e, m' ≠ .run ∧ Post ρ s w ρ' s' w' ∧ RRel ρ' r e ∧ URel ρ' u' m' ∧ Steps P (lone (Frame.enter P f ⟨args'⟩ .deferred) ({ c with mode := m } :: cs) w) (lone fr ({ c with mode := m' } :: cs) w') ∧
      fr.kind = .deferred ∧ fr.going P w' e

def LeaveOk (P : Program) (fn : Func) (tmps : Tr Value) (ds : List Deferred) (u : FrameMode) (s : St) (r : Res) (s' : St) : Prop :=
  ∀ (ρ : Rho) (w : World) (fr : Frame) (cs : List Frame), SRel ρ s w → (∀ t, VRel ρ (match tmps.get t with | some v => v | none => .tuple #[]) (fr.tmps.getD t undef)) → DRelL ρ ds fr.defers → URel ρ u fr.mode →
    fr.mode ≠ .run → P.funcs[fr.fn]? = some fn → fr.kind = .normal →
    ∃ ρ' w' fr' e, Post ρ s w ρ' s' w' ∧ RRel ρ' r e ∧ Steps P (lone fr cs w) (lone fr' cs w') ∧ fr'.leaving P w' e ∧ fr'.fn = fr.fn

def TaskOk (T : Tab) : Task → St → Out → St → Prop
  | .code c fr, s, .code e fr', s' => WalkOk T.P (fun k => .code c :: k) fr s e fr' s'
  | .scope cur body fr, s, .code e fr', s' => WalkOk T.P (fun k => .code cur :: .inScope body :: k) fr s e fr' s'
  | .loop body fr, s, .code e fr', s' => WalkOk T.P (fun k => .code body :: .inLoop body :: k) fr s e fr' s'
  | .call f args, s, .res r, s' => CallOk T.P f args s r s'
  | .callD f args u, s, .resD r u', s' => CallDOk T.P f args u s r u' s'
  | .leave fn tmps ds u, s, .res r, s' => LeaveOk T.P fn tmps ds u s r s'
  | _, _, _, _ => False

def SummOk (T : Tab) (summ : FuncId → Option (List Value → St → Option (Res × St))) : Prop :=
  ∀ f g args s r s', summ f = some g → g args s = some (r, s') → CallOk T.P f args s r s' ∧ ∃ fn, T.fn.get f = some fn ∧ fn.body.isSome = true

section
variable {T : Tab} {summ : FuncId → Option (List Value → St → Option (Res × St))} {rec : Task → St → Option (Out × St)}

theorem callA_sound (hs : SummOk T summ) (hrec : ∀ t s o s', rec t s = some (o, s') → TaskOk T t s o s') {f : FuncId} {args : List Value} {s s' : St} {r : Res}
    (h : callA summ rec f args s = some (r, s')) : CallOk T.P f args s r s' := by
  unfold callA at h
  split at h
  · rename_i g hg
    exact (hs _ _ _ _ _ _ hg h).1
  · split at h
    · rename_i r' s'' hr
      simp only [Option.some.injEq, Prod.mk.injEq] at h
      obtain ⟨rfl, rfl⟩ := h
      exact hrec _ _ _ _ hr
    · cases h

/-- direct work on the heap -/
theorem run_getObj1 {w : World} {P : Program} {r : Nat} {o : Obj} (h : w.heap[r]? = some o) (hc : isCells o = false) : (getObj r).run P w = .ok o w := by
  show (Sem.getObj r .pure).run P w = _
  rw [run_getObj' h hc]; rfl
theorem run_setObj1 {w : World} {P : Program} {r : Nat} {x o : Obj} (h : w.heap[r]? = some x) (hc : isCells x = false) : (setObj r o).run P w = .ok () { w with heap := w.heap.setIfInBounds r o } := by
  show (Sem.setObj r o (.pure ())).run P w = _
  rw [run_setObj' h hc]; rfl

theorem SRel.loop {ρ : Rho} {s : St} {w : World} (hs : SRel ρ s w) {l : Nat} {r : Loop} (h : s.heap.get l = some (.rw (.loop r))) {b : BI} (hb : ρ l = some b) :
    ∃ t' d d', w.heap[b.blk]? = some (.loop { r with tmps := ⟨t'⟩, defers := d' }) ∧ VRelL ρ r.tmps.toList t' ∧ ρ r.defers = some d ∧ d' = d.blk ∧ b.base = 0 := by
  obtain ⟨b', o', h1, h2, h3⟩ := hs.heap.rw _ _ h
  rw [hb] at h1; cases h1
  cases h3 with
  | loop ht hd h0 => exact ⟨_, _, _, h2, ht, hd, rfl, h0⟩

/-- a loop's record is changed -/
theorem SRel.setLoop {ρ : Rho} {s : St} {w : World} (hs : SRel ρ s w) {l : Nat} {x : Obj} {r' : Loop} (h : s.heap.get l = some (.rw x)) {b : BI} (hb : ρ l = some b) (h0 : b.base = 0)
    {t' : List Value} {d : BI} (ht : VRelL ρ r'.tmps.toList t') (hd : ρ r'.defers = some d) :
    Post ρ s w ρ { s with heap := s.heap.put l (.rw (.loop r')) } { w with heap := w.heap.setIfInBounds b.blk (.loop { r' with tmps := ⟨t'⟩, defers := d.blk }) } := by
  refine Post.set hs h hb ?_
  obtain ⟨st, pd, fn, ⟨tm⟩, ps, as, bd, df⟩ := r'
  exact .loop ht hd h0

/-! ## a round of a range over a function -/

theorem ofList_get {α : Type} : ∀ (l : List α) (i : Nat) (t : Tr α) (j : Nat), (Tr.ofList l i t).get j = if i ≤ j ∧ j < i + l.length then l[j - i]? else t.get j
  | [], i, t, j => by
    simp only [Tr.ofList, List.length_nil, Nat.add_zero]
    rw [if_neg (by omega)]
  | x :: l, i, t, j => by
    simp only [Tr.ofList]
    rw [ofList_get l (i + 1), Tr.get_put]
    by_cases h1 : i + 1 ≤ j ∧ j < i + 1 + l.length
    · rw [if_pos h1, if_pos (by simp only [List.length_cons]; omega)]
      have : j - i = (j - (i + 1)) + 1 := by omega
      rw [this, List.getElem?_cons_succ]
    · rw [if_neg h1]
      by_cases h2 : j = i
      · subst h2
        rw [if_pos rfl, if_pos (by simp only [List.length_cons]; omega)]
        simp
      · rw [if_neg h2, if_neg (by simp only [List.length_cons]; omega)]

theorem vget_rel {ρ : Rho} {l l' : List Value} (h : VRelL ρ l l') (j : Nat) : VRel ρ (match l[j]? with | some v => v | none => .tuple #[]) ((⟨l'⟩ : Array Value).getD j undef) := by
  rw [Array.getD_eq_getD_getElem?]
  simp only [List.getElem?_toArray]
  cases hj : l[j]? with
  | none =>
    have h1 : l'[j]? = none := by
      rw [List.getElem?_eq_none_iff] at hj ⊢
      rw [← h.length]; exact hj
    rw [h1]; exact undef_rel
  | some v =>
    obtain ⟨v', h1, h2⟩ := h.nth hj
    rw [h1]; exact h2

theorem layTmps_rel {ρ : Rho} : ∀ (ps : List Tmp) (args args' : List Value) (t : Tr Value) (A : Array Value), VRelL ρ args args' → (∀ p ∈ ps, p < A.size) →
    (∀ j, VRel ρ (match t.get j with | some v => v | none => .tuple #[]) (A.getD j undef)) →
    ∀ j, VRel ρ (match (layTmps t ps args).get j with | some v => v | none => .tuple #[]) (((ps.zip args').foldl (fun (tmps : Array Value) (x : Tmp × Value) => tmps.setIfInBounds x.1 x.2) A).getD j undef)
  | [], args, args', t, A, ha, hp, h, j => by simpa [layTmps] using h j
  | p :: ps, [], args', t, A, ha, hp, h, j => by cases ha; simpa [layTmps] using h j
  | p :: ps, v :: args, args', t, A, ha, hp, h, j => by
    obtain ⟨v', r, rfl, hv, hr⟩ := ha.cons'
    simp only [layTmps, List.zip_cons_cons, List.foldl_cons]
    refine layTmps_rel ps args r (t.put p v) (A.setIfInBounds p v') hr (fun q hq => by simpa using hp q (by simp [hq])) (fun i => ?_) j
    rw [Tr.get_put]
    by_cases hi : i = p
    · subst hi
      rw [if_pos rfl, Array.getD_eq_getD_getElem?, Array.getElem?_setIfInBounds_self_of_lt (hp i (by simp))]
      exact hv
    · rw [if_neg hi, Array.getD_eq_getD_getElem?, Array.getElem?_setIfInBounds_ne (fun e => hi e.symm), ← Array.getD_eq_getD_getElem?]
      exact h i

theorem layTmps_size : ∀ (l : List (Tmp × Value)) (A : Array Value), (l.foldl (fun (tmps : Array Value) (x : Tmp × Value) => tmps.setIfInBounds x.1 x.2) A).size = A.size
  | [], A => rfl
  | x :: l, A => by simp only [List.foldl_cons]; rw [layTmps_size l]; simp

/-- what is asked of a call of yield -/
def RoundOk (P : Program) (l : Nat) (r : Loop) (args : List Value) (s : St) (res : Res) (s' : St) : Prop :=
  ∀ (ρ : Rho) (w : World) (b : BI) (t' args' : List Value) (c : Frame) (cs : List Frame), SRel ρ s w → ρ l = some b → VRelL ρ r.tmps.toList t' → VRelL ρ args args' →
    ∃ ρ' w', Post ρ s w ρ' s' w' ∧
      match res with
      | .ret v => ∃ v', VRel ρ' v v' ∧ Steps P (lone (Frame.round b.blk r.fn ((r.params.zip ⟨args'⟩).foldl (fun tmps (t, a) => tmps.setIfInBounds t a) ⟨t'⟩) r.assign r.body .normal) (c :: cs) w) (lone (c.finish v') cs w')
      | .panic ch => ∃ ch', ChRel ρ' ch ch' ∧ Steps P (lone (Frame.round b.blk r.fn ((r.params.zip ⟨args'⟩).foldl (fun tmps (t, a) => tmps.setIfInBounds t a) ⟨t'⟩) r.assign r.body .normal) (c :: cs) w) (lone (c.raise ch') cs w')

theorem zip_eq (ps : Array Tmp) (args : List Value) (A : Array Value) : (ps.zip ⟨args⟩).foldl (fun tmps (t, a) => tmps.setIfInBounds t a) A =
    (ps.toList.zip args).foldl (fun (tmps : Array Value) (x : Tmp × Value) => tmps.setIfInBounds x.1 x.2) A := by
  obtain ⟨ps⟩ := ps
  simp

theorem beginRound_run {P : Program} {w : World} {k : Nat} {r : Loop} (h : w.heap[k]? = some (.loop r)) (hst : r.state = .ready) :
    (Instr.beginRound k).run P w = .ok () { w with heap := w.heap.setIfInBounds k (.loop { r with state := .busy }) } := by
  simp only [Instr.beginRound, Instr.getLoop, bind_eq, pure_eq, Sem.bind_assoc']
  rw [run_bind_ok (run_getObj1 h rfl)]
  simp only [Sem.bind]
  rw [run_bind_ok (run_setObj1 h rfl)]
  simp only [hst]
  rfl
theorem endRound_run {P : Program} {w : World} {k : Nat} {r : Loop} (h : w.heap[k]? = some (.loop r)) (jump : Option Code) :
    (Instr.endRound k jump).run P w = .ok (.bool jump.isNone) { w with heap := w.heap.setIfInBounds k (.loop { r with state := if jump.isNone then .ready else .done, pending := jump }) } := by
  simp only [Instr.endRound, Instr.getLoop, bind_eq, pure_eq, Sem.bind_assoc']
  rw [run_bind_ok (run_getObj1 h rfl)]
  simp only [Sem.bind]
  rw [run_bind_ok (run_setObj1 h rfl)]
  rfl

theorem roundA_sound (hT : TabOk T) (hrec : ∀ t s o s', rec t s = some (o, s') → TaskOk T t s o s') {l : Nat} {r : Loop} {args : List Value} {s s' : St} {res : Res}
    (h : roundA T rec l r args s = some (res, s')) : RoundOk T.P l r args s res s' := by
  unfold roundA at h
  split at h
  case h_2 => cases h
  rename_i hst hok
  simp only [Bool.and_eq_true] at hok
  obtain ⟨hps, hfn⟩ := hok
  intro ρ w b t' args' c cs hs hb ht ha
  obtain ⟨fn, hfn⟩ := Option.isSome_iff_exists.1 hfn
  have hfn := hT.fn _ _ hfn
  rw [zip_eq]
  generalize hA : (r.params.toList.zip args').foldl (fun (tmps : Array Value) (x : Tmp × Value) => tmps.setIfInBounds x.1 x.2) ⟨t'⟩ = A at *
  simp only at h
  split at h
  case h_2 => cases h
  rename_i fr1 s1 h1
  have w1 := hrec _ _ _ _ h1
  simp only [TaskOk] at w1
  let bf : Frame := { (default : Frame) with fn := r.fn, kind := .normal, roundOf := some b.blk }
  have hb0 : Frame.round b.blk r.fn A r.assign r.body .normal = bf.atR { tmps := A, defers := [] } (.code r.assign :: [.beginRound, .code r.body]) := by
    simp [Frame.round, Frame.atR, bf]
  rw [hb0]
  have hsz : t'.length = r.tmps.size := by rw [← ht.length]; simp
  have hfr : FrRel ρ { fn := r.fn, tmps := layTmps (Tr.ofList r.tmps.toList 0 .nil) r.params.toList args, n := r.tmps.size, defers := [], up := none, round := some l } bf { tmps := A, defers := [] } (.plain (c :: cs)) .run := by
    refine ⟨rfl, ?_, fun t => ?_, .nil, .none, .some hb, .inl rfl⟩
    · show A.size = r.tmps.size
      rw [← hA, layTmps_size]; exact hsz
    · show VRel ρ (match (layTmps (Tr.ofList r.tmps.toList 0 .nil) r.params.toList args).get t with | some v => v | none => .tuple #[]) (A.getD t undef)
      rw [← hA]
      refine layTmps_rel _ _ _ _ _ ha (fun p hp => ?_) (fun j => ?_) t
      · have := List.all_eq_true.1 hps p hp
        have := Nat.le_of_ble_eq_true this
        show p + 1 ≤ t'.length
        rw [hsz]; exact this
      · rw [ofList_get]
        have := vget_rel ht j
        by_cases hj : 0 ≤ j ∧ j < 0 + r.tmps.toList.length
        · rw [if_pos hj]; simpa using this
        · rw [if_neg hj]
          have h2 : r.tmps.toList[j]? = none := by rw [List.getElem?_eq_none_iff]; omega
          rw [h2] at this
          exact this
  obtain ⟨ρ1, wd1, a1, m1, hp1, hf1, har1⟩ := w1 ρ w bf _ _ _ [.beginRound, .code r.body] hs hfr
  have hs1 := hp1.rel
  have hb1 : ρ1 l = some b := hp1.le hs _ _ hb
  split at h
  case h_2 => cases h
  rename_i r1 hl1
  split at h
  case h_2 => cases h
  rename_i hst1
  obtain ⟨t1, d1, d1', hw1, ht1, hd1, rfl, h0⟩ := hs1.loop hl1 hb1
  have hbr := beginRound_run (P := T.P) hw1 hst1
  have hp2 := hs1.setLoop (r' := { r1 with state := .busy }) hl1 hb1 h0 ht1 hd1
  split at h
  case h_2 => cases h
  rename_i e fr2 s3 h2
  have w2 := hrec _ _ _ _ h2
  simp only [TaskOk] at w2
  obtain ⟨ρ3, wd3, a3, m3, hp3, hf3, har3⟩ := w2 _ _ bf a1 _ m1 [] hp2.rel hf1
  have hstep : Steps T.P (lone (bf.atR { tmps := A, defers := [] } (.code r.assign :: [.beginRound, .code r.body])) (c :: cs) w) (lone (bf.atR a1 (.code r.body :: [])) (c :: cs) { wd1 with heap := wd1.heap.setIfInBounds b.blk (.loop { r1 with state := .busy, tmps := ⟨t1⟩, defers := d1.blk }) }) :=
    Steps.trans har1 (.one (stepR_beginRound rfl hbr))
  have har3 := Arr.of_steps hstep har3
  have hpost := (hp1.trans hp2).trans hp3
  have hs3 := hp3.rel
  have hb3 : ρ3 l = some b := hp3.le hp2.rel _ _ hb1
  split at h
  case h_2 => cases h
  rename_i r3 hdf hl3
  obtain ⟨t3, d3, d3', hw3, ht3, hd3, rfl, _⟩ := hs3.loop hl3 hb3
  have fin : ∀ (st : LoopState) (pd : Option Code), Post ρ s w ρ3 { s3 with heap := s3.heap.put l (.rw (.loop { r3 with state := st, pending := pd })) } { wd3 with heap := wd3.heap.setIfInBounds b.blk (.loop { r3 with state := st, pending := pd, tmps := ⟨t3⟩, defers := d3.blk }) } := fun st pd =>
    hpost.trans (hs3.setLoop (r' := { r3 with state := st, pending := pd }) hl3 hb3 h0 ht3 hd3)
  cases e with
  | normal =>
    simp only [Option.some.injEq, Prod.mk.injEq] at h
    obtain ⟨rfl, rfl⟩ := h
    exact ⟨ρ3, _, fin .ready none, .bool true, .atom rfl, Steps.trans har3 (.one (stepR_round_end rfl rfl (endRound_run hw3 none)))⟩
  | ret =>
    simp only [Option.some.injEq, Prod.mk.injEq] at h
    obtain ⟨rfl, rfl⟩ := h
    obtain ⟨k₁, har3⟩ := har3
    exact ⟨ρ3, _, fin .done (some .ret), .bool false, .atom rfl, Steps.trans har3 (.one (stepR_round_ret rfl rfl (endRound_run hw3 (some .ret))))⟩
  | exit id =>
    simp only [Option.some.injEq, Prod.mk.injEq] at h
    obtain ⟨rfl, rfl⟩ := h
    obtain ⟨k₁, hk, har3⟩ := har3
    exact ⟨ρ3, _, fin .done (some (.exit id)), .bool false, .atom rfl, Steps.trans har3 (.one (stepR_round_exit rfl rfl hk (endRound_run hw3 (some (.exit id)))))⟩
  | goto t =>
    simp only [Option.some.injEq, Prod.mk.injEq] at h
    obtain ⟨rfl, rfl⟩ := h
    obtain ⟨k₁, hk, har3⟩ := har3
    exact ⟨ρ3, _, fin .done (some (.goto t)), .bool false, .atom rfl, Steps.trans har3 (.one (stepR_round_goto rfl rfl hk (endRound_run hw3 (some (.goto t)))))⟩
  | panic ch =>
    simp only [Option.some.injEq, Prod.mk.injEq] at h
    obtain ⟨rfl, rfl⟩ := h
    obtain ⟨k₁, ch', hch, har3⟩ := har3
    refine ⟨ρ3, wd3, hpost, ch', hch, Steps.trans har3 (.one ?_)⟩
    have hd0 : a3.defers = [] := by
      have := hf3.defers
      rw [hdf] at this
      revert this
      generalize a3.defers = x
      intro this
      cases this; rfl
    exact step_leave_panicked ⟨rfl, hd0, fn, by simpa [Frame.atR, bf] using hfn⟩
end
end

section
section
variable {P : Program} {b : Frame} {a : Act} {k : List Item} {cs : List Frame} {w w' : World} {ops : Array Oper} {i : Nat} {rest : List Nat} {o : Oper}

theorem fin_atR (ho : ops[i]? = some o) (v : Value) : (b.atR a (.inRegion ops (i :: rest) :: k)).finish v = b.atR (a.put o.dst v) (.inRegion ops rest :: k) := by
  rw [Frame.finish_atR, ho]; rfl

theorem stepR_value (ho : ops[i]? = some o) (hw : Region.wanted o (yielded ops a.tmps) = true) {v : Value} (hr : (o.semAt b.roundOf a.eval).run P w = .ok (.value v) w') :
    step P (lone (b.atR a (.inRegion ops (i :: rest) :: k)) cs w) = .next (lone (b.atR (a.put o.dst v) (.inRegion ops rest :: k)) cs w') :=
  step_lone_go (by rw [stepGR_op ho hw, ← fin_atR ho]; simp [stepG.apply, hr])
theorem stepR_skipN (ho : ops[i]? = some o) (hw : Region.wanted o (yielded ops a.tmps) = true) (hr : (o.semAt b.roundOf a.eval).run P w = .ok .skip w') :
    step P (lone (b.atR a (.inRegion ops (i :: rest) :: k)) cs w) = .next (lone (b.atR (a.put o.dst undef) (.inRegion ops rest :: k)) cs w') :=
  step_lone_go (by rw [stepGR_op ho hw, ← fin_atR ho]; simp [stepG.apply, hr])
theorem stepR_deferN (ho : ops[i]? = some o) (hw : Region.wanted o (yielded ops a.tmps) = true) {d : Deferred} (hr : (o.semAt b.roundOf a.eval).run P w = .ok (.defer d) w') :
    step P (lone (b.atR a (.inRegion ops (i :: rest) :: k)) cs w) = .next (lone (b.atR (({ a with defers := d :: a.defers } : Act).put o.dst undef) (.inRegion ops rest :: k)) cs w') :=
  step_lone_go (by
    have e : ({ b.atR a (.inRegion ops (i :: rest) :: k) with defers := d :: a.defers } : Frame).finish undef = b.atR (({ a with defers := d :: a.defers } : Act).put o.dst undef) (.inRegion ops rest :: k) :=
      fin_atR (a := { a with defers := d :: a.defers }) ho undef
    rw [stepGR_op ho hw]
    simp only [stepG.apply, Sem.runT_eq, hr, GStep.bare_after]
    exact congrArg (fun fr => GStep.go { frame := fr, callers := cs, status := .running, dying := none } w') e)
theorem stepR_enterN (ho : ops[i]? = some o) (hw : Region.wanted o (yielded ops a.tmps) = true) {f : FuncId} {args : Array Value} (hr : (o.semAt b.roundOf a.eval).run P w = .ok (.enter f args) w') :
    step P (lone (b.atR a (.inRegion ops (i :: rest) :: k)) cs w) = .next (lone (Frame.enter P f args .normal) (b.atR a (.inRegion ops (i :: rest) :: k) :: cs) w') :=
  step_lone_go (by rw [stepGR_op ho hw]; simp [stepG.apply, hr, Frame.atR])
theorem stepR_roundN (ho : ops[i]? = some o) (hw : Region.wanted o (yielded ops a.tmps) = true) {l : Nat} {f : FuncId} {tmps : Array Value} {as bd : Code} (hr : (o.semAt b.roundOf a.eval).run P w = .ok (.round l f tmps as bd) w') :
    step P (lone (b.atR a (.inRegion ops (i :: rest) :: k)) cs w) = .next (lone (Frame.round l f tmps as bd .normal) (b.atR a (.inRegion ops (i :: rest) :: k) :: cs) w') :=
  step_lone_go (by rw [stepGR_op ho hw]; simp [stepG.apply, hr, Frame.atR])
theorem stepR_panicN (ho : ops[i]? = some o) (hw : Region.wanted o (yielded ops a.tmps) = true) {v : Value} (hr : (o.semAt b.roundOf a.eval).run P w = .halt (.panic v) w') :
    step P (lone (b.atR a (.inRegion ops (i :: rest) :: k)) cs w) = .next (lone { b.atR a (.inRegion ops (i :: rest) :: k) with mode := .panicking [{ v, recovered := false }] } cs w') :=
  step_lone_go (by rw [stepGR_op ho hw, ← Frame.raise_atR]; simp [stepG.apply, hr])
theorem stepR_recoverSome (ho : ops[i]? = some o) (hw : Region.wanted o (yielded ops a.tmps) = true) (hk : b.kind = .deferred) (hro : b.roundOf = none) {v : Value} {cs' : List Frame} (hc : recoverD cs = some (v, cs'))
    (hr : (o.semAt b.roundOf a.eval).run P w = .ok .recover w') :
    step P (lone (b.atR a (.inRegion ops (i :: rest) :: k)) cs w) = .next (lone (b.atR (a.put o.dst v) (.inRegion ops rest :: k)) cs' w') :=
  step_lone_go (by
    have hk' : (b.atR a (.inRegion ops (i :: rest) :: k)).kind = .deferred := hk
    have htr := tryRecover_deferred hk' cs
    rw [stepGR_op ho hw, ← fin_atR ho]
    simp only [Frame.atR, hro] at htr hr ⊢
    simp [stepG.apply, hr, htr, hc])
theorem stepR_recoverNone (ho : ops[i]? = some o) (hw : Region.wanted o (yielded ops a.tmps) = true) (hk : b.kind = .deferred) (hro : b.roundOf = none) (hc : recoverD cs = none)
    (hr : (o.semAt b.roundOf a.eval).run P w = .ok .recover w') :
    step P (lone (b.atR a (.inRegion ops (i :: rest) :: k)) cs w) = .next (lone (b.atR (a.put o.dst .nilIface) (.inRegion ops rest :: k)) cs w') :=
  step_lone_go (by
    have hk' : (b.atR a (.inRegion ops (i :: rest) :: k)).kind = .deferred := hk
    have htr := tryRecover_deferred hk' cs
    rw [stepGR_op ho hw, ← fin_atR ho]
    simp only [Frame.atR, hro] at htr hr ⊢
    simp [stepG.apply, hr, htr, hc])
end

section
variable {T : Tab} {summ : FuncId → Option (List Value → St → Option (Res × St))} {rec : Task → St → Option (Out × St)}

theorem defer_nx {η : Operand → Value} {o : Oper} {c : Call} {s s' : St} {nx : Nx} (ho : o.op = .defer c) (h : (aOp T η o).run s = some (nx, s')) : ∃ d, nx = .defer d := by
  unfold aOp at h
  simp only [ho] at h
  split at h
  · split at h
    · simp only [AS.run, Option.some.injEq, Prod.mk.injEq] at h
      exact ⟨_, h.1.symm⟩
    · simp [AS.run] at h
  · simp [AS.run] at h

theorem sem_of_nx {η η' : Operand → Value} {o : Oper} {s s' : St} {nx : Nx} {ro : Option Nat} (h : (aOp T η o).run s = some (nx, s')) (hn : ro = none ∨ ∀ d, nx ≠ .defer d) : o.semAt ro η' = execOp η' o := by
  rcases hn with rfl | hn
  · rfl
  · refine Oper.semAt_eq _ _ _ fun c hc => ?_
    obtain ⟨d, hd⟩ := defer_nx hc h
    exact hn d hd

theorem panicOf_run {ρ : Rho} {P : Program} {η η' : Operand → Value} {o : Oper} {v : Value} (h : panicOf η o = some v) (hev : Ev ρ η η' o.op.operands.toList) (ro : Option Nat) (w : World) :
    ∃ v', VRel ρ v v' ∧ (o.semAt ro η').run P w = .halt (.panic v') w := by
  unfold panicOf at h
  split at h
  · rename_i x hop
    have hx := hev x (by simp [hop, Op.operands])
    split at h
    · rename_i t u hu
      simp only [Option.some.injEq] at h
      subst h
      rw [hu] at hx
      obtain ⟨u', hu', hr⟩ := hx.toIface
      refine ⟨.iface t u', .iface hr, ?_⟩
      rw [Oper.semAt_eq _ _ _ (by intro c hc; rw [hop] at hc; cases hc)]
      simp only [execOp, hop, Instr.panic, hu']
      rfl
    · cases h
  · rename_i c hop
    split at h
    · rename_i x hcal hargs
      have hmem : x ∈ c.args := Array.mem_toList_iff.1 (by rw [hargs]; simp)
      have hx := hev x (by simp [hop, Op.operands, Call.operands, hcal, hmem])
      split at h
      · rename_i t u hu
        simp only [Option.some.injEq] at h
        subst h
        rw [hu] at hx
        obtain ⟨u', hu', hr⟩ := hx.toIface
        refine ⟨.iface t u', .iface hr, ?_⟩
        rw [Oper.semAt_eq _ _ _ (by intro c hc; rw [hop] at hc; cases hc)]
        have e : c.args = ⟨[x]⟩ := Array.ext' (by simpa using hargs)
        simp only [execOp, hop, resolve, hcal, e]
        simp only [bind_eq, pure_eq, Sem.bind, invoke, builtin]
        simp [hu', Instr.panic, Sem.bind, goPanic]
      · cases h
    · cases h
  · cases h

/-- one operation -/
def DidOk (P : Program) (o : Oper) (fr : Fr) (s : St) (did : Did) : Prop :=
  ∀ (ρ : Rho) (w : World) (b : Frame) (a : Act) (X : Cx) (m : FrameMode) (ops : Array Oper) (i : Nat) (rest : List Nat) (k : List Item), SRel ρ s w → FrRel ρ fr b a X m → ops[i]? = some o → Region.wanted o (yielded ops a.tmps) = true →
    match did with
    | .value v fr' s' => ∃ ρ' w' a' m' v', Post ρ s w ρ' s' w' ∧ FrRel ρ' fr' b a' X m' ∧ VRel ρ' v v' ∧ a'.tmps = a.tmps ∧
        Steps P (lone (b.atR a (.inRegion ops (i :: rest) :: k)) (X.at m) w) (lone (b.atR (a'.put o.dst v') (.inRegion ops rest :: k)) (X.at m') w')
    | .out ch fr' s' => ∃ ρ' w' ch', fr' = fr ∧ Post ρ s w ρ' s' w' ∧ ChRel ρ' ch ch' ∧
        Steps P (lone (b.atR a (.inRegion ops (i :: rest) :: k)) (X.at m) w) (lone { b.atR a (.inRegion ops (i :: rest) :: k) with mode := .panicking ch' } (X.at m) w')

theorem doOp_sound (hT : TabOk T) (hs : SummOk T summ) (hrec : ∀ t s o s', rec t s = some (o, s') → TaskOk T t s o s') {o : Oper} {fr : Fr} {s : St} {did : Did} (hok : allOk o.op.operands.toList = true)
    (h : doOp T summ rec o fr s = some did) : DidOk T.P o fr s did := by
  intro ρ w b a X m ops i rest k hsr hfr ho hw
  have hev := hfr.ev hok
  unfold doOp at h
  split at h
  · rename_i v hp
    simp only [Option.some.injEq] at h
    subst h
    obtain ⟨v', hv, hr⟩ := panicOf_run (P := T.P) hp hev b.roundOf w
    exact ⟨ρ, w, [{ v := v', recovered := false }], rfl, Post.refl hsr, .cons ⟨hv, rfl, rfl⟩ .nil, .one (stepR_panicN ho hw hr)⟩
  · rename_i hnp
    split at h
    case h_2 => cases h
    rename_i nx s1 hrun
    obtain ⟨ρ1, n, w1, hm, hn, hp⟩ := (op_rel hT hev).run_sound hsr hrun
    have hle := hp.le hsr
    have hs1 := hp.rel
    have hf1 := hfr.mono hle
    have hro : ∀ ro, (∀ d, nx ≠ .defer d) → o.semAt ro a.eval = execOp a.eval o := fun ro hd => sem_of_nx hrun (.inr hd)
    cases hn with
    | value hv =>
      simp only [Option.some.injEq] at h
      subst h
      exact ⟨ρ1, w1, a, m, _, hp, hf1, hv, rfl, .one (stepR_value ho hw (by rw [hro _ (by intro d hd; cases hd)]; exact hm))⟩
    | skip =>
      simp only [Option.some.injEq] at h
      subst h
      exact ⟨ρ1, w1, a, m, undef, hp, hf1, undef_rel, rfl, .one (stepR_skipN ho hw (by rw [hro _ (by intro d hd; cases hd)]; exact hm))⟩
    | enter ha =>
      have hst := stepR_enterN (P := T.P) (b := b) (a := a) (k := k) (cs := X.at m) (rest := rest) ho hw (by rw [hro _ (by intro d hd; cases hd)]; exact hm)
      simp only at h
      split at h
      · rename_i v s2 hc
        simp only [Option.some.injEq] at h
        subst h
        obtain ⟨ρ2, w2, fr2, e, hp2, hr2, hs2, hl2, _⟩ := callA_sound hs hrec hc ρ1 w1 _ (b.atR a (.inRegion ops (i :: rest) :: k) :: X.at m) hs1 ha
        cases e with
        | returned v' =>
          refine ⟨ρ2, w2, a, m, v', hp.trans hp2, hf1.mono (hp2.le hs1), hr2, rfl, .head hst (hs2.trans (.one ?_))⟩
          rw [← fin_atR ho]; exact step_leave_returned hl2
        | panicked c => exact hr2.elim
        | outgrown => exact hr2.elim
      · rename_i ch s2 hc
        simp only [Option.some.injEq] at h
        subst h
        obtain ⟨ρ2, w2, fr2, e, hp2, hr2, hs2, hl2, _⟩ := callA_sound hs hrec hc ρ1 w1 _ (b.atR a (.inRegion ops (i :: rest) :: k) :: X.at m) hs1 ha
        cases e with
        | returned v' => exact hr2.elim
        | panicked c =>
          refine ⟨ρ2, w2, c, rfl, hp.trans hp2, hr2, .head hst (hs2.trans (.one ?_))⟩
          rw [← Frame.raise_atR]; exact step_leave_panicked hl2
        | outgrown => exact hr2.elim
      · cases h
    | @yield l bi r t' args args' hb ht ha hl =>
      have hst := stepR_roundN (P := T.P) (b := b) (a := a) (k := k) (cs := X.at m) (rest := rest) ho hw (by rw [hro _ (by intro d hd; cases hd)]; exact hm)
      simp only at h
      split at h
      · rename_i v s2 hc
        simp only [Option.some.injEq] at h
        subst h
        obtain ⟨ρ2, w2, hp2, v', hv, hs2⟩ := roundA_sound hT hrec hc ρ1 w1 bi t' args' (b.atR a (.inRegion ops (i :: rest) :: k)) (X.at m) hs1 hb ht ha
        refine ⟨ρ2, w2, a, m, v', hp.trans hp2, hf1.mono (hp2.le hs1), hv, rfl, .head hst ?_⟩
        rw [← fin_atR ho]; exact hs2
      · rename_i ch s2 hc
        simp only [Option.some.injEq] at h
        subst h
        obtain ⟨ρ2, w2, hp2, ch', hch, hs2⟩ := roundA_sound hT hrec hc ρ1 w1 bi t' args' (b.atR a (.inRegion ops (i :: rest) :: k)) (X.at m) hs1 hb ht ha
        refine ⟨ρ2, w2, ch', rfl, hp.trans hp2, hch, .head hst ?_⟩
        rw [← Frame.raise_atR]; exact hs2
      · cases h
    | defer hc ha =>
      simp only at h
      split at h
      case h_2 => cases h
      rename_i hrn
      simp only [Option.some.injEq] at h
      subst h
      have hbn : b.roundOf = none := by
        have := hfr.round
        rw [hrn] at this
        cases hb : b.roundOf with
        | none => rfl
        | some l => rw [hb] at this; cases this
      refine ⟨ρ1, w1, { a with defers := _ :: a.defers }, m, undef, hp, ⟨hf1.fn, hf1.size, hf1.tmps, .cons (.fn hc ha) hf1.defers, hf1.up, hf1.round, hf1.one⟩, undef_rel, rfl, .one (stepR_deferN ho hw (by rw [hbn]; exact hm))⟩
    | recover =>
      have hm' := hro b.roundOf (by intro d hd; cases hd)
      simp only at h
      have hup := hf1.up
      have hone := hf1.one
      have hrr := hf1.round
      generalize hu : fr.up = u at h hup hone
      generalize hkk : b.kind = kk at hup
      cases hup with
      | none => cases h
      | @some u m c cs hur hmr =>
        have hrn : fr.round = none := by
          rcases hone with h1 | h1
          · cases h1
          · exact h1
        have hbn : b.roundOf = none := by
          rw [hrn] at hrr
          cases hb : b.roundOf with
          | none => rfl
          | some l => rw [hb] at hrr; cases hrr
        split at h
        · rename_i v older he
          simp only [Option.some.injEq] at h he
          subst h
          subst he
          cases hur with
          | panic hch =>
          cases hch with
          | @cons e e' l l' he ht =>
          obtain ⟨v', r', g'⟩ := e'
          have h1 := he.rcv
          have h2 := he.ex
          simp only at h1 h2
          subst h1; subst h2
          refine ⟨ρ1, w1, a, .panicking ({ v := v', recovered := true } :: l'), v', hp, ⟨hf1.fn, hf1.size, hf1.tmps, hf1.defers, ?_, hf1.round, .inr hrn⟩, he.v, rfl, .one (stepR_recoverSome ho hw hkk hbn ?_ (by rw [hm']; exact hm))⟩
          · rw [hkk]; exact .some (.panic (.cons ⟨he.v, rfl, rfl⟩ ht)) (by simp)
          · rfl
        · rename_i u' hne he
          simp only [Option.some.injEq] at h he
          subst h
          refine ⟨ρ1, w1, a, m, .nilIface, hp, hf1, .atom rfl, rfl, .one (stepR_recoverNone ho hw hkk hbn ?_ (by rw [hm']; exact hm))⟩
          subst he
          simp only [Cx.at, recoverD]
          cases hur with
          | run => rfl
          | ret => rfl
          | panic hch =>
            cases hch with
            | nil => rfl
            | @cons e e' l l' he ht =>
              obtain ⟨v, r, g⟩ := e
              obtain ⟨v', r', g'⟩ := e'
              have h1 := he.rcv
              have h2 := he.ex
              simp only at h1 h2
              subst h1; subst h2
              cases r' with
              | true => rfl
              | false => cases g' with
                | true => rfl
                | false => exact absurd rfl (hne _ _)
        · cases h
end
end

section
section
variable {T : Tab} {summ : FuncId → Option (List Value → St → Option (Res × St))} {rec : Task → St → Option (Out × St)}

theorem bind_inv {α β : Type} {P : Program} {x : Sem α} {f : α → Sem β} {w w' : World} {c : β} (h : (x.bind f).run P w = .ok c w') : ∃ a w1, x.run P w = .ok a w1 ∧ (f a).run P w1 = .ok c w' := by
  rw [Sem.run_bind'] at h
  cases hx : x.run P w with
  | ok a w1 => rw [hx] at h; exact ⟨a, w1, rfl, h⟩
  | halt e w1 => rw [hx] at h; cases h

theorem loadVar_read (hT : TabOk T) {ρ : Rho} {t : TypeId} {v : Value} {a a' : Addr} {s : St} {w : World} (hs : SRel ρ s w) (ha : AddrRel ρ a a') (h : (aLoad T t (.pointer (some a))).read s = some v) :
    ∃ v', (loadVar t a').run T.P w = .ok v' w ∧ VRel ρ v v' := by
  have hsr := load_rel hT (t := t) (VRel.ptr ha)
  obtain ⟨v', n, hr, hv⟩ := hsr.read_sound hs.heap (fun _ _ h => h) h
  have e : (Instr.loadAt t (.pointer (some a'))).run T.P w = (loadVar t a').run T.P w := rfl
  rw [e] at hr
  refine ⟨v', ?_, hv⟩
  rw [hr]
  congr 1
  unfold loadVar at hr
  simp only [bind_eq] at hr
  obtain ⟨g, w1, h1, h2⟩ := bind_inv hr
  have hg : w1 = w := by
    unfold aLoad at h
    split at h
    · rename_i hagg hsize
      rw [hT.run_agg hagg] at h1; cases h1; rfl
    · rename_i hagg
      rw [hT.run_agg hagg] at h1; cases h1; rfl
    · cases h
  subst hg
  cases g with
  | true =>
    simp only [if_true] at h2
    obtain ⟨z, w2, h3, h4⟩ := bind_inv h2
    have hz : w2 = w1 := by
      unfold aLoad at h
      split at h
      · rename_i hagg hsize
        rw [hT.run_size hsize] at h3; cases h3; rfl
      · rename_i hagg
        rw [hT.run_agg hagg] at h1; cases h1
      · cases h
    subst hz
    obtain ⟨vs, w3, h5, h6⟩ := bind_inv h4
    have := loadCells_world h5
    subst this
    simp only [pure_eq, Sem.run, Result.ok.injEq] at h6
    exact h6.2.symm
  | false =>
    simp only [Bool.false_eq_true, if_false] at h2
    rw [run_load_one] at h2
    obtain ⟨vs, w3, h5, h6⟩ := bind_inv h2
    have := loadCells_world h5
    subst this
    split at h6
    · simp only [Sem.run, Result.ok.injEq] at h6
      exact h6.2.symm
    · cases h6

theorem resultsL {ρ : Rho} (hT : TabOk T) {tmps : Tr Value} {A : Array Value} {s : St} {w : World} (hs : SRel ρ s w) (ht : ∀ t, VRel ρ (match tmps.get t with | some v => v | none => .tuple #[]) (A.getD t undef)) :
    ∀ (l : List ResultVar) (r : List Value), results.go T tmps s l = some r → ∃ r', (l.mapM (m := Sem) fun
      | .tmp t => pure (A.getD t undef)
      | .cell a t => do loadVar t (← asAddr (A.getD a undef))).run T.P w = .ok r' w ∧ VRelL ρ r r' := by
  intro l
  induction l with
  | nil =>
    intro r h
    simp only [results.go, Option.some.injEq] at h
    subst h
    exact ⟨[], rfl, .nil⟩
  | cons x l ih =>
    intro r h
    cases x with
    | tmp t =>
      simp only [results.go] at h
      split at h
      · rename_i r1 h1
        simp only [Option.some.injEq] at h
        subst h
        obtain ⟨r', h2, h3⟩ := ih _ h1
        refine ⟨A.getD t undef :: r', ?_, .cons (ht t) h3⟩
        simp only [List.mapM_cons, bind_eq, pure_eq, Sem.bind]
        simp only [bind_eq, pure_eq] at h2
        rw [run_bind_ok h2]
        rfl
      · cases h
    | cell a t =>
      simp only [results.go] at h
      split at h
      · rename_i p hp
        split at h
        · rename_i v r1 hv h1
          simp only [Option.some.injEq] at h
          subst h
          obtain ⟨r', h2, h3⟩ := ih _ h1
          have hta := ht a
          rw [hp] at hta
          obtain ⟨p', hp', hpa⟩ := hta.toPtr
          obtain ⟨v', h4, h5⟩ := loadVar_read hT hs hpa hv
          refine ⟨v' :: r', ?_, .cons h5 h3⟩
          simp only [List.mapM_cons, bind_eq, pure_eq, hp']
          simp only [bind_eq, pure_eq] at h2
          have e : (asAddr (.pointer (some p'))).run T.P w = .ok p' w := rfl
          have e2 : ((asAddr (.pointer (some p'))).bind fun a => loadVar t a).run T.P w = .ok v' w := by
            rw [run_bind_ok e]; exact h4
          rw [run_bind_ok e2, run_bind_ok h2]
          rfl
        · cases h
      · cases h

theorem results_sound {ρ : Rho} (hT : TabOk T) {fn : Func} {tmps : Tr Value} {A : Array Value} {s : St} {w : World} {v : Value} (hs : SRel ρ s w) (ht : ∀ t, VRel ρ (match tmps.get t with | some v => v | none => .tuple #[]) (A.getD t undef))
    (h : results T fn tmps s = some v) : ∃ v', (Go.results fn A).run T.P w = .ok v' w ∧ VRel ρ v v' := by
  unfold results at h
  have key : ∀ r, results.go T tmps s fn.results.toList = some r → ∃ r', (Go.results fn A).run T.P w = .ok (if hh : (⟨r'⟩ : Array Value).size = 1 then (⟨r'⟩ : Array Value)[0] else .tuple ⟨r'⟩) w ∧ VRelL ρ r r' := by
    intro r hr
    obtain ⟨r', h1, h2⟩ := resultsL hT hs ht _ _ hr
    refine ⟨r', ?_, h2⟩
    unfold Go.results
    rw [Array.mapM_eq_mapM_toList]
    simp only [bind_eq, pure_eq]
    have e : ∀ (x : Sem (List Value)), (List.toArray <$> x) = x.bind fun l => .pure l.toArray := fun x => by
      rw [← bind_pure_comp]; rfl
    simp only [bind_eq, pure_eq] at h1
    rw [e, Sem.bind_assoc']
    exact Eq.trans (run_bind_ok h1) rfl
  split at h
  · rename_i x hr
    simp only [Option.some.injEq] at h
    subst h
    obtain ⟨r', h1, h2⟩ := key _ hr
    obtain ⟨x', rfl, hx⟩ := h2.one
    exact ⟨x', h1, hx⟩
  · rename_i l hne hr
    simp only [Option.some.injEq] at h
    subst h
    obtain ⟨r', h1, h2⟩ := key _ hr
    refine ⟨.tuple ⟨r'⟩, ?_, .tuple h2⟩
    rw [h1, dif_neg]
    intro hsz
    have : l.length = 1 := by rw [h2.length]; exact hsz
    match l, this with
    | [x], _ => exact hne x rfl
  · cases h

theorem runOps_sound (hT : TabOk T) (hs : SummOk T summ) (hrec : ∀ t s o s', rec t s = some (o, s') → TaskOk T t s o s') {ops : Array Oper} :
    ∀ (l : List Oper) (i : Nat) (fr : Fr) (s : St) (e : Ex) (fr' : Fr) (s' : St), ops.toList.drop i = l → runOps T summ rec ops.toList l fr s = some (e, fr', s') →
    ∀ (ρ : Rho) (w : World) (b : Frame) (a : Act) (X : Cx) (m : FrameMode) (k : List Item), SRel ρ s w → FrRel ρ fr b a X m →
    ∃ ρ' w' a' m', Post ρ s w ρ' s' w' ∧ FrRel ρ' fr' b a' X m' ∧ Arr T.P (lone (b.atR a (.inRegion ops (List.range' i l.length) :: k)) (X.at m) w) b k (X.at m') ρ' a' w' e := by
  intro l
  induction l with
  | nil =>
    intro i fr s e fr' s' hl h ρ w b a X m k hsr hfr
    simp only [runOps, Option.some.injEq, Prod.mk.injEq] at h
    obtain ⟨rfl, rfl, rfl⟩ := h
    exact ⟨ρ, w, a, m, Post.refl hsr, hfr, .one stepR_region_end⟩
  | cons o l ih =>
    intro i fr s e fr' s' hl h ρ w b a X m k hsr hfr
    have ho : ops[i]? = some o := by
      have : (ops.toList.drop i)[0]? = some o := by rw [hl]; rfl
      rw [List.getElem?_drop] at this
      simpa using this
    have hl' : ops.toList.drop (i + 1) = l := by
      rw [← List.drop_drop, hl]; rfl
    rw [List.length_cons, List.range'_succ]
    simp only [runOps] at h
    split at h
    case h_2 => cases h
    rename_i hok
    split at h
    · rename_i hw
      have hw := hfr.wanted hw
      split at h
      · rename_i v fr1 s1 hd
        have := doOp_sound hT hs hrec hok hd ρ w b a X m ops i (List.range' (i + 1) l.length) k hsr hfr ho hw
        obtain ⟨ρ1, w1, a1, m1, v', hp1, hf1, hv, _, hst⟩ := this
        split at h
        · rename_i fr2 hput
          obtain ⟨ρ2, w2, a2, m2, hp2, hf2, har⟩ := ih (i + 1) fr2 s1 e fr' s' hl' h ρ1 w1 b _ X m1 k hp1.rel (hf1.put hv hput)
          exact ⟨ρ2, w2, a2, m2, hp1.trans hp2, hf2, Arr.of_steps hst har⟩
        · cases h
      · rename_i ch fr1 s1 hd
        simp only [Option.some.injEq, Prod.mk.injEq] at h
        obtain ⟨rfl, rfl, rfl⟩ := h
        have := doOp_sound hT hs hrec hok hd ρ w b a X m ops i (List.range' (i + 1) l.length) k hsr hfr ho hw
        obtain ⟨ρ1, w1, ch', rfl, hp1, hch, hst⟩ := this
        exact ⟨ρ1, w1, a, m, hp1, hfr.mono (hp1.le hsr), _, ch', hch, hst⟩
      · cases h
    · rename_i hw
      have hw := hfr.wanted hw
      split at h
      · rename_i fr2 hput
        obtain ⟨ρ2, w2, a2, m2, hp2, hf2, har⟩ := ih (i + 1) fr2 s e fr' s' hl' h ρ w b _ X m k hsr (hfr.put undef_rel hput)
        refine ⟨ρ2, w2, a2, m2, hp2, hf2, Arr.of_steps (.one ?_) har⟩
        have := stepR_op_skip (P := T.P) (b := b) (a := a) (k := k) (cs := X.at m) (w := w) (ops := ops) (i := i) (rest := List.range' (i + 1) l.length) (by rw [ho]; simpa using hw)
        rw [ho] at this
        exact this
      · cases h
    · cases h
end
end

end Go.Bel
