/-
  A lighter form of D for the kernel, equal to D; calls told of in parts; one frame step by step; the tables of a program.
  Conditions: none beyond those that the statements bear.
-/
import Derived.Test.YtldlnopinlfpaaaGreatDoorE
set_option maxRecDepth 100000
namespace Go.Bel

section
def Tr.split {α : Type} : List α → List α × List α
  | [] => ([], [])
  | x :: l => match Tr.split l with
    | (a, b) => (x :: b, a)
def Tr.mk {α : Type} : Nat → List α → Tr α
  | 0, _ => .nil
  | _ + 1, [] => .nil
  | f + 1, x :: l => match Tr.split l with
    | (a, b) => .node (some x) (Tr.mk f a) (Tr.mk f b)
end

section
def okParts : List (Nat × Operand) → Bool
  | [] => true
  | (_, x) :: l => match okOperand x with
    | true => okParts l
    | false => false
def okAll : List Operand → Bool
  | [] => true
  | x :: l => match okOperand x with
    | true => okAll l
    | false => false
def okBoth (a b : List Operand) : Bool := match okAll a with
  | true => okAll b
  | false => false
def okOpt : Option Operand → Bool
  | none => true
  | some x => okOperand x
def okTheCall (c : Call) : Bool := match c.callee with
  | .value f => (match okOperand f with
    | true => okAll c.args.toList
    | false => false)
  | .invoke r _ => (match okOperand r with
    | true => okAll c.args.toList
    | false => false)
  | .builtin _ => okAll c.args.toList

def okMove (x : Operand) : Bool := okOperand x
def kMove (x : Operand) (_T : Tab) (η : Operand → Value) (_ty : TypeId) : AS Nx := .ret (.value (η x))
def pMove (_x : Operand) (_η : Operand → Value) : Option Value := none
def okAssign (x : Operand) : Bool := okOperand x
def kAssign (x : Operand) (_T : Tab) (η : Operand → Value) (_ty : TypeId) : AS Nx := .ret (.value (η x))
def pAssign (_x : Operand) (_η : Operand → Value) : Option Value := none
def okPick (c : Operand) (a : Operand) (b : Operand) : Bool := (match okOperand c with
  | true => (match okOperand a with
    | true => okOperand b
    | false => false)
  | false => false)
def kPick (c : Operand) (a : Operand) (b : Operand) (_T : Tab) (η : Operand → Value) (_ty : TypeId) : AS Nx := match η c with
    | .bool true => .ret (.value (η a))
    | .bool false => .ret (.value (η b))
    | _ => .fail
def pPick (_c : Operand) (_a : Operand) (_b : Operand) (_η : Operand → Value) : Option Value := none
def okAlloc (_e : TypeId) : Bool := true
def kAlloc (e : TypeId) (T : Tab) (_η : Operand → Value) (_ty : TypeId) : AS Nx := match T.zero e with
    | some z => vNx (aNew e (lst z))
    | none => .fail
def pAlloc (_e : TypeId) (_η : Operand → Value) : Option Value := none
def okBox (_e : TypeId) (x : Operand) : Bool := okOperand x
def kBox (e : TypeId) (x : Operand) (_T : Tab) (η : Operand → Value) (_ty : TypeId) : AS Nx := match known (η x) with
    | true => vNx (aNew e (lst (η x)))
    | false => .fail
def pBox (_e : TypeId) (_x : Operand) (_η : Operand → Value) : Option Value := none
def okBuild (_t : TypeId) (ps : Array (Nat × Operand)) : Bool := okParts ps.toList
def kBuild (t : TypeId) (ps : Array (Nat × Operand)) (T : Tab) (η : Operand → Value) (_ty : TypeId) : AS Nx := vNx (aBuild T t (lst2 (fun (i, x) => (i, η x)) ps.toList))
def pBuild (_t : TypeId) (_ps : Array (Nat × Operand)) (_η : Operand → Value) : Option Value := none
def okBuildSlice (_t : TypeId) (_n : Nat) (ps : Array (Nat × Operand)) : Bool := okParts ps.toList
def kBuildSlice (t : TypeId) (n : Nat) (ps : Array (Nat × Operand)) (T : Tab) (η : Operand → Value) (_ty : TypeId) : AS Nx := vNx (aBuildSlice T t n (lst2 (fun (i, x) => (i, η x)) ps.toList))
def pBuildSlice (_t : TypeId) (_n : Nat) (_ps : Array (Nat × Operand)) (_η : Operand → Value) : Option Value := none
def okInsert (_t : TypeId) (m : Operand) (k : Operand) (x : Operand) : Bool := (match okOperand m with
  | true => (match okOperand k with
    | true => okOperand x
    | false => false)
  | false => false)
def kInsert (t : TypeId) (m : Operand) (k : Operand) (x : Operand) (T : Tab) (η : Operand → Value) (_ty : TypeId) : AS Nx := uNx (aMapUpdate T t (η m) (η k) (η x))
def pInsert (_t : TypeId) (_m : Operand) (_k : Operand) (_x : Operand) (_η : Operand → Value) : Option Value := none
def okLoad (_t : TypeId) (a : Operand) : Bool := okOperand a
def kLoad (t : TypeId) (a : Operand) (T : Tab) (η : Operand → Value) (_ty : TypeId) : AS Nx := vNx (aLoad T t (η a))
def pLoad (_t : TypeId) (_a : Operand) (_η : Operand → Value) : Option Value := none
def okStore (_t : TypeId) (a : Operand) (x : Operand) : Bool := (match okOperand a with
  | true => okOperand x
  | false => false)
def kStore (t : TypeId) (a : Operand) (x : Operand) (T : Tab) (η : Operand → Value) (_ty : TypeId) : AS Nx := uNx (aStore T t (η a) (η x))
def pStore (_t : TypeId) (_a : Operand) (_x : Operand) (_η : Operand → Value) : Option Value := none
def okReady (_g : Nat) : Bool := true
def kReady (_g : Nat) (_T : Tab) (_η : Operand → Value) (_ty : TypeId) : AS Nx := .fail
def pReady (_g : Nat) (_η : Operand → Value) : Option Value := none
def okWaits (_g : Nat) : Bool := true
def kWaits (_g : Nat) (_T : Tab) (_η : Operand → Value) (_ty : TypeId) : AS Nx := .fail
def pWaits (_g : Nat) (_η : Operand → Value) : Option Value := none
def okNilCheck (x : Operand) : Bool := okOperand x
def kNilCheck (x : Operand) (_T : Tab) (η : Operand → Value) (_ty : TypeId) : AS Nx := match η x with
    | .pointer (some a) => .ret (.value (.pointer (some a)))
    | .func (.func f) a b => .ret (.value (.func (.func f) a b))
    | .iface t v => .ret (.value (.iface t v))
    | .func (.yield l) a b => .ret (.value (.func (.yield l) a b))
    | _ => .fail
def pNilCheck (_x : Operand) (_η : Operand → Value) : Option Value := none
def okBinOp (_op : BinOp) (_t : TypeId) (x : Operand) (y : Operand) (_u : TypeId) : Bool := (match okOperand x with
  | true => okOperand y
  | false => false)
def kBinOp (op : BinOp) (t : TypeId) (x : Operand) (y : Operand) (_u : TypeId) (T : Tab) (η : Operand → Value) (_ty : TypeId) : AS Nx := match ifaceOk (η x) (η y) x y with
    | true => vNx (aBin T op t (η x) (η y))
    | false => .fail
def pBinOp (_op : BinOp) (_t : TypeId) (_x : Operand) (_y : Operand) (_u : TypeId) (_η : Operand → Value) : Option Value := none
def okUnOp (_op : UnOp) (_t : TypeId) (x : Operand) : Bool := okOperand x
def kUnOp (op : UnOp) (_t : TypeId) (x : Operand) (_T : Tab) (η : Operand → Value) (_ty : TypeId) : AS Nx := vNx (ofSem (Op.unary op (η x)))
def pUnOp (_op : UnOp) (_t : TypeId) (_x : Operand) (_η : Operand → Value) : Option Value := none
def okConvert (_s : TypeId) (_d : TypeId) (x : Operand) : Bool := okOperand x
def kConvert (s : TypeId) (d : TypeId) (x : Operand) (T : Tab) (η : Operand → Value) (_ty : TypeId) : AS Nx := vNx (aConvert T s d (η x))
def pConvert (_s : TypeId) (_d : TypeId) (_x : Operand) (_η : Operand → Value) : Option Value := none
def okSliceToArrayPointer (_d : TypeId) (x : Operand) : Bool := okOperand x
def kSliceToArrayPointer (_d : TypeId) (_x : Operand) (_T : Tab) (_η : Operand → Value) (_ty : TypeId) : AS Nx := .fail
def pSliceToArrayPointer (_d : TypeId) (_x : Operand) (_η : Operand → Value) : Option Value := none
def okMakeInterface (_t : TypeId) (x : Operand) : Bool := okOperand x
def kMakeInterface (t : TypeId) (x : Operand) (T : Tab) (η : Operand → Value) (_ty : TypeId) : AS Nx := match T.und t with
    | some (.interface _) => .fail
    | some _ => .ret (.value (.iface t (η x)))
    | none => .fail
def pMakeInterface (_t : TypeId) (_x : Operand) (_η : Operand → Value) : Option Value := none
def okMakeFunc (_fn : Fn) (f : Array Operand) (c : Array Operand) : Bool := okBoth f.toList c.toList
def kMakeFunc (fn : Fn) (f : Array Operand) (c : Array Operand) (_T : Tab) (η : Operand → Value) (_ty : TypeId) : AS Nx := match noYield fn with
    | true => .ret (.value (.func fn ⟨lst2 η f.toList⟩ ⟨lst2 η c.toList⟩))
    | false => .fail
def pMakeFunc (_fn : Fn) (_f : Array Operand) (_c : Array Operand) (_η : Operand → Value) : Option Value := none
def okMakeMap (_t : TypeId) (r : Option Operand) : Bool := okOpt r
def kMakeMap (t : TypeId) (r : Option Operand) (T : Tab) (η : Operand → Value) (_ty : TypeId) : AS Nx := match r with
    | none => vNx (.new (.map #[] 0) fun r => .ret (.map (some r)))
    | some x => match T.und t, η x with
      | some (.map _ _), .int _ _ => vNx (.new (.map #[] 0) fun r => .ret (.map (some r)))
      | _, _ => .fail
def pMakeMap (_t : TypeId) (_r : Option Operand) (_η : Operand → Value) : Option Value := none
def okMakeChan (_t : TypeId) (x : Operand) : Bool := okOperand x
def kMakeChan (_t : TypeId) (_x : Operand) (_T : Tab) (_η : Operand → Value) (_ty : TypeId) : AS Nx := .fail
def pMakeChan (_t : TypeId) (_x : Operand) (_η : Operand → Value) : Option Value := none
def okMakeSlice (_t : TypeId) (l : Operand) (c : Operand) : Bool := (match okOperand l with
  | true => okOperand c
  | false => false)
def kMakeSlice (t : TypeId) (l : Operand) (c : Operand) (T : Tab) (η : Operand → Value) (_ty : TypeId) : AS Nx := vNx (aMakeSlice T t (η l) (η c))
def pMakeSlice (_t : TypeId) (_l : Operand) (_c : Operand) (_η : Operand → Value) : Option Value := none
def okSlice (_t : TypeId) (x : Operand) (l : Option Operand) (h : Option Operand) (m : Option Operand) : Bool := (match okOperand x, okOpt l with
  | true, true => (match okOpt h with
    | true => okOpt m
    | false => false)
  | _, _ => false)
def kSlice (t : TypeId) (x : Operand) (l : Option Operand) (h : Option Operand) (m : Option Operand) (T : Tab) (η : Operand → Value) (_ty : TypeId) : AS Nx := vNx (aSlice T t (η x) (l.map η) (h.map η) (m.map η))
def pSlice (_t : TypeId) (_x : Operand) (_l : Option Operand) (_h : Option Operand) (_m : Option Operand) (_η : Operand → Value) : Option Value := none
def okFieldAddr (_t : TypeId) (x : Operand) (_f : Nat) : Bool := okOperand x
def kFieldAddr (t : TypeId) (x : Operand) (f : Nat) (T : Tab) (η : Operand → Value) (_ty : TypeId) : AS Nx := vNx (aFieldAddr T t (η x) f)
def pFieldAddr (_t : TypeId) (_x : Operand) (_f : Nat) (_η : Operand → Value) : Option Value := none
def okField (_t : TypeId) (x : Operand) (_f : Nat) : Bool := okOperand x
def kField (t : TypeId) (x : Operand) (f : Nat) (T : Tab) (η : Operand → Value) (_ty : TypeId) : AS Nx := vNx (aField T t (η x) f)
def pField (_t : TypeId) (_x : Operand) (_f : Nat) (_η : Operand → Value) : Option Value := none
def okIndexAddr (_t : TypeId) (x : Operand) (i : Operand) : Bool := (match okOperand x with
  | true => okOperand i
  | false => false)
def kIndexAddr (t : TypeId) (x : Operand) (i : Operand) (T : Tab) (η : Operand → Value) (_ty : TypeId) : AS Nx := vNx (aIndexAddr T t (η x) (η i))
def pIndexAddr (_t : TypeId) (_x : Operand) (_i : Operand) (_η : Operand → Value) : Option Value := none
def okIndex (_t : TypeId) (x : Operand) (i : Operand) : Bool := (match okOperand x with
  | true => okOperand i
  | false => false)
def kIndex (t : TypeId) (x : Operand) (i : Operand) (T : Tab) (η : Operand → Value) (_ty : TypeId) : AS Nx := vNx (aIndex T t (η x) (η i))
def pIndex (_t : TypeId) (_x : Operand) (_i : Operand) (_η : Operand → Value) : Option Value := none
def okLookup (_t : TypeId) (x : Operand) (i : Operand) (_k : Bool) : Bool := (match okOperand x with
  | true => okOperand i
  | false => false)
def kLookup (t : TypeId) (x : Operand) (i : Operand) (k : Bool) (T : Tab) (η : Operand → Value) (_ty : TypeId) : AS Nx := vNx (aLookup T t (η x) (η i) k)
def pLookup (_t : TypeId) (_x : Operand) (_i : Operand) (_k : Bool) (_η : Operand → Value) : Option Value := none
def okMapUpdate (_t : TypeId) (m : Operand) (k : Operand) (x : Operand) : Bool := (match okOperand m with
  | true => (match okOperand k with
    | true => okOperand x
    | false => false)
  | false => false)
def kMapUpdate (t : TypeId) (m : Operand) (k : Operand) (x : Operand) (T : Tab) (η : Operand → Value) (_ty : TypeId) : AS Nx := uNx (aMapUpdate T t (η m) (η k) (η x))
def pMapUpdate (_t : TypeId) (_m : Operand) (_k : Operand) (_x : Operand) (_η : Operand → Value) : Option Value := none
def okMapEntry (_t : TypeId) (m : Operand) (k : Operand) : Bool := (match okOperand m with
  | true => okOperand k
  | false => false)
def kMapEntry (_t : TypeId) (_m : Operand) (_k : Operand) (_T : Tab) (_η : Operand → Value) (_ty : TypeId) : AS Nx := .fail
def pMapEntry (_t : TypeId) (_m : Operand) (_k : Operand) (_η : Operand → Value) : Option Value := none
def okEntryStore (_t : TypeId) (m : Operand) (k : Operand) (x : Operand) : Bool := (match okOperand m with
  | true => (match okOperand k with
    | true => okOperand x
    | false => false)
  | false => false)
def kEntryStore (_t : TypeId) (_m : Operand) (_k : Operand) (_x : Operand) (_T : Tab) (_η : Operand → Value) (_ty : TypeId) : AS Nx := .fail
def pEntryStore (_t : TypeId) (_m : Operand) (_k : Operand) (_x : Operand) (_η : Operand → Value) : Option Value := none
def okRange (_t : TypeId) (x : Operand) : Bool := okOperand x
def kRange (t : TypeId) (x : Operand) (T : Tab) (η : Operand → Value) (_ty : TypeId) : AS Nx := vNx (aRange T t (η x))
def pRange (_t : TypeId) (_x : Operand) (_η : Operand → Value) : Option Value := none
def okNext (i : Operand) (_s : Bool) : Bool := okOperand i
def kNext (i : Operand) (s : Bool) (_T : Tab) (η : Operand → Value) (_ty : TypeId) : AS Nx := vNx (aNext (η i) s)
def pNext (_i : Operand) (_s : Bool) (_η : Operand → Value) : Option Value := none
def okEntry (i : Operand) : Bool := okOperand i
def kEntry (i : Operand) (_T : Tab) (η : Operand → Value) (_ty : TypeId) : AS Nx := vNx (aEntry (η i))
def pEntry (_i : Operand) (_η : Operand → Value) : Option Value := none
def okTypeAssert (x : Operand) (_t : TypeId) (_u : TypeId) (_k : Bool) : Bool := okOperand x
def kTypeAssert (x : Operand) (_t : TypeId) (u : TypeId) (k : Bool) (T : Tab) (η : Operand → Value) (_ty : TypeId) : AS Nx := vNx (aTypeAssert T (η x) u k)
def pTypeAssert (_x : Operand) (_t : TypeId) (_u : TypeId) (_k : Bool) (_η : Operand → Value) : Option Value := none
def okExtract (x : Operand) (_i : Nat) : Bool := okOperand x
def kExtract (x : Operand) (i : Nat) (_T : Tab) (η : Operand → Value) (_ty : TypeId) : AS Nx := vNx (aExtract (η x) i)
def pExtract (_x : Operand) (_i : Nat) (_η : Operand → Value) : Option Value := none
def okCall (c : Call) : Bool := okTheCall c
def kCall (c : Call) (T : Tab) (η : Operand → Value) (ty : TypeId) : AS Nx := aCall T η c ty
def pCall (c : Call) (η : Operand → Value) : Option Value := match c.callee with
    | .builtin .panic => (match c.args.toList with
      | [x] => match η x with
        | .iface t v => some (.iface t v)
        | _ => none
      | _ => none)
    | _ => none
def okGo (c : Call) : Bool := okTheCall c
def kGo (_c : Call) (_T : Tab) (_η : Operand → Value) (_ty : TypeId) : AS Nx := .fail
def pGo (_c : Call) (_η : Operand → Value) : Option Value := none
def okDefer (c : Call) : Bool := okTheCall c
def kDefer (c : Call) (_T : Tab) (η : Operand → Value) (_ty : TypeId) : AS Nx := match c.callee with
    | .value f => match η f with
      | .func (.func f) first captured => .ret (.defer { target := .fn (.func f) captured, args := ⟨first.toList ++ lst2 η c.args.toList⟩ })
      | _ => .fail
    | _ => .fail
def pDefer (_c : Call) (_η : Operand → Value) : Option Value := none
def okPanic (x : Operand) : Bool := okOperand x
def kPanic (_x : Operand) (_T : Tab) (_η : Operand → Value) (_ty : TypeId) : AS Nx := .fail
def pPanic (x : Operand) (η : Operand → Value) : Option Value := match η x with
    | .iface t v => some (.iface t v)
    | _ => none
def okSend (c : Operand) (x : Operand) : Bool := (match okOperand c with
  | true => okOperand x
  | false => false)
def kSend (_c : Operand) (_x : Operand) (_T : Tab) (_η : Operand → Value) (_ty : TypeId) : AS Nx := .fail
def pSend (_c : Operand) (_x : Operand) (_η : Operand → Value) : Option Value := none
def okRecv (_t : TypeId) (c : Operand) (_k : Bool) : Bool := okOperand c
def kRecv (_t : TypeId) (_c : Operand) (_k : Bool) (_T : Tab) (_η : Operand → Value) (_ty : TypeId) : AS Nx := .fail
def pRecv (_t : TypeId) (_c : Operand) (_k : Bool) (_η : Operand → Value) : Option Value := none
def okSelect (cs : Array SelectCase) (k : Bool) : Bool := allOk (Op.select cs k).operands.toList
def kSelect (_cs : Array SelectCase) (_k : Bool) (_T : Tab) (_η : Operand → Value) (_ty : TypeId) : AS Nx := .fail
def pSelect (_cs : Array SelectCase) (_k : Bool) (_η : Operand → Value) : Option Value := none
noncomputable def okK : Op → Bool := Op.rec (motive := fun _ => Bool) okMove okAssign okPick okAlloc okBox okBuild okBuildSlice okInsert okLoad okStore okReady okWaits okNilCheck okBinOp okUnOp okConvert okSliceToArrayPointer okMakeInterface okMakeFunc okMakeMap okMakeChan okMakeSlice okSlice okFieldAddr okField okIndexAddr okIndex okLookup okMapUpdate okMapEntry okEntryStore okRange okNext okEntry okTypeAssert okExtract okCall okGo okDefer okPanic okSend okRecv okSelect
noncomputable def aK : Op → Tab → (Operand → Value) → TypeId → AS Nx := Op.rec (motive := fun _ => Tab → (Operand → Value) → TypeId → AS Nx) kMove kAssign kPick kAlloc kBox kBuild kBuildSlice kInsert kLoad kStore kReady kWaits kNilCheck kBinOp kUnOp kConvert kSliceToArrayPointer kMakeInterface kMakeFunc kMakeMap kMakeChan kMakeSlice kSlice kFieldAddr kField kIndexAddr kIndex kLookup kMapUpdate kMapEntry kEntryStore kRange kNext kEntry kTypeAssert kExtract kCall kGo kDefer kPanic kSend kRecv kSelect
noncomputable def pK : Op → (Operand → Value) → Option Value := Op.rec (motive := fun _ => (Operand → Value) → Option Value) pMove pAssign pPick pAlloc pBox pBuild pBuildSlice pInsert pLoad pStore pReady pWaits pNilCheck pBinOp pUnOp pConvert pSliceToArrayPointer pMakeInterface pMakeFunc pMakeMap pMakeChan pMakeSlice pSlice pFieldAddr pField pIndexAddr pIndex pLookup pMapUpdate pMapEntry pEntryStore pRange pNext pEntry pTypeAssert pExtract pCall pGo pDefer pPanic pSend pRecv pSelect

theorem okAll_eq : ∀ l, okAll l = allOk l
  | [] => rfl
  | x :: l => by simp only [okAll, allOk]; rw [okAll_eq l]; cases okOperand x <;> rfl
theorem allOk_append : ∀ a b, allOk (a ++ b) = (allOk a && allOk b)
  | [], b => by simp [allOk]
  | x :: a, b => by simp only [List.cons_append, allOk, allOk_append a b, Bool.and_assoc]
theorem okParts_eq : ∀ l, okParts l = allOk (l.map (·.2))
  | [] => rfl
  | (i, x) :: l => by simp only [okParts, List.map_cons, allOk]; rw [okParts_eq l]; cases okOperand x <;> rfl
theorem okBoth_eq (a b : List Operand) : okBoth a b = allOk (a ++ b) := by
  unfold okBoth; rw [okAll_eq, okAll_eq, allOk_append]; cases allOk a <;> rfl
theorem okOpt_eq (r : Option Operand) : okOpt r = allOk r.toArray.toList := by cases r <;> simp [okOpt, allOk]
theorem okTheCall_eq (c : Call) : okTheCall c = allOk c.operands.toList := by
  unfold okTheCall Call.operands
  cases c.callee with
  | value f => simp [allOk, okAll_eq]; cases okOperand f <;> simp
  | invoke r n => simp [allOk, okAll_eq]; cases okOperand r <;> simp
  | builtin b => simp [okAll_eq]
theorem okK_eq (op : Op) : okK op = allOk op.operands.toList := by
  cases op
  case build t ps => exact (okParts_eq ps.toList).trans (by simp [Op.operands])
  case buildSlice t n ps => exact (okParts_eq ps.toList).trans (by simp [Op.operands])
  case makeFunc fn f c => exact (okBoth_eq _ _).trans (by simp [Op.operands])
  case makeMap t r => exact okOpt_eq r
  case slice t x l h m =>
    show okSlice t x l h m = _
    unfold okSlice
    rw [okOpt_eq, okOpt_eq, okOpt_eq]
    simp only [Op.operands, Array.toList_append, allOk_append, allOk]
    cases okOperand x <;> cases allOk l.toArray.toList <;> cases allOk h.toArray.toList <;> cases allOk m.toArray.toList <;> rfl
  case call c => exact okTheCall_eq c
  case go c => exact okTheCall_eq c
  case defer c => exact okTheCall_eq c
  case select cs k => rfl
  all_goals (simp only [okK, Op.operands, allOk, okMove, okAssign, okPick, okAlloc, okBox, okInsert, okLoad, okStore, okReady, okWaits, okNilCheck, okBinOp, okUnOp, okConvert, okSliceToArrayPointer, okMakeInterface, okMakeChan, okMakeSlice, okFieldAddr, okField, okIndexAddr, okIndex, okLookup, okMapUpdate, okMapEntry, okEntryStore, okRange, okNext, okEntry, okTypeAssert, okExtract, okPanic, okSend, okRecv])
  all_goals first | rfl | (simp; done) | skip
  all_goals (split <;> first | (simp_all; done) | skip)
  all_goals (split <;> simp_all)


theorem aK_eq (T : Tab) (η : Operand → Value) (o : Oper) : aK o.op T η o.type = aOp T η o := by
  obtain ⟨dst, op, type, pos, after, guard⟩ := o
  cases op <;> first | rfl | skip
  case makeMap t r => cases r <;> rfl
theorem pK_eq (η : Operand → Value) (o : Oper) : pK o.op η = panicOf η o := by
  obtain ⟨dst, op, type, pos, after, guard⟩ := o
  cases op <;> first | rfl | skip
  case call c =>
    show pCall c η = _
    unfold pCall panicOf
    simp only
    cases c.callee <;> first | rfl | skip
    rename_i b
    cases b <;> first | rfl | skip
    cases c.args.toList with
    | nil => rfl
    | cons x l => cases l <;> rfl
end

section
abbrev Summ := FuncId → Option (List Value → St → Option (Res × St))
abbrev Rec := Task → St → Option (Out × St)

/-! ## temporaries -/
def gNil {α : Type} (_ : Nat) : Option α := none
def gNode {α : Type} (v : Option α) (_l _r : Tr α) (ihl ihr : Nat → Option α) (n : Nat) : Option α := match n with
  | 0 => v
  | m + 1 => match Nat.beq (m % 2) 0 with
    | true => ihl (m / 2)
    | false => ihr (m / 2)
noncomputable def get2 {α : Type} : Tr α → Nat → Option α := Tr.rec (motive := fun _ => Nat → Option α) gNil gNode
theorem get2_eq {α : Type} : ∀ (t : Tr α) (n : Nat), get2 t n = t.get n
  | .nil, n => rfl
  | .node v l r, 0 => rfl
  | .node v l r, m + 1 => by
    show (match Nat.beq (m % 2) 0 with | true => get2 l (m / 2) | false => get2 r (m / 2)) = (match Nat.beq (m % 2) 0 with | true => l.get (m / 2) | false => r.get (m / 2))
    rw [get2_eq l, get2_eq r]

noncomputable def eTmp (t : Tmp) (tm : Tr Value) : Value := match get2 tm t with
  | some v => v
  | none => .tuple #[]
def eConst (v : Value) (_ : Tr Value) : Value := v
def eGlobal (g : Nat) (_ : Tr Value) : Value := .pointer (some ⟨g, 0, none⟩)
def eFunc (f : FuncId) (_ : Tr Value) : Value := .func (.func f) #[] #[]
noncomputable def eval2 (tm : Tr Value) (x : Operand) : Value := Operand.rec (motive := fun _ => Tr Value → Value) eTmp eConst eGlobal eFunc x tm
theorem eval2_eq (fr : Fr) : eval2 fr.tmps = fr.eval := by
  funext x
  cases x with
  | tmp t =>
    show (match get2 fr.tmps t with | some v => v | none => .tuple #[]) = (match fr.tmps.get t with | some v => v | none => .tuple #[])
    rw [get2_eq]
  | _ => rfl

/-! ## trees -/
def rRet (a : Nx) (s : St) : Option (Nx × St) := some (a, s)
def rFail (_ : St) : Option (Nx × St) := none
def rLoads (a : Addr) (n : Nat) (_ : List Value → AS Nx) (ih : List Value → St → Option (Nx × St)) (s : St) : Option (Nx × St) := match s.cellsAt a n with
  | some vs => ih vs s
  | none => none
def rStores (a : Addr) (vs : List Value) (_ : AS Nx) (ih : St → Option (Nx × St)) (s : St) : Option (Nx × St) := match s.setCells a vs with
  | some s' => ih s'
  | none => none
def rNew (o : Obj) (_ : Nat → AS Nx) (ih : Nat → St → Option (Nx × St)) (s : St) : Option (Nx × St) := ih s.next { heap := s.heap.put s.next (.rw o), next := s.next + 1 }
def rGetObj (r : Nat) (_ : Obj → AS Nx) (ih : Obj → St → Option (Nx × St)) (s : St) : Option (Nx × St) := match s.heap.get r with
  | some (.rw o) => match isCells o with
    | true => none
    | false => ih o s
  | _ => none
def rSetObj (r : Nat) (o : Obj) (_ : AS Nx) (ih : St → Option (Nx × St)) (s : St) : Option (Nx × St) := match s.heap.get r with
  | some (.rw o') => match isCells o' || isCells o with
    | true => none
    | false => ih { s with heap := s.heap.put r (.rw o) }
  | _ => none
def rFreeze (a : Addr) (n : Nat) (_ : AS Nx) (ih : St → Option (Nx × St)) (s : St) : Option (Nx × St) := match a.spot, s.heap.get a.block with
  | none, some (.rw (.cells c e (lo, _hi))) =>
    match Nat.ble 1 n && Nat.ble (a.off + n) c.toList.length with
    | true => ih { s with heap := s.heap.put a.block (.rw (.cells c e (lo, 1))) }
    | false => none
  | _, _ => none
def rStringish (a : Addr) (_ : AS Nx) (ih : St → Option (Nx × St)) (s : St) : Option (Nx × St) := match s.heap.get a.block with
  | some (.rw (.cells c e (lo, _))) => ih { s with heap := s.heap.put a.block (.rw (.cells c e (lo, 1))) }
  | _ => none
def rRowOf (a : Addr) (n : Nat) (t : TypeId) (z : Bool) (_ : AS Nx) (ih : St → Option (Nx × St)) (s : St) : Option (Nx × St) := match s.rowOf a n t z with
  | true => ih s
  | false => none
def rGrow (a : Addr) (n : Nat) (e : TypeId) (vs : List Value) (_ : Nat → AS Nx) (ih : Nat → St → Option (Nx × St)) (s : St) : Option (Nx × St) := match a.spot, s.heap.get a.block with
  | none, some (.rw (.cells c e' (_lo, hi))) => match cut c.toList a.off n, Nat.beq hi 0 && Nat.beq e e' && vs.all flat with
    | some old, true => ih s.next { heap := (s.heap.put a.block .dead).put s.next (.rw (.cells ⟨old ++ vs⟩ e (1, 0))), next := s.next + 1 }
    | _, _ => none
  | _, _ => none
noncomputable def run2 : AS Nx → St → Option (Nx × St) := AS.rec (motive := fun _ => St → Option (Nx × St)) rRet rFail rLoads rStores rNew rGetObj rSetObj rFreeze rStringish rRowOf rGrow
theorem run2_eq (t : AS Nx) : run2 t = t.run := by
  induction t with
  | ret a => rfl
  | fail => rfl
  | loads a n k ih =>
    funext s
    show rLoads a n k (fun vs => run2 (k vs)) s = _
    rw [funext ih]
    unfold rLoads
    rw [AS.run]
    cases s.cellsAt a n <;> rfl
  | stores a vs k ih =>
    funext s
    show rStores a vs k (run2 k) s = _
    rw [ih]; rfl
  | new o k ih =>
    funext s
    show rNew o k (fun r => run2 (k r)) s = _
    rw [funext ih]; rfl
  | getObj r k ih =>
    funext s
    show rGetObj r k (fun o => run2 (k o)) s = _
    rw [funext ih]
    unfold rGetObj
    rw [AS.run]
    cases s.heap.get r with
    | none => rfl
    | some x => cases x with
      | rw o => cases isCells o <;> rfl
      | ro c => rfl
      | dead => rfl
  | setObj r o k ih =>
    funext s
    show rSetObj r o k (run2 k) s = _
    rw [ih]; rfl
  | freeze a n k ih =>
    funext s
    show rFreeze a n k (run2 k) s = _
    rw [ih]; rfl
  | stringish a k ih =>
    funext s
    show rStringish a k (run2 k) s = _
    rw [ih]; rfl
  | rowOf a n e z k ih =>
    funext s
    show rRowOf a n e z k (run2 k) s = _
    rw [ih]; rfl
  | grow a n e vs k ih =>
    funext s
    show rGrow a n e vs k (fun r => run2 (k r)) s = _
    rw [funext ih]; rfl

/-! ## operations in order -/
def nxK (T : Tab) (summ : Summ) (rec : Rec) (fr : Fr) (s : St) (nx : Nx) : Option Did := match nx with
    | .value v => some (.value v fr s)
    | .skip => some (.value (.tuple #[]) fr s)
    | .enter f args => match callA summ rec f args s with
      | some (.ret v, s) => some (.value v fr s)
      | some (.panic ch, s) => some (.out ch fr s)
      | none => none
    | .yield l r args => match roundA T rec l r args s with
      | some (.ret v, s) => some (.value v fr s)
      | some (.panic ch, s) => some (.out ch fr s)
      | none => none
    | .defer d => match fr.round with
      | none => some (.value (.tuple #[]) { fr with defers := d :: fr.defers } s)
      | some _ => none
    | .recover => match fr.up with
      | some (.panicking ({ v, recovered := false, goexit := false } :: older)) =>
        some (.value v { fr with up := some (.panicking ({ v, recovered := true } :: older)) } s)
      | some _ => some (.value .nilIface fr s)
      | none => none
noncomputable def doOp2 (T : Tab) (summ : Summ) (rec : Rec) (o : Oper) (fr : Fr) (s : St) : Option Did :=
  match pK o.op (eval2 fr.tmps) with
  | some v => some (.out [{ v, recovered := false }] fr s)
  | none => match run2 (aK o.op T (eval2 fr.tmps) o.type) s with
    | some (nx, s) => nxK T summ rec fr s nx
    | none => none
theorem doOp2_eq (T : Tab) (summ : Summ) (rec : Rec) (o : Oper) (fr : Fr) (s : St) : doOp2 T summ rec o fr s = doOp T summ rec o fr s := by
  unfold doOp2 doOp
  rw [eval2_eq, pK_eq, aK_eq, run2_eq]
  rfl

def opsNil (_T : Tab) (_summ : Summ) (_rec : Rec) (_ops : List Oper) (fr : Fr) (s : St) : Option (Ex × Fr × St) := some (.normal, fr, s)
noncomputable def opsCons (o : Oper) (_ : List Oper) (ih : Tab → Summ → Rec → List Oper → Fr → St → Option (Ex × Fr × St)) (T : Tab) (summ : Summ) (rec : Rec) (ops : List Oper) (fr : Fr) (s : St) : Option (Ex × Fr × St) :=
  match okK o.op with
  | true => match wantedA ops o fr with
    | some true => match doOp2 T summ rec o fr s with
      | some (.value v fr s) => match fr.put o.dst v with
        | some fr => ih T summ rec ops fr s
        | none => none
      | some (.out ch fr s) => some (.panic ch, fr, s)
      | none => none
    | some false => match fr.put o.dst (.tuple #[]) with
      | some fr => ih T summ rec ops fr s
      | none => none
    | none => none
  | false => none
noncomputable def runOps2 : List Oper → Tab → Summ → Rec → List Oper → Fr → St → Option (Ex × Fr × St) :=
  List.rec (motive := fun _ => Tab → Summ → Rec → List Oper → Fr → St → Option (Ex × Fr × St)) opsNil opsCons
theorem runOps2_eq : ∀ (l : List Oper), runOps2 l = fun T summ rec ops fr s => runOps T summ rec ops l fr s
  | [] => rfl
  | o :: l => by
    funext T summ rec ops fr s
    show opsCons o l (runOps2 l) T summ rec ops fr s = _
    rw [runOps2_eq l]
    unfold opsCons
    rw [okK_eq, doOp2_eq]
    rfl
end

section
/-! ## regions that draw -/
noncomputable def quiet2 (T : Tab) (i base m : Nat) (o : Oper) (d : Dr) : Option (Value × Dr) :=
  match pK o.op (eval2 d.fr.tmps) with
  | some _ => none
  | none =>
  let tree := aK o.op T (eval2 d.fr.tmps) o.type
  match AS.read tree { d.s with heap := layPend (bit m) d.pend d.s.heap } with
  | some (.value v) => match rdOk m tree v d.effs with
    | true => some (v, { d with rds := { at_ := i, tree, val := v } :: d.rds })
    | false => none
  | some _ => none
  | none => match AS.make tree (base + i) with
    | some (.value v, obj) => some (v, { d with pend := { at_ := i, id := base + i, obj } :: d.pend })
    | _ => none
theorem quiet2_eq (T : Tab) (i base m : Nat) (o : Oper) (d : Dr) : quiet2 T i base m o d = quietOp T i base m o d := by
  unfold quiet2 quietOp
  rw [eval2_eq, pK_eq, aK_eq]
  rfl
noncomputable def stepQ2 (T : Tab) (ops : List Oper) (m base : Nat) (o : Oper) (i : Nat) (d : Dr) : Option Dr :=
  match okK o.op, wantedA ops o d.fr with
  | true, some false => match d.fr.put o.dst (.tuple #[]) with
    | some fr => some { d with fr }
    | none => none
  | true, some true => match quiet2 T i base m o d with
    | some (v, d) => match d.fr.put o.dst v with
      | some fr => some { d with fr }
      | none => none
    | none => none
  | _, _ => none
theorem stepQ2_eq (T : Tab) (ops : List Oper) (m base : Nat) (o : Oper) (i : Nat) (d : Dr) : stepQ2 T ops m base o i d = stepQ T ops m base o i d := by
  unfold stepQ2 stepQ
  rw [okK_eq, quiet2_eq]
  rfl
def nxD (T : Tab) (summ : Summ) (rec : Rec) (s : St) (nx : Nx) : Option (Option Value × List PanicEntry × St) := match nx with
    | .value v => some (some v, [], s)
    | .skip => some (some (.tuple #[]), [], s)
    | .enter f args => match callA summ rec f args s with
      | some (.ret v, s) => some (some v, [], s)
      | some (.panic ch, s) => some (none, ch, s)
      | none => none
    | .yield l r args => match roundA T rec l r args s with
      | some (.ret v, s) => some (some v, [], s)
      | some (.panic ch, s) => some (none, ch, s)
      | none => none
    | _ => none
noncomputable def draw2 (T : Tab) (summ : Summ) (rec : Rec) (o : Oper) (fr : Fr) (s : St) : Option (Option Value × List PanicEntry × St) :=
  match pK o.op (eval2 fr.tmps) with
  | some v => some (none, [{ v, recovered := false }], s)
  | none => match run2 (aK o.op T (eval2 fr.tmps) o.type) s with
    | some (nx, s) => nxD T summ rec s nx
    | none => none
theorem draw2_eq (T : Tab) (summ : Summ) (rec : Rec) (o : Oper) (fr : Fr) (s : St) : draw2 T summ rec o fr s = doDraw T summ rec o fr s := by
  unfold draw2 doDraw
  rw [eval2_eq, pK_eq, aK_eq, run2_eq]
  rfl
noncomputable def stepE2 (T : Tab) (summ : Summ) (rec : Rec) (ops : List Oper) (m : Nat) (o : Oper) (i : Nat) (d : Dr) : Option DD :=
  match okK o.op && lastEff m d.effs, wantedA ops o d.fr with
  | true, some true => match draw2 T summ rec o d.fr { d.s with heap := layPend (bit m) d.pend d.s.heap } with
    | some (some v, _, s) => match effOk m d.rds d.s s, d.fr.put o.dst v with
      | true, some fr => some (.on { d with fr, s, pend := d.pend.filter (fun p => !(bit m p.at_)), effs := { at_ := i, pre := d.s, post := s } :: d.effs })
      | _, _ => none
    | some (none, ch, s) => some (.out ch s)
    | none => none
  | _, _ => none
theorem stepE2_eq (T : Tab) (summ : Summ) (rec : Rec) (ops : List Oper) (m : Nat) (o : Oper) (i : Nat) (d : Dr) : stepE2 T summ rec ops m o i d = stepE T summ rec ops m o i d := by
  unfold stepE2 stepE
  rw [okK_eq, draw2_eq]
  rfl

def dNil (_T : Tab) (_summ : Summ) (_rec : Rec) (_ops : List Oper) (_ms : List Nat) (_base : Nat) (_fr0 : Fr) (_i : Nat) (d : Dr) : Option (Ex × Fr × St) :=
  some (.normal, d.fr, { d.s with heap := layPend (fun _ => true) d.pend d.s.heap })
noncomputable def dCons (o : Oper) (rest : List Oper) (ih : Tab → Summ → Rec → List Oper → List Nat → Nat → Fr → Nat → Dr → Option (Ex × Fr × St)) (T : Tab) (summ : Summ) (rec : Rec) (ops : List Oper) (ms : List Nat) (base : Nat) (fr0 : Fr) (i : Nat) (d : Dr) : Option (Ex × Fr × St) :=
  match stepQ2 T ops ((nth ms i).getD 0) base o i d with
    | some d => ih T summ rec ops ms base fr0 (i + 1) d
    | none => match stepE2 T summ rec ops ((nth ms i).getD 0) o i d with
      | some (.on d) => ih T summ rec ops ms base fr0 (i + 1) d
      | some (.out ch s) => match quietRest T ops ms base i rest (i + 1) d with
        | true => some (.panic ch, forget fr0 ops, s)
        | false => none
      | none => none
noncomputable def runDraw2 : List Oper → Tab → Summ → Rec → List Oper → List Nat → Nat → Fr → Nat → Dr → Option (Ex × Fr × St) :=
  List.rec (motive := fun _ => Tab → Summ → Rec → List Oper → List Nat → Nat → Fr → Nat → Dr → Option (Ex × Fr × St)) dNil dCons
theorem runDraw2_eq : ∀ (l : List Oper), runDraw2 l = fun T summ rec ops ms base fr0 i d => runDraw T summ rec ops ms base fr0 l i d
  | [] => rfl
  | o :: l => by
    funext T summ rec ops ms base fr0 i d
    show dCons o l (runDraw2 l) T summ rec ops ms base fr0 i d = _
    rw [runDraw2_eq l]
    unfold dCons
    rw [stepQ2_eq, stepE2_eq]
    rfl
noncomputable def regionDraw2 (T : Tab) (summ : Summ) (rec : Rec) (ops : List Oper) (fr : Fr) (s : St) : Option (Ex × Fr × St) :=
  match fitRegion ops with
  | true => runDraw2 ops T summ rec ops (ancs ops []) s.next fr 0 { fr, s := { s with next := s.next + ops.length }, pend := [], rds := [], effs := [] }
  | false => none
theorem regionDraw2_eq (T : Tab) (summ : Summ) (rec : Rec) (ops : List Oper) (fr : Fr) (s : St) : regionDraw2 T summ rec ops fr s = regionDraw T summ rec ops fr s := by
  unfold regionDraw2 regionDraw
  rw [runDraw2_eq]
  rfl

/-! ## code -/
abbrev CM := Tab → Summ → Rec → Fr → St → Option (Out × St)
def cSkip (_T : Tab) (_summ : Summ) (_rec : Rec) (fr : Fr) (s : St) : Option (Out × St) := some (.code .normal fr, s)
def cLabel (_ : Nat) (_T : Tab) (_summ : Summ) (_rec : Rec) (fr : Fr) (s : St) : Option (Out × St) := some (.code .normal fr, s)
noncomputable def cRegion (_ : Nat) (ops : Array Oper) (dr : Bool) (T : Tab) (summ : Summ) (rec : Rec) (fr : Fr) (s : St) : Option (Out × St) := match dr with
  | false => out (runOps2 ops.toList T summ rec ops.toList fr s)
  | true => out (regionDraw2 T summ rec ops.toList fr s)
def cSeq (a b : Code) (_ _ : CM) (_T : Tab) (_summ : Summ) (rec : Rec) (fr : Fr) (s : St) : Option (Out × St) := match code rec a fr s with
  | some (.normal, fr, s) => rec (.code b fr) s
  | r => out r
noncomputable def cCond (c : Operand) (a b : Code) (_ _ : CM) (_T : Tab) (_summ : Summ) (rec : Rec) (fr : Fr) (s : St) : Option (Out × St) := match okOperand c && true, eval2 fr.tmps c with
  | true, .bool true => rec (.code a fr) s
  | true, .bool false => rec (.code b fr) s
  | _, _ => none
def cBlock (id : Nat) (b : Code) (_ : CM) (_T : Tab) (_summ : Summ) (rec : Rec) (fr : Fr) (s : St) : Option (Out × St) := match code rec b fr s with
  | some (.exit j, fr, s) => match Nat.beq j id with
    | true => some (.code .normal fr, s)
    | false => some (.code (.exit j) fr, s)
  | r => out r
def cLoop (b : Code) (_ : CM) (_T : Tab) (_summ : Summ) (rec : Rec) (fr : Fr) (s : St) : Option (Out × St) := rec (.loop b fr) s
def cRange (f : Operand) (ps : Array Tmp) (as bd : Code) (_ _ : CM) (T : Tab) (summ : Summ) (rec : Rec) (fr : Fr) (s : St) : Option (Out × St) := stepA T summ rec (.code (.rangeFunc f ps as bd) fr) s
def cExit (id : Nat) (_T : Tab) (_summ : Summ) (_rec : Rec) (fr : Fr) (s : St) : Option (Out × St) := some (.code (.exit id) fr, s)
def cScope (b : Code) (_ : CM) (_T : Tab) (_summ : Summ) (rec : Rec) (fr : Fr) (s : St) : Option (Out × St) := rec (.scope b b fr) s
def cGoto (l : Nat) (_T : Tab) (_summ : Summ) (_rec : Rec) (fr : Fr) (s : St) : Option (Out × St) := some (.code (.goto l) fr, s)
def cRet (_T : Tab) (_summ : Summ) (_rec : Rec) (fr : Fr) (s : St) : Option (Out × St) := some (.code .ret fr, s)
def cRefuse (_ : String) (_T : Tab) (_summ : Summ) (_rec : Rec) (_fr : Fr) (_s : St) : Option (Out × St) := none
noncomputable def codeK : Code → CM := Code.rec (motive := fun _ => CM) cSkip cRegion cSeq cCond cBlock cLoop cRange cExit cScope cLabel cGoto cRet cRefuse

def tScope (cur body : Code) (fr : Fr) (_T : Tab) (_summ : Summ) (rec : Rec) (s : St) : Option (Out × St) := match code rec cur fr s with
  | some (.goto l, fr, s) => match findLabel body l with
    | some rest => rec (.scope rest body fr) s
    | none => some (.code (.goto l) fr, s)
  | r => out r
def tLoop (b : Code) (fr : Fr) (_T : Tab) (_summ : Summ) (rec : Rec) (s : St) : Option (Out × St) := match code rec b fr s with
  | some (.normal, fr, s) => rec (.loop b fr) s
  | r => out r
noncomputable def tCall (f : FuncId) (args : List Value) (T : Tab) (_summ : Summ) (rec : Rec) (s : St) : Option (Out × St) := match get2 T.fn f with
  | some fn => match fn.body with
    | some c => match code rec c (frameOf f fn args none) s with
      | some (.normal, fr, s) => rec (.leave fn fr.tmps fr.defers .returning) s
      | some (.ret, fr, s) => rec (.leave fn fr.tmps fr.defers .returning) s
      | some (.panic ch, fr, s) => rec (.leave fn fr.tmps fr.defers (.panicking ch)) s
      | _ => none
    | none => none
  | none => none
def tCallD (f : FuncId) (args : List Value) (u : FrameMode) (T : Tab) (summ : Summ) (rec : Rec) (s : St) : Option (Out × St) := stepA T summ rec (.callD f args u) s
def tLeave (fn : Func) (tmps : Tr Value) (ds : List Deferred) (u : FrameMode) (T : Tab) (summ : Summ) (rec : Rec) (s : St) : Option (Out × St) := match ds with
  | [] => match u with
    | .returning => match results T fn tmps s with
      | some v => some (.res (.ret v), s)
      | none => none
    | .panicking ch => some (.res (.panic ch), s)
    | .run => none
  | _ :: _ => stepA T summ rec (.leave fn tmps ds u) s
noncomputable def tCode (c : Code) (fr : Fr) (T : Tab) (summ : Summ) (rec : Rec) (s : St) : Option (Out × St) := codeK c T summ rec fr s
noncomputable def stepK : Task → Tab → Summ → Rec → St → Option (Out × St) := Task.rec (motive := fun _ => Tab → Summ → Rec → St → Option (Out × St)) tCode tScope tLoop tCall tCallD tLeave

theorem stepK_eq (T : Tab) (summ : Summ) (rec : Rec) (t : Task) (s : St) : stepK t T summ rec s = stepA T summ rec t s := by
  cases t with
  | code c fr =>
    cases c with
    | region id ops dr =>
      cases dr with
      | false => show out (runOps2 ops.toList T summ rec ops.toList fr s) = _; rw [runOps2_eq]; rfl
      | true => show out (regionDraw2 T summ rec ops.toList fr s) = _; rw [regionDraw2_eq]; rfl
    | cond c a b =>
      show cCond c a b (codeK a) (codeK b) T summ rec fr s = _
      unfold cCond
      rw [eval2_eq]; rfl
    | _ => rfl
  | call f args =>
    show tCall f args T summ rec s = _
    unfold tCall
    rw [get2_eq]; rfl
  | leave fn tmps ds u => cases ds <;> rfl
  | _ => rfl

noncomputable def ev2 (T : Tab) (summ : Summ) (n : Nat) : Task → St → Option (Out × St) :=
  Nat.rec (motive := fun _ => Task → St → Option (Out × St)) (fun _ _ => none) (fun _ ih t s => stepK t T summ ih s) n
theorem ev2_eq (T : Tab) (summ : Summ) : ∀ n, ev2 T summ n = ev T summ n
  | 0 => rfl
  | n + 1 => by
    funext t s
    show stepK t T summ (ev2 T summ n) s = stepA T summ (ev T summ n) t s
    rw [ev2_eq T summ n, stepK_eq]
end

section
/-! ## calls in parts -/

open Classical in
theorem HRel.frame2 {ρ ρ' : Rho} {h : Hp} {w w' : World} {pre s' : St} (X : Nat → Prop) (hr : HRel ρ h w) (hsub : Sub pre h) (hp : Post ρ pre w ρ' s' w')
    (hle : ρ.le ρ') (hX : ∀ i, X i → pre.heap.get i = none) : HRel ρ' (fun i => if X i then h i else s'.heap.get i) w' := by
  have notown : ∀ i o b, X i → h i = some (.rw o) → ρ i = some b → ¬ owned ρ pre.heap.get b.blk := by
    rintro i o b hx hi hb ⟨j, o2, b2, h1, h2, h3⟩
    have := hr.apart j i o2 o b2 b (hsub _ _ h1) hi h2 hb h3
    subst this
    rw [hX _ hx] at h1; cases h1
  have notownR : ∀ i c b, h i = some (.ro c) → ρ i = some b → ¬ owned ρ pre.heap.get b.blk := by
    rintro i c b hi hb ⟨j, o2, b2, h1, h2, h3⟩
    exact hr.roApart j i o2 c b2 b (hsub _ _ h1) hi h2 hb h3
  have inX : ∀ i o b, X i → h i = some (.rw o) → ρ' i = some b → ρ i = some b ∧ b.blk < w.heap.size ∧ ¬ owned ρ pre.heap.get b.blk := by
    intro i o b hx hi hb
    obtain ⟨b1, o1, h1, h2, _⟩ := hr.rw i o hi
    have := hle _ _ h1
    rw [hb] at this; cases this
    exact ⟨h1, (Array.getElem?_eq_some_iff.1 h2).1, notown i o b hx hi h1⟩
  have inXR : ∀ i c b, h i = some (.ro c) → ρ' i = some b → ρ i = some b ∧ b.blk < w.heap.size ∧ ¬ owned ρ pre.heap.get b.blk := by
    intro i c b hi hb
    obtain ⟨b1, c1, e1, f1, h1, h2, _⟩ := hr.ro i c hi
    have := hle _ _ h1
    rw [hb] at this; cases this
    exact ⟨h1, (Array.getElem?_eq_some_iff.1 h2).1, notownR i c b hi h1⟩
  have outX : ∀ j o b, s'.heap.get j = some (.rw o) → ρ' j = some b → w.heap.size ≤ b.blk ∨ owned ρ pre.heap.get b.blk := fun j o b hj hb => hp.own _ ⟨j, o, b, hj, hb, rfl⟩
  refine ⟨fun i o hi => ?_, fun i c hi => ?_, fun i j o o' b b' hi hj hb hb' he => ?_, fun i j o c b b' hi hj hb hb' he => ?_⟩
  · by_cases hx : X i
    · simp only [hx, if_true] at hi
      obtain ⟨b, o', h1, h2, h3⟩ := hr.rw i o hi
      refine ⟨b, o', hle _ _ h1, ?_, h3.mono hle⟩
      rw [hp.kept.block _ (Array.getElem?_eq_some_iff.1 h2).1 (notown i o b hx hi h1)]; exact h2
    · simp only [hx, if_false] at hi
      exact hp.rel.heap.rw i o hi
  · by_cases hx : X i
    · simp only [hx, if_true] at hi
      obtain ⟨b, c', e, f, h1, h2, h3⟩ := hr.ro i c hi
      refine ⟨b, c', e, f, hle _ _ h1, ?_, h3.mono hle⟩
      rw [hp.kept.block _ (Array.getElem?_eq_some_iff.1 h2).1 (notownR i c b hi h1)]; exact h2
    · simp only [hx, if_false] at hi
      exact hp.rel.heap.ro i c hi
  · by_cases hx : X i <;> by_cases hy : X j
    · simp only [hx, hy, if_true] at hi hj
      exact hr.apart i j o o' b b' hi hj (inX i o b hx hi hb).1 (inX j o' b' hy hj hb').1 he
    · simp only [hx, hy, if_true, if_false] at hi hj
      obtain ⟨_, h2, h3⟩ := inX i o b hx hi hb
      rcases outX j o' b' hj hb' with h4 | h4
      · rw [← he] at h4; omega
      · rw [← he] at h4; exact absurd h4 h3
    · simp only [hx, hy, if_true, if_false] at hi hj
      obtain ⟨_, h2, h3⟩ := inX j o' b' hy hj hb'
      rcases outX i o b hi hb with h4 | h4
      · rw [he] at h4; omega
      · rw [he] at h4; exact absurd h4 h3
    · simp only [hx, hy, if_false] at hi hj
      exact hp.rel.heap.apart i j o o' b b' hi hj hb hb' he
  · have hj' : h j = some (.ro c) := by
      by_cases hy : X j
      · simp only [hy, if_true] at hj; exact hj
      · simp only [hy, if_false] at hj; exact hsub _ _ (hp.old _ _ hj)
    obtain ⟨g1, g2, g3⟩ := inXR j c b' hj' hb'
    by_cases hx : X i
    · simp only [hx, if_true] at hi
      obtain ⟨h1, h2, h3⟩ := inX i o b hx hi hb
      exact hr.roApart i j o c b b' hi hj' h1 g1 he
    · simp only [hx, if_false] at hi
      rcases outX i o b hi hb with h4 | h4
      · rw [he] at h4; omega
      · rw [he] at h4; exact g3 h4

open Classical in
/-- a call in a greater heap -/
theorem CallOk.frame {P : Program} {f : FuncId} {args : List Value} {s s1 S S1 : St} {r : Res} (h : CallOk P f args s r s1) (hsub : Sub s S.heap.get) (hn : s.next = S.next) (hn1 : S1.next = s1.next)
    (hS : ∀ i x, S1.heap.get i = some x → s1.heap.get i = some x ∨ (s.heap.get i = none ∧ S.heap.get i = some x) ∨ (x = .dead ∧ s.heap.get i ≠ none)) : CallOk P f args S r S1 := by
  intro ρ w args' cs hs ha
  have hsr : SRel ρ s w := by
    refine ⟨hs.heap.sub fun j x hj => ⟨fun y _ => hsub j x hj, fun y _ => hsub j x hj⟩, fun i hi => hs.fresh i (by omega), fun i hi => ?_⟩
    cases hg : s.heap.get i with
    | none => rfl
    | some x =>
      have := hsub i x hg
      rw [hs.none i (by omega)] at this; cases this
  obtain ⟨ρ', w', fr, e, hp, hr, hst, hl, hfn⟩ := h ρ w args' cs hsr ha
  have hle := hp.le hsr
  let X : Nat → Prop := fun i => s.heap.get i = none ∧ i < S.next
  have hX : ∀ i, X i → s1.heap.get i = none := fun i hx => hp.gone i (by rw [hn]; exact hx.2) hx.1
  have lt : ∀ i x, S.heap.get i = some x → i < S.next := fun i x hi => by
    rcases Nat.lt_or_ge i S.next with h | h
    · exact h
    · rw [hs.none i h] at hi; cases hi
  have hH := HRel.frame2 X hs.heap hsub hp hle (fun i hx => hx.1)
  have hin : ∀ i x, S1.heap.get i = some x → x ≠ .dead → (if X i then S.heap.get i else s1.heap.get i) = some x := by
    intro i x hi hd
    rcases hS i x hi with h1 | ⟨h1, h2⟩ | ⟨h1, _⟩
    · by_cases hx : X i
      · rw [hX i hx] at h1; cases h1
      · rw [if_neg hx]; exact h1
    · rw [if_pos ⟨h1, lt i x h2⟩]; exact h2
    · exact absurd h1 hd
  have hin2 : ∀ i x, S1.heap.get i = some x → x ≠ .dead → (@ite (Option AObj) (X i) (Classical.propDecidable _) (S.heap.get i) (s1.heap.get i)) = some x := by
    intro i x hi hd
    have := hin i x hi hd
    by_cases hx : X i
    · rw [if_pos hx] at this ⊢; exact this
    · rw [if_neg hx] at this ⊢; exact this
  refine ⟨ρ', w', fr, e, ⟨fun i hi => hp.same i (by omega), ⟨hH.sub fun i x hi => ⟨fun y hy => (hin2 i x hi (by rw [hy]; simp)), fun y hy => (hin2 i x hi (by rw [hy]; simp))⟩, fun i hi => hp.rel.fresh i (by omega), fun i hi => ?_⟩,
    ⟨hp.kept.os, hp.kept.tape, hp.kept.output, hp.kept.size, fun k hk hno => hp.kept.block k hk fun ⟨i, o, b, h1, h2, h3⟩ => hno ⟨i, o, b, hsub _ _ h1, h2, h3⟩⟩, fun k hk => ?_, by have := hp.next; omega, fun i hi h0 => ?_, fun i c hi => ?_⟩, hr, hst, hl, hfn⟩
  · have hn2 := hp.next
    cases hg : S1.heap.get i with
    | none => rfl
    | some x =>
      rcases hS i x hg with h1 | ⟨h1, h2⟩ | ⟨_, h1⟩
      · rw [hp.rel.none i (by omega)] at h1; cases h1
      · have := lt i x h2; omega
      · exact absurd (hsr.none i (by omega)) h1
  · obtain ⟨i, o, b, h1, h2, h3⟩ := hk
    rcases hS i _ h1 with g | ⟨g1, g2⟩ | ⟨g, _⟩
    · rcases hp.own k ⟨i, o, b, g, h2, h3⟩ with h4 | ⟨j, o2, b2, k1, k2, k3⟩
      · exact .inl h4
      · exact .inr ⟨j, o2, b2, hsub _ _ k1, k2, k3⟩
    · obtain ⟨b1, o1, k1, _, _⟩ := hs.heap.rw i o g2
      have := hle _ _ k1
      rw [h2] at this; cases this
      exact .inr ⟨i, o, b, g2, k1, h3⟩
    · cases g
  · have hs0 : s.heap.get i = none := by
      cases hg : s.heap.get i with
      | none => rfl
      | some x =>
        have := hsub i x hg
        rw [h0] at this; cases this
    cases hg : S1.heap.get i with
    | none => rfl
    | some x =>
      rcases hS i x hg with h1 | ⟨h1, h2⟩ | ⟨_, h1⟩
      · rw [hp.gone i (by omega) hs0] at h1; cases h1
      · rw [h0] at h2; cases h2
      · exact absurd hs0 h1
  · rcases hS i _ hi with h1 | ⟨_, h2⟩ | ⟨h1, _⟩
    · exact hsub _ _ (hp.old i c h1)
    · exact h2
    · cases h1

/-- less is told of what comes out -/
theorem CallOk.prune {P : Program} {f : FuncId} {args : List Value} {s s1 s2 : St} {r : Res} (h : CallOk P f args s r s1) (hn : s2.next = s1.next) (hs : ∀ i x, s2.heap.get i = some x → s1.heap.get i = some x) : CallOk P f args s r s2 := by
  intro ρ w args' cs hsr ha
  obtain ⟨ρ', w', fr, e, hp, hr, hst, hl, hfn⟩ := h ρ w args' cs hsr ha
  refine ⟨ρ', w', fr, e, ⟨hp.same, ⟨hp.rel.heap.sub fun i x hi => ⟨fun y _ => hs i x hi, fun y _ => hs i x hi⟩, fun i hi => hp.rel.fresh i (by omega), fun i hi => ?_⟩, hp.kept, fun k hk => ?_, by have := hp.next; omega, fun i hi h0 => ?_, fun i c hi => hp.old i c (hs i _ hi)⟩, hr, hst, hl, hfn⟩
  · cases hg : s2.heap.get i with
    | none => rfl
    | some x =>
      have := hs i x hg
      rw [hp.rel.none i (by omega)] at this; cases this
  · obtain ⟨i, o, b, h1, h2, h3⟩ := hk
    exact hp.own k ⟨i, o, b, hs i _ h1, h2, h3⟩
  · cases hg : s2.heap.get i with
    | none => rfl
    | some x =>
      have := hs i x hg
      rw [hp.gone i hi h0] at this; cases this

/-! ## what is told of a call, word by word -/
def meqL : List MapEntry → List MapEntry → Bool
  | [], [] => true
  | a :: x, b :: y => veq a.key b.key && veq a.val b.val && Nat.beq a.born b.born && meqL x y
  | _, _ => false
def oeq : Obj → Obj → Bool
  | .cells ⟨a⟩ e (l, h), .cells ⟨b⟩ e' (l', h') => veqL a b && Nat.beq e e' && Nat.beq l l' && Nat.beq h h'
  | .map ⟨a⟩ c, .map ⟨b⟩ d => meqL a b && Nat.beq c d
  | _, _ => false
theorem meqL_sound : ∀ {a b : List MapEntry}, meqL a b = true → a = b
  | [], [], _ => rfl
  | [], _ :: _, h => by simp [meqL] at h
  | _ :: _, [], h => by simp [meqL] at h
  | ⟨k, v, n⟩ :: a, ⟨k', v', n'⟩ :: b, h => by
    simp only [meqL, Bool.and_eq_true] at h
    rw [veq_sound _ _ h.1.1.1, veq_sound _ _ h.1.1.2, Nat.eq_of_beq_eq_true h.1.2, meqL_sound h.2]
theorem oeq_sound {a b : Obj} (h : oeq a b = true) : a = b := by
  unfold oeq at h
  split at h
  · simp only [Bool.and_eq_true] at h
    rw [veqL_sound _ _ h.1.1.1, Nat.eq_of_beq_eq_true h.1.1.2, Nat.eq_of_beq_eq_true h.1.2, Nat.eq_of_beq_eq_true h.2]
  · simp only [Bool.and_eq_true] at h
    rw [meqL_sound h.1, Nat.eq_of_beq_eq_true h.2]
  · cases h

def lays : List (Nat × Obj) → Tr AObj → Tr AObj
  | [], t => t
  | (i, o) :: l, t => (lays l t).put i (.rw o)
def kills : List (Nat × Obj) → Tr AObj → Tr AObj
  | [], t => t
  | (i, _) :: l, t => (kills l t).put i .dead
def fits : List (Nat × Obj) → St → Bool
  | [], _ => true
  | (i, o) :: l, S => match S.heap.get i with
    | some (.rw o') => (match oeq o' o with
      | true => fits l S
      | false => false)
    | _ => false
theorem fits_sound {S : St} : ∀ {l : List (Nat × Obj)}, fits l S = true → ∀ i x, (lays l .nil).get i = some x → S.heap.get i = some x
  | [], _, i, x, hx => by cases hx
  | (j, o) :: l, h, i, x, hx => by
    simp only [fits] at h
    split at h
    · rename_i o' ho
      split at h
      · rename_i hoe
        simp only [lays, Tr.get_put] at hx
        split at hx
        · rename_i hij
          subst hij
          rw [oeq_sound hoe] at ho
          rw [ho, hx]
        · exact fits_sound h i x hx
      · cases h
    · cases h
theorem lays_get {i : Nat} {x : AObj} : ∀ {l : List (Nat × Obj)} {t : Tr AObj}, (lays l t).get i = some x → (lays l .nil).get i = some x ∨ ((lays l .nil).get i = none ∧ t.get i = some x)
  | [], t, h => .inr ⟨rfl, h⟩
  | (j, o) :: l, t, h => by
    simp only [lays, Tr.get_put] at h ⊢
    by_cases hij : i = j
    · rw [if_pos hij] at h ⊢; exact .inl h
    · rw [if_neg hij] at h ⊢; exact lays_get h
theorem kills_get {i : Nat} {x : AObj} : ∀ {l : List (Nat × Obj)} {t : Tr AObj}, (kills l t).get i = some x → (x = .dead ∧ (lays l .nil).get i ≠ none) ∨ ((lays l .nil).get i = none ∧ t.get i = some x)
  | [], t, h => .inr ⟨rfl, h⟩
  | (j, o) :: l, t, h => by
    simp only [lays, kills, Tr.get_put] at h ⊢
    by_cases hij : i = j
    · rw [if_pos hij] at h ⊢
      simp only [Option.some.injEq] at h
      exact .inl ⟨h.symm, by simp⟩
    · rw [if_neg hij] at h ⊢; exact kills_get h

structure Chk where
  f : FuncId
  args : List Value
  pre : List (Nat × Obj)
  n0 : Nat
  res : Value
  post : List (Nat × Obj)
  n1 : Nat
def Chk.s0 (c : Chk) : St := { heap := lays c.pre .nil, next := c.n0 }
def Chk.s1 (c : Chk) : St := { heap := lays c.post .nil, next := c.n1 }
def Chk.Ok (T : Tab) (c : Chk) : Prop := CallOk T.P c.f c.args c.s0 (.ret c.res) c.s1 ∧ ∃ fn, T.fn.get c.f = some fn ∧ fn.body.isSome = true
def Chk.app (c : Chk) (args : List Value) (S : St) : Option (Res × St) := match veqL args c.args && fits c.pre S with
  | true => some (.ret c.res, { heap := lays c.post (kills c.pre S.heap), next := c.n1 })
  | false => none
/-- the one that begins there -/
def chks : List Chk → FuncId → List Value → St → Option (Res × St)
  | [], _, _, _ => none
  | c :: l, f, args, S => match Nat.beq c.n0 S.next && Nat.beq c.f f with
    | true => c.app args S
    | false => chks l f args S
def anyF (f : FuncId) : List Chk → Bool
  | [] => false
  | c :: l => match Nat.beq c.f f with
    | true => true
    | false => anyF f l
def summOf (l : List Chk) : Summ := fun f => match anyF f l with
  | true => some (chks l f)
  | false => none

theorem Chk.app_ok {T : Tab} {c : Chk} (h : c.Ok T) {args : List Value} {S S' : St} {r : Res} (hn : S.next = c.n0) (ha : c.app args S = some (r, S')) : CallOk T.P c.f args S r S' := by
  unfold Chk.app at ha
  split at ha
  case h_2 => cases ha
  rename_i hb
  simp only [Bool.and_eq_true] at hb
  simp only [Option.some.injEq, Prod.mk.injEq] at ha
  obtain ⟨rfl, rfl⟩ := ha
  rw [veqL_sound _ _ hb.1]
  have hf := fits_sound hb.2
  refine h.1.frame (fun i x hx => hf i x hx) hn.symm rfl fun i x hx => ?_
  rcases lays_get hx with h1 | ⟨_, h1⟩
  · exact .inl h1
  · rcases kills_get h1 with h2 | h2
    · exact .inr (.inr h2)
    · exact .inr (.inl h2)
theorem chks_ok {T : Tab} {f : FuncId} {args : List Value} {s s' : St} {r : Res} : ∀ {l : List Chk}, (∀ c ∈ l, c.Ok T) → chks l f args s = some (r, s') → CallOk T.P f args s r s' ∧ ∃ fn, T.fn.get f = some fn ∧ fn.body.isSome = true
  | [], _, hgs => by cases hgs
  | c :: l, h, hgs => by
    simp only [chks] at hgs
    split at hgs
    · rename_i hb
      simp only [Bool.and_eq_true] at hb
      have h1 := Nat.eq_of_beq_eq_true hb.1
      have h2 := Nat.eq_of_beq_eq_true hb.2
      subst h2
      exact ⟨Chk.app_ok (h c (by simp)) h1.symm hgs, (h c (by simp)).2⟩
    · exact chks_ok (fun c hc => h c (by simp [hc])) hgs
theorem summOf_ok {T : Tab} {l : List Chk} (h : ∀ c ∈ l, c.Ok T) : SummOk T (summOf l) := by
  intro f g args s r s' hg hgs
  unfold summOf at hg
  split at hg
  case h_2 => cases hg
  simp only [Option.some.injEq] at hg
  subst hg
  exact chks_ok h hgs

/-- the kernel's run -/
noncomputable def Chk.run (T : Tab) (summ : Summ) (fuel : Nat) (c : Chk) : Bool := match ev2 T summ fuel (.call c.f c.args) c.s0 with
  | some (.res (.ret v), s) => (match veq v c.res && Nat.beq s.next c.n1 && fits c.post s with
    | true => (match T.fn.get c.f with
      | some fn => fn.body.isSome
      | none => false)
    | false => false)
  | _ => false
theorem Chk.run_ok {T : Tab} {summ : Summ} {fuel : Nat} {c : Chk} (hT : TabOk T) (hs : SummOk T summ) (h : c.run T summ fuel = true) : c.Ok T := by
  unfold Chk.run at h
  split at h
  case h_2 => cases h
  rename_i v s hev
  split at h
  case h_2 => cases h
  rename_i hb
  simp only [Bool.and_eq_true] at hb
  rw [ev2_eq] at hev
  have hc := ev_sound hT hs _ _ _ _ _ hev
  simp only [TaskOk] at hc
  rw [veq_sound _ _ hb.1.1] at hc
  refine ⟨hc.prune (Nat.eq_of_beq_eq_true hb.1.2).symm fun i x hx => fits_sound hb.2 i x hx, ?_⟩
  split at h
  · rename_i fn hf
    exact ⟨fn, hf, h⟩
  · cases h
end

section
/-! ## one frame, step by step -/
section
variable (T : Tab) (summ : Summ) (rec : Rec)
def stepF (todo : List Item) (fr : Fr) (s : St) : Option (List Item × Fr × St) := match todo with
  | .code c :: k => (match c with
    | .skip => some (k, fr, s)
    | .label _ => some (k, fr, s)
    | .seq a b => some (.code a :: .code b :: k, fr, s)
    | .cond c a b => (match allOk [c], fr.eval c with
      | true, .bool true => some (.code a :: k, fr, s)
      | true, .bool false => some (.code b :: k, fr, s)
      | _, _ => none)
    | .block id b => some (.code b :: .inBlock id :: k, fr, s)
    | .loop b => some (.code b :: .inLoop b :: k, fr, s)
    | .exit id => (match exitTo id k with
      | some k' => some (k', fr, s)
      | none => none)
    | .region _id ops false => some (.inRegion ops (List.range ops.size) :: k, fr, s)
    | .region id ops true => (match rec (.code (.region id ops true) fr) s with
      | some (.code .normal fr, s) => some (k, fr, s)
      | _ => none)
    | _ => none)
  | .inBlock _ :: k => some (k, fr, s)
  | .inScope _ :: k => some (k, fr, s)
  | .inLoop b :: k => some (.code b :: .inLoop b :: k, fr, s)
  | .inRegion _ [] :: k => some (k, fr, s)
  | .inRegion ops (i :: rest) :: k => (match nth ops.toList i with
    | some o => (match allOk o.op.operands.toList, wantedA ops.toList o fr with
      | true, some true => (match doOp T summ rec o fr s with
        | some (.value v fr s) => (match fr.put o.dst v with
          | some fr => some (.inRegion ops rest :: k, fr, s)
          | none => none)
        | _ => none)
      | true, some false => (match fr.put o.dst (.tuple #[]) with
        | some fr => some (.inRegion ops rest :: k, fr, s)
        | none => none)
      | _, _ => none)
    | none => none)
  | _ => none
end
def runF (T : Tab) (summ : Summ) (rec : Rec) : Nat → List Item → Fr → St → Option (List Item × Fr × St)
  | 0, todo, fr, s => some (todo, fr, s)
  | n + 1, todo, fr, s => match stepF T summ rec todo fr s with
    | some (todo, fr, s) => runF T summ rec n todo fr s
    | none => none

def FOk (P : Program) (todo : List Item) (fr : Fr) (s : St) (todo' : List Item) (fr' : Fr) (s' : St) : Prop :=
  ∀ (ρ : Rho) (w : World) (b : Frame) (a : Act) (X : Cx) (m : FrameMode), SRel ρ s w → FrRel ρ fr b a X m →
    ∃ ρ' w' a' m', Post ρ s w ρ' s' w' ∧ FrRel ρ' fr' b a' X m' ∧ Steps P (lone (b.atR a todo) (X.at m) w) (lone (b.atR a' todo') (X.at m') w')

section
variable {T : Tab} {summ : Summ} {rec : Rec}
theorem FOk.same {P : Program} {todo todo' : List Item} {fr : Fr} {s : St} (h : ∀ (w : World) (b : Frame) (a : Act) (cs : List Frame), step P (lone (b.atR a todo) cs w) = .next (lone (b.atR a todo') cs w)) : FOk P todo fr s todo' fr s :=
  fun ρ w b a _X m hs hf => ⟨ρ, w, a, m, Post.refl hs, hf, .one (h w b a _)⟩

theorem stepF_sound (hT : TabOk T) (hs : SummOk T summ) (hrec : ∀ t s o s', rec t s = some (o, s') → TaskOk T t s o s') {todo todo' : List Item} {fr fr' : Fr} {s s' : St}
    (h : stepF T summ rec todo fr s = some (todo', fr', s')) : FOk T.P todo fr s todo' fr' s' := by
  unfold stepF at h
  split at h
  · rename_i c k
    split at h
    · simp only [Option.some.injEq, Prod.mk.injEq] at h; obtain ⟨rfl, rfl, rfl⟩ := h
      exact .same fun w b a cs => stepR_skip
    · simp only [Option.some.injEq, Prod.mk.injEq] at h; obtain ⟨rfl, rfl, rfl⟩ := h
      exact .same fun w b a cs => stepR_label
    · simp only [Option.some.injEq, Prod.mk.injEq] at h; obtain ⟨rfl, rfl, rfl⟩ := h
      exact .same fun w b a cs => stepR_seq
    · rename_i c x y
      split at h
      · rename_i hok hv
        simp only [Option.some.injEq, Prod.mk.injEq] at h; obtain ⟨rfl, rfl, rfl⟩ := h
        intro ρ w b a X m hs hf
        have hc := hf.ev hok c (by simp)
        rw [hv] at hc
        exact ⟨ρ, w, a, m, Post.refl hs, hf, .one (stepR_cond (t := true) hc.bool)⟩
      · rename_i hok hv
        simp only [Option.some.injEq, Prod.mk.injEq] at h; obtain ⟨rfl, rfl, rfl⟩ := h
        intro ρ w b a X m hs hf
        have hc := hf.ev hok c (by simp)
        rw [hv] at hc
        exact ⟨ρ, w, a, m, Post.refl hs, hf, .one (stepR_cond (t := false) hc.bool)⟩
      · cases h
    · simp only [Option.some.injEq, Prod.mk.injEq] at h; obtain ⟨rfl, rfl, rfl⟩ := h
      exact .same fun w b a cs => stepR_block
    · simp only [Option.some.injEq, Prod.mk.injEq] at h; obtain ⟨rfl, rfl, rfl⟩ := h
      exact .same fun w b a cs => stepR_loop
    · split at h
      · rename_i hk
        simp only [Option.some.injEq, Prod.mk.injEq] at h; obtain ⟨rfl, rfl, rfl⟩ := h
        exact .same fun w b a cs => stepR_exit hk
      · cases h
    · simp only [Option.some.injEq, Prod.mk.injEq] at h; obtain ⟨rfl, rfl, rfl⟩ := h
      exact .same fun w b a cs => stepR_region
    · split at h
      · rename_i hr
        simp only [Option.some.injEq, Prod.mk.injEq] at h; obtain ⟨rfl, rfl, rfl⟩ := h
        have w1 := hrec _ _ _ _ hr
        intro ρ w b a X m hs hf
        exact w1 ρ w b a X m _ hs hf
      · cases h
    · cases h
  · simp only [Option.some.injEq, Prod.mk.injEq] at h; obtain ⟨rfl, rfl, rfl⟩ := h
    exact .same fun w b a cs => stepR_inBlock
  · simp only [Option.some.injEq, Prod.mk.injEq] at h; obtain ⟨rfl, rfl, rfl⟩ := h
    exact .same fun w b a cs => stepR_inScope
  · simp only [Option.some.injEq, Prod.mk.injEq] at h; obtain ⟨rfl, rfl, rfl⟩ := h
    exact .same fun w b a cs => stepR_inLoop
  · simp only [Option.some.injEq, Prod.mk.injEq] at h; obtain ⟨rfl, rfl, rfl⟩ := h
    exact .same fun w b a cs => stepR_region_end
  · rename_i ops i rest k
    split at h
    case h_2 => cases h
    rename_i o ho
    rw [nth_eq, Array.getElem?_toList] at ho
    split at h
    · rename_i hok hw
      split at h
      case h_2 => cases h
      rename_i v fr1 s1 hd
      split at h
      case h_2 => cases h
      rename_i fr2 hput
      simp only [Option.some.injEq, Prod.mk.injEq] at h; obtain ⟨rfl, rfl, rfl⟩ := h
      intro ρ w b a X m hsr hfr
      have := doOp_sound hT hs hrec hok hd ρ w b a X m ops i rest k hsr hfr ho (hfr.wanted hw)
      obtain ⟨ρ1, w1, a1, m1, v', hp1, hf1, hv, _, hst⟩ := this
      exact ⟨ρ1, w1, _, m1, hp1, hf1.put hv hput, hst⟩
    · rename_i hok hw
      split at h
      case h_2 => cases h
      rename_i fr2 hput
      simp only [Option.some.injEq, Prod.mk.injEq] at h; obtain ⟨rfl, rfl, rfl⟩ := h
      intro ρ w b a X m hsr hfr
      have hwt := hfr.wanted hw
      refine ⟨ρ, w, _, m, Post.refl hsr, hfr.put undef_rel hput, .one ?_⟩
      have := stepR_op_skip (P := T.P) (b := b) (a := a) (k := k) (cs := X.at m) (w := w) (ops := ops) (i := i) (rest := rest) (by rw [ho]; simpa using hwt)
      rw [ho] at this
      exact this
    · cases h
  · cases h

theorem runF_sound (hT : TabOk T) (hs : SummOk T summ) (hrec : ∀ t s o s', rec t s = some (o, s') → TaskOk T t s o s') : ∀ (n : Nat) {todo todo' : List Item} {fr fr' : Fr} {s s' : St},
    runF T summ rec n todo fr s = some (todo', fr', s') → FOk T.P todo fr s todo' fr' s'
  | 0, todo, todo', fr, fr', s, s', h => by
    simp only [runF, Option.some.injEq, Prod.mk.injEq] at h
    obtain ⟨rfl, rfl, rfl⟩ := h
    exact fun ρ w b a X m hs hf => ⟨ρ, w, a, m, Post.refl hs, hf, Steps.refl _ _⟩
  | n + 1, todo, todo', fr, fr', s, s', h => by
    simp only [runF] at h
    split at h
    case h_2 => cases h
    rename_i todo1 fr1 s1 h1
    have k1 := stepF_sound hT hs hrec h1
    have k2 := runF_sound hT hs hrec n h
    intro ρ w b a X m hs hf
    obtain ⟨ρ1, w1, a1, m1, hp1, hf1, hst1⟩ := k1 ρ w b a X m hs hf
    obtain ⟨ρ2, w2, a2, m2, hp2, hf2, hst2⟩ := k2 ρ1 w1 b a1 X m1 hp1.rel hf1
    exact ⟨ρ2, w2, a2, m2, hp1.trans hp2, hf2, hst1.trans hst2⟩

/-- a call, when its frame comes to its end -/
theorem call_of_frame (hT : TabOk T) {f : FuncId} {fn : Func} {c : Code} (hf : T.fn.get f = some fn) (hb : fn.body = some c) {args : List Value} {s s1 : St} {v : Value}
    (h : ∀ (ρ : Rho) (w : World) (args' : List Value) (cs : List Frame), SRel ρ s w → VRelL ρ args args' →
      ∃ (ρ' : Rho) (w' : World) (a' : Act) (k : List Item) (_fr : Fr) (v' : Value), Post ρ s w ρ' s1 w' ∧ VRel ρ' v v' ∧ a'.defers = [] ∧ (Go.results fn a'.tmps).run T.P w' = .ok v' w' ∧
        Steps T.P (lone (Frame.atR { (default : Frame) with fn := f, kind := .normal, roundOf := none } { tmps := (⟨args'⟩ : Array Value) ++ Array.replicate (fn.ntmps - (⟨args'⟩ : Array Value).size) undef, defers := [] } [.code c]) cs w)
          (lone (Frame.atR { (default : Frame) with fn := f, kind := .normal, roundOf := none } a' (.code .ret :: k)) cs w')) : CallOk T.P f args s (.ret v) s1 := by
  intro ρ w args' cs hs ha
  obtain ⟨ρ', w', a', k, fr, v', hp, hv, hd, hr, hst⟩ := h ρ w args' cs hs ha
  refine ⟨ρ', w', { (Frame.atR { (default : Frame) with fn := f, kind := .normal, roundOf := none } a' (.code .ret :: k)) with mode := .returning }, .returned v', hp, hv, ?_, ⟨rfl, hd, rfl, fn, hT.fn _ _ hf, hr⟩, rfl⟩
  rw [enter_atR hT hf hb]
  exact hst.trans (.one (stepR_ret rfl))
end
end

section
/-- the first step over a map of two -/
theorem next_two {P : Program} {ρ : Rho} {s : St} {w : World} {r m since last clock : Nat} {e1 e2 : MapEntry} {t : TypeId} {x' : Value} (hs : SRel ρ s w) (hr : s.heap.get r = some (.rw (.mapIter (some m) since ⟨[]⟩ last)))
    (hm : s.heap.get m = some (.rw (.map ⟨[e1, e2]⟩ clock))) (h1 : e1.born < since) (h2 : e2.born < since) (hx : VRel ρ (.pointer (some ⟨r, 0, none⟩)) x') :
    ∃ e, (e = e1 ∨ e = e2) ∧ ∃ v' w', (Instr.next x' false t).run P w = .ok v' w' ∧ Post ρ s w ρ { s with heap := s.heap.put r (.rw (.mapIter (some m) since ⟨[e.born]⟩ clock)) } w' ∧
      VRel ρ (.tuple ⟨[.bool true, e.key, e.val]⟩) v' := by
  obtain ⟨br, or, hbr, hwr, hor⟩ := hs.heap.rw _ _ hr
  obtain ⟨bm, om, hbm, hwm, hom⟩ := hs.heap.rw _ _ hm
  obtain ⟨a', rfl, ha⟩ := hx.toPtr
  cases ha with
  | @mk _ _ b hb =>
  rw [hbr] at hb; cases hb
  cases hor with
  | @mapIter _ _ _ _ bm' hm' h0 =>
  rw [hbm] at hm'; cases hm'
  cases hom with
  | @map _ es' _ he h0' =>
  cases he with
  | @cons _ e1' _ l' k1 ht =>
  cases ht with
  | @cons _ e2' _ l'' k2 ht2 =>
  cases ht2
  have g1 : e1'.born < since := by rw [k1.born]; exact h1
  have g2 : e2'.born < since := by rw [k2.born]; exact h2
  have hleft : ((⟨[e1', e2']⟩ : Array MapEntry).filter fun e => !(⟨[]⟩ : Array Nat).contains e.born) = ⟨[e1', e2']⟩ := by
    apply Array.ext'; simp
  have hold : ((⟨[e1', e2']⟩ : Array MapEntry).filter fun e => decide (e.born < since)) = ⟨[e1', e2']⟩ := by
    apply Array.ext'; simp [g1, g2]
  have hnew : ((⟨[e1', e2']⟩ : Array MapEntry).filter fun e => decide (e.born ≥ since)) = ⟨[]⟩ := by
    apply Array.ext'; simp [g1, g2]
  have hcand : ((if (⟨[e1', e2']⟩ : Array MapEntry).isEmpty = true then (#[none] : Array (Option MapEntry)) else #[]) ++ Array.map some ((⟨[e1', e2']⟩ : Array MapEntry) ++ ⟨[]⟩)) = #[some e1', some e2'] := by simp
  have fin : ∀ (e e' : MapEntry) (n : Nat), ERel ρ e e' → Post ρ s w ρ { s with heap := s.heap.put r (.rw (.mapIter (some m) since ⟨[e.born]⟩ clock)) } { w with heap := w.heap.setIfInBounds br.blk (.mapIter (some bm.blk) since ⟨[e'.born]⟩ clock), drawn := n } ∧
      VRel ρ (.tuple ⟨[.bool true, e.key, e.val]⟩) (.tuple #[.bool true, e'.key, e'.val]) := by
    intro e e' n k
    refine ⟨?_, .tuple (.cons (.atom rfl) (.cons (by rw [k.key]; exact keyOk_self k.ok) (.cons k.val .nil)))⟩
    have hp := Post.set hs hr hbr (o := .mapIter (some m) since ⟨[e.born]⟩ clock) (o' := .mapIter (some bm.blk) since ⟨[e'.born]⟩ clock) (by rw [k.born]; exact .mapIter hbm)
    exact hp.trans (Post.drew hp.rel n)
  have hrun : ∀ (e' : MapEntry) (n : Nat), (setObj br.blk (.mapIter (some bm.blk) since ((⟨[]⟩ : Array Nat).push e'.born) clock)).run P { w with drawn := n } = .ok () { w with heap := w.heap.setIfInBounds br.blk (.mapIter (some bm.blk) since ⟨[e'.born]⟩ clock), drawn := n } := by
    intro e' n
    have hw' : ({ w with drawn := n } : World).heap[br.blk]? = some (.mapIter (some bm.blk) since ⟨[]⟩ last) := hwr
    rw [run_setObj1 hw' rfl]
    rfl
  rw [h0]
  have main : ∃ e e' : MapEntry, ((e = e1 ∧ e' = e1') ∨ (e = e2 ∧ e' = e2')) ∧ (Instr.next (.pointer (some ⟨br.blk, 0 + 0, none⟩)) false t).run P w =
      .ok (.tuple #[.bool true, e'.key, e'.val]) { w with heap := w.heap.setIfInBounds br.blk (.mapIter (some bm.blk) since ⟨[e'.born]⟩ clock), drawn := w.drawn + 1 } := by
    simp only [Instr.next, bind_eq, pure_eq, Nat.add_zero]
    rw [run_bind_ok (run_getObj1 hwr rfl)]
    simp only
    rw [run_bind_ok (run_getObj1 hwm rfl)]
    have hemp : (!(⟨[]⟩ : Array Nat).isEmpty && !(⟨[e1', e2']⟩ : Array MapEntry).isEmpty && (⟨[e1', e2']⟩ : Array MapEntry).all fun x => decide (x.born ≥ last)) = false := rfl
    simp only [hemp, Bool.false_eq_true, if_false, hleft, hold, hnew, hcand, choose, Sem.bind]
    have hq : (Question.mapNext 2).forced = false := by decide
    have hcut : (Question.mapNext 2).cut (w.tape w.drawn (.mapNext 2)) = 0 ∨ (Question.mapNext 2).cut (w.tape w.drawn (.mapNext 2)) = 1 := by
      have : (Question.mapNext 2).cut (w.tape w.drawn (.mapNext 2)) = w.tape w.drawn (.mapNext 2) % 2 := rfl
      rw [this]; omega
    have hsz : (#[some e1', some e2'] : Array (Option MapEntry)).size = 2 := rfl
    rw [hsz]
    simp only [Sem.run, hq, Bool.false_eq_true, if_false]
    rcases hcut with h | h
    · refine ⟨e1, e1', .inl ⟨rfl, rfl⟩, ?_⟩
      rw [h]
      refine Eq.trans (run_bind_ok (hrun e1' (w.drawn + 1))) rfl
    · refine ⟨e2, e2', .inr ⟨rfl, rfl⟩, ?_⟩
      rw [h]
      refine Eq.trans (run_bind_ok (hrun e2' (w.drawn + 1))) rfl
  obtain ⟨e, e', hee, hmain⟩ := main
  rcases hee with ⟨rfl, rfl⟩ | ⟨rfl, rfl⟩
  · obtain ⟨p1, p2⟩ := fin _ _ (w.drawn + 1) k1
    exact ⟨_, .inl rfl, _, _, hmain, p1, p2⟩
  · obtain ⟨p1, p2⟩ := fin _ _ (w.drawn + 1) k2
    exact ⟨_, .inr rfl, _, _, hmain, p1, p2⟩

/-- nothing is told of what came out, and numbers are left out -/
theorem Post.drop {ρ ρ' : Rho} {s s1 : St} {w w' : World} (h : Post ρ s w ρ' s1 w') {N : Nat} (hn : s1.next ≤ N) : Post ρ s w ρ' { heap := .nil, next := N } w' where
  same := h.same
  rel := ⟨⟨fun i o hi => (by cases hi), fun i c hi => (by cases hi), fun i j o o' b b' hi => (by cases hi), fun i j o c b b' hi => (by cases hi)⟩, fun i hi => h.rel.fresh i (Nat.le_trans hn hi), fun _ _ => rfl⟩
  kept := h.kept
  own k hk := by obtain ⟨i, o, b, h1, _⟩ := hk; cases h1
  next := Nat.le_trans h.next hn
  gone _ _ _ := rfl
  old i c hc := by cases hc
end

section
variable {T : Tab} {ρ : Rho}

/-- `append(s[:0], make([]E, 2)...)` where there is room for one -/
theorem appendMake (hT : TabOk T) {t it rt e : TypeId} {k0 : IntKind} {z : Nat} {i : TypeInfo} {zero : Value} {a' : Addr} (hu : T.und t = some (.slice e)) (hit : T.und it = some (.int k0)) (hz : T.size e = some z) (hi : T.info e = some i)
    (hzero : T.zero e = some zero) (g1 : 1 ≤ z) (g3 : (lst zero).length = z) (hb : i.bytes ≤ 1000) (hk : known zero = true) :
    SR T.P VRel ρ (.new (.cells ⟨rep 2 (lst zero)⟩ e) fun r => .ret (.slice (some ⟨r, 0, none⟩) 2 (loose * z + 2))) (Builtin.append_ ⟨[t, it]⟩ rt #[.slice (some a') 0 1, .int .i64 (2 : Int)]) := by
  have e1 : (⟨[t, it]⟩ : Array TypeId)[0]? = some t := rfl
  have e2 : (#[.slice (some a') 0 1, .int .i64 (2 : Int)] : Array Value)[0]? = some (.slice (some a') 0 1) := rfl
  have e3 : (#[.slice (some a') 0 1, .int .i64 (2 : Int)] : Array Value)[1]? = some (.int .i64 (2 : Int)) := rfl
  have e4 : (⟨[t, it]⟩ : Array TypeId)[1]? = some it := rfl
  have hrep : ∀ j, (rep j (lst zero)).length = j * z := by
    intro j
    induction j with
    | zero => simp [rep]
    | succ j ih => simp only [rep, List.length_append, ih, g3, Nat.succ_mul]; omega
  have hzr : VRelL ρ (lst zero) (lst zero) := by
    have h1 := VRel.lst' (plain_rel (ρ := ρ) zero (Tab.zero_plain hzero)) hk
    rw [← lst_cells] at h1
    exact h1
  simp only [Builtin.append_, e1, e2, e3, e4, bind_eq, pure_eq]
  refine SR.und hT hu ?_
  refine SR.size hT hz ?_
  refine SR.und hT hit ?_
  simp only [Sem.bind, if_true]
  refine SR.step (a := (2 : Int)) (fun w => rfl) ?_
  have hw : IntKind.i64.wrap 2 = 2 := by decide
  simp only [hw]
  rw [if_neg (by decide)]
  refine SR.info hT hi ?_
  have h48i : (2 : Int) ^ 48 = 281474976710656 := by decide
  rw [if_neg (by rw [h48i]; omega)]
  have h2 : (2 : Int).toNat = 2 := rfl
  simp only [h2]
  · have hn : ¬ (0 + 2 ≤ 1) := by omega
    rw [if_neg hn]
    have hmx : IntKind.i64.max = 9223372036854775807 := by decide
    simp only [Nat.zero_add]
    have hfin : ∀ (newCap : Nat), 2 ≤ newCap → SR T.P VRel ρ (.new (.cells ⟨rep 2 (lst zero)⟩ e) fun r => .ret (.slice (some ⟨r, 0, none⟩) 2 (loose * z + 2)))
        ((newRow e ((#[] : Array Value) ++ ⟨rep 2 (lst zero)⟩ ++ ⟨rep (newCap - 2) (lst zero)⟩)).bind fun a => Sem.pure (.slice (some a) 2 newCap)) := by
      intro newCap hle
      simp only [newRow, bind_eq, pure_eq, newObj, Sem.bind]
      have hc : ((#[] : Array Value) ++ ⟨rep 2 (lst zero)⟩ ++ ⟨rep (newCap - 2) (lst zero)⟩ : Array Value) = ⟨rep 2 (lst zero) ++ rep (newCap - 2) (lst zero)⟩ := by
        apply Array.ext'; simp
      rw [hc]
      refine .new (av := newCap * z) (sz := z) (fun r => ?_) fun ρ' r r' hle' hr => ?_
      · refine .cells ?_ ?_ ?_ (fun _ o _ _ h => by omega) (fun _ => rfl) (.inl g1)
        · rw [hrep]; exact Nat.mul_le_mul_right _ hle
        · simp only [List.length_append, hrep, ← Nat.add_mul, Nat.zero_add]
          rw [Nat.add_sub_cancel' hle]
          exact Nat.le_refl _
        · simp only [List.drop_zero]
          rw [List.take_append_of_le_length (Nat.le_refl _), List.take_of_length_le (Nat.le_refl _)]
          exact (hzr.append (hzr.append .nil))
      · refine .ret ?_
        refine .loose (b := ⟨r', 0, newCap * z, z⟩) hr (.inl rfl) hle hle (by simp) ?_ g1
        unfold loose; decide
    have hzc : zero.cells = ⟨lst zero⟩ := by rw [lst_cells]
    have hcap : Builtin.nextslicecap 2 1 * i.bytes ≤ 192 * 1000000 := by
      have h1 : Builtin.nextslicecap 2 1 ≤ 200 := by decide
      have := Nat.mul_le_mul h1 hb
      omega
    have h48 : (2 : Nat) ^ 48 = 281474976710656 := by decide
    refine SR.info hT hi ?_
    rw [if_neg (by intro h; have := h.1; rw [hmx] at this; omega)]
    refine SR.info hT hi ?_
    rw [if_neg (by rw [h48]; omega)]
    simp only [choose, Sem.bind]
    refine .choose rfl fun q => ?_
    have hle : 2 ≤ (Question.appendCap 2 1 e).cut q := by simp [Question.cut]
    generalize (Question.appendCap 2 1 e).cut q = newCap at hle
    refine SR.info hT hi (SR.askRoom ?_)
    refine .equiv (fun w => ?_) (hfin newCap hle)
    have hf : (Builtin.firstCells z 0 (.slice (some a') 0 1)).run T.P w = .ok #[] w := by
      simp only [Builtin.firstCells, Nat.zero_mul]; rfl
    rw [run_bind_ok hf]
    have hne : ¬ (2 * z = 0) := by omega
    rw [if_neg hne]
    have hnt : ¬ ((!true) = true) := by decide
    rw [if_neg hnt]
    rw [Sem.bind_assoc', run_bind_ok (hT.run_zero hzero w)]
    simp only [Sem.bind]
    rw [run_bind_ok (hT.run_zero hzero w), hzc, zeroCells_rep, zeroCells_rep]

theorem frozen_run {P : Program} {w : World} {a : Addr} : (frozen a).run P w = .ok (w.frozen? a) w := rfl
theorem shape_run {P : Program} {w : World} {r : Nat} : (shape r).run P w = .ok (w.shape? r) w := rfl
theorem noView_run {P : Program} {w : World} {a : Addr} (h : (w.shape? a.block).isSome = true) : (noView a).run P w = .ok () w := by
  simp only [noView, viewAt, bind_eq, pure_eq, Sem.bind_assoc']
  rw [run_bind_ok shape_run]
  simp only [h, if_true, Sem.bind]
  rfl
theorem stringish_run {P : Program} {w : World} {a : Addr} : ∃ b, (stringish a).run P w = .ok b w := by
  simp only [stringish, bind_eq, pure_eq]
  rw [run_bind_ok frozen_run]
  split
  · exact ⟨_, rfl⟩
  · rw [run_bind_ok shape_run]
    split
    · exact ⟨_, rfl⟩
    · exact ⟨_, rfl⟩
theorem mayBeOne_run {P : Program} {w : World} {a c : Addr} : ∃ b, (mayBeOne a c).run P w = .ok b w := by
  obtain ⟨b1, h1⟩ := stringish_run (P := P) (w := w) (a := a)
  obtain ⟨b2, h2⟩ := stringish_run (P := P) (w := w) (a := c)
  simp only [mayBeOne, bind_eq, pure_eq]
  rw [run_bind_ok h1, run_bind_ok h2]
  simp only [Sem.bind_assoc']
  cases b1 <;> cases b2 <;> exact ⟨_, rfl⟩

/-- two rows of one kind, in blocks of their own -/
theorem overlaps_run {s : St} {w : World} (hT : TabOk T) (hs : SRel ρ s w) {ps rs : Array TypeId} {t e : TypeId} {z : Nat} (hp : ps[0]? = some t) (hu : T.und t = some (.slice e)) (hz : T.size e = some z) {i j : Nat} {bi bj : BI} {o : Nat} {ci cj : List Value} {ei ej li lj : Nat} {cap cap' : Nat}
    (hi : s.heap.get i = some (.rw (.cells ⟨ci⟩ ei (li, 0)))) (hj : s.heap.get j = some (.rw (.cells ⟨cj⟩ ej (lj, 0)))) (hij : i ≠ j) (hbi : ρ i = some bi) (hbj : ρ j = some bj) (hne : 1 ≤ ci.length) :
    ∃ q n, (Extern.SlicesOverlaps.overlaps ps rs #[.slice (some ⟨bi.blk, bi.base + 0, none⟩) 1 cap, .slice (some ⟨bj.blk, o, none⟩) 1 cap']).run T.P w = .ok (.bool q) { w with drawn := n } := by
  obtain ⟨b1, o1, k1, k2, k3⟩ := hs.heap.rw _ _ hi
  rw [hbi] at k1; cases k1
  obtain ⟨b2, o2, m1, m2, m3⟩ := hs.heap.rw _ _ hj
  rw [hbj] at m1; cases m1
  have hblk : bi.blk ≠ bj.blk := fun he => hij (hs.heap.apart i j _ _ _ _ hi hj hbi hbj he)
  cases k3 with
  | @cells _ c1' _ _ _ lo1 hi1 h1 h2 h3 h4 h5 h6 =>
  cases m3 with
  | @cells _ c2' _ _ _ lo2 hi2 n1 n2 n3 n4 n5 n6 =>
  have hsh1 : (w.shape? bi.blk).isSome = true := by unfold World.shape?; rw [k2]; rfl
  have hsh2 : (w.shape? bj.blk).isSome = true := by unfold World.shape?; rw [m2]; rfl
  have hfz : w.frozen? ⟨bi.blk, bi.base + 0, none⟩ = false := by
    unfold World.frozen?
    rw [k2]
    simp only
    cases hb : (decide (lo1 ≤ bi.base + 0) && decide (bi.base + 0 < hi1)) with
    | false => rfl
    | true =>
      simp only [Bool.and_eq_true, decide_eq_true_eq] at hb
      exact (h4 rfl 0 (by omega) hb.1 hb.2).elim
  have hbne : (bi.blk == bj.blk) = false := by simpa using hblk
  have hbne' : (bi.blk != bj.blk) = true := by simpa using hblk
  have eo : ∀ (a c : Addr), Extern.SlicesOverlaps.overlaps ps rs #[.slice (some a) 1 cap, .slice (some c) 1 cap'] = (do
      let some t := ps[0]? | stuck "slices.overlaps: no parameter types"
      let .slice elem ← underlying t | stuck "slices.overlaps: slice type expected"
      let size ← sizeOf elem
      if 1 = 0 ∨ 1 = 0 ∨ size = 0 then pure (.bool false)
      else if a.block != c.block && (← frozen a) && (← frozen c) then unsupported .addressObserved
      else do
        if a.block != c.block then do
          noView a; noView c
          if ← mayBeOne a c then return .bool ((← choose (.extern "sameAddr.stringBytes" 2)) == 1)
        pure (.bool (a.block == c.block && a.off < c.off + 1 * size && c.off < a.off + 1 * size))) := fun a c => rfl
  rw [eo]
  simp only [hp, bind_eq, pure_eq]
  rw [run_bind_ok (hT.run_und hu w)]
  simp only
  rw [run_bind_ok (hT.run_size hz w)]
  by_cases hz0 : (1 : Nat) = 0 ∨ (1 : Nat) = 0 ∨ z = 0
  · rw [if_pos hz0]; exact ⟨false, w.drawn, rfl⟩
  · rw [if_neg hz0]
    simp only [hbne', Bool.true_and]
    obtain ⟨q, hq⟩ := mayBeOne_run (P := T.P) (w := w) (a := ⟨bi.blk, bi.base + 0, none⟩) (c := ⟨bj.blk, o, none⟩)
    rw [run_bind_ok frozen_run, run_bind_ok frozen_run, hfz]
    simp only [Bool.false_and, Bool.false_eq_true, if_false, if_true]
    rw [run_bind_ok (noView_run hsh1), run_bind_ok (noView_run hsh2), run_bind_ok hq]
    cases q with
    | false => exact ⟨_, w.drawn, rfl⟩
    | true => exact ⟨_, w.drawn + 1, rfl⟩

/-! ## one row alone is told of -/
theorem atomEq {ρ : Rho} {v v' : Value} (h : VRel ρ v v') (ha : atom v = true) : v' = v := by
  cases h <;> first | rfl | exact absurd ha (by simp [atom, unk])
theorem atomsL {ρ ρ' : Rho} : ∀ {l l' : List Value}, l.all atom = true → VRelL ρ l l' → l' = l ∧ VRelL ρ' l l
  | [], _, _, h => by cases h; exact ⟨rfl, .nil⟩
  | v :: l, _, ha, h => by
    simp only [List.all_cons, Bool.and_eq_true] at ha
    cases h with
    | @cons _ v' _ l' h ht =>
      obtain ⟨rfl, h2⟩ := atomsL (ρ' := ρ') ha.2 ht
      have : v' = v := atomEq h ha.1
      subst this
      exact ⟨rfl, .cons (.atom ha.1) h2⟩

theorem Post.only {ρ ρ' : Rho} {s s1 : St} {w w' : World} (h : Post ρ s w ρ' s1 w') {j : Nat} {c : List Value} {e lo : Nat} (hj : s1.heap.get j = some (.rw (.cells ⟨c⟩ e (lo, 0)))) {b : BI} (hb : ρ' j = some b) (ha : c.all atom = true) {N : Nat} (hN : s1.next ≤ N) :
    ∃ ρ'', ρ'' N = some b ∧ Post ρ s w ρ'' { heap := Tr.nil.put N (.rw (.cells ⟨c⟩ e (1, 0))), next := N + 1 } w' := by
  refine ⟨fun k => if k = N then some b else if k < s.next then ρ' k else none, by simp, ?_⟩
  have hle := h.next
  obtain ⟨b1, o1, k1, k2, k3⟩ := h.rel.heap.rw _ _ hj
  rw [hb] at k1; cases k1
  have get1 : ∀ i x, (Tr.nil.put N (AObj.rw (.cells ⟨c⟩ e (1, 0)))).get i = some x → i = N ∧ x = .rw (.cells ⟨c⟩ e (1, 0)) := by
    intro i x hx
    rw [Tr.get_put] at hx
    split at hx
    · rename_i hi
      simp only [Option.some.injEq] at hx
      exact ⟨hi, hx.symm⟩
    · cases hx
  refine ⟨fun i hi => ?_, ⟨⟨fun i o hi => ?_, fun i c' hi => ?_, fun i j' o o' b' b'' hi hj' _ _ _ => ?_, fun i j' o c' b' b'' hi hj' => ?_⟩, fun i hi => ?_, fun i hi => ?_⟩, h.kept, fun k hk => ?_, by show s.next ≤ N + 1; omega, fun i hi h0 => ?_, fun i c' hi => ?_⟩
  · show (if i = N then some b else if i < s.next then ρ' i else none) = _
    rw [if_neg (by omega), if_pos hi]
    exact h.same i hi
  · obtain ⟨rfl, ho⟩ := get1 i _ hi
    cases ho
    refine ⟨b, o1, by simp, k2, ?_⟩
    cases k3 with
    | cells h1 h2 h3 h4 h5 h6 =>
      obtain ⟨e1, e2⟩ := atomsL (ρ' := fun k => if k = i then some b else if k < s.next then ρ' k else none) ha h3
      refine .cells h1 h2 ?_ h4 (fun h => by cases h) h6
      rw [e1]; exact e2
  · obtain ⟨_, ho⟩ := get1 i _ hi; cases ho
  · obtain ⟨rfl, _⟩ := get1 i _ hi
    obtain ⟨rfl, _⟩ := get1 j' _ hj'
    rfl
  · obtain ⟨_, ho⟩ := get1 j' _ hj'; cases ho
  · have hi : N + 1 ≤ i := hi
    show (if i = N then some b else if i < s.next then ρ' i else none) = _
    rw [if_neg (by omega), if_neg (by omega)]
  · have hi : N + 1 ≤ i := hi
    show (Tr.nil.put N (AObj.rw (.cells ⟨c⟩ e (1, 0)))).get i = none
    rw [Tr.get_put, if_neg (by omega)]; rfl
  · obtain ⟨i, o, b', g1, g2, g3⟩ := hk
    obtain ⟨rfl, _⟩ := get1 i _ g1
    simp only [if_true, Option.some.injEq] at g2
    subst g2
    exact h.own k ⟨j, _, b, hj, hb, g3⟩
  · show (Tr.nil.put N (AObj.rw (.cells ⟨c⟩ e (1, 0)))).get i = none
    rw [Tr.get_put, if_neg (by omega)]; rfl
  · obtain ⟨_, ho⟩ := get1 i _ hi; cases ho

/-- behind what is known of a row there are cells of which nothing is known -/
theorem Post.more {ρ : Rho} {s : St} {w : World} (hs : SRel ρ s w) {i : Nat} {c : List Value} {e lo hi n : Nat} (h : s.heap.get i = some (.rw (.cells ⟨c⟩ e (lo, hi)))) {b : BI} (hb : ρ i = some b) (hn : c.length + n ≤ b.avail) :
    Post ρ s w ρ { s with heap := s.heap.put i (.rw (.cells ⟨c ++ rep n [unk]⟩ e (lo, hi))) } w := by
  obtain ⟨b1, o1, k1, k2, k3⟩ := hs.heap.rw _ _ h
  rw [hb] at k1; cases k1
  have hrep : (rep n [unk]).length = n := by
    clear hn
    induction n with
    | zero => rfl
    | succ n ih => simp only [rep, List.length_append, ih]; simp; omega
  cases k3 with
  | @cells _ c' _ _ _ lo' hi' h1 h2 h3 h4 h5 h6 =>
  have hp := Post.set hs h hb (o := .cells ⟨c ++ rep n [unk]⟩ e (lo, hi)) (o' := .cells ⟨c'⟩ e (lo', hi')) (by
    refine .cells (by simp only [List.length_append, hrep]; omega) h2 ?_ h4 h5 h6
    have hl : ((c'.drop b.base).take (c ++ rep n [unk]).length) = (c'.drop b.base).take c.length ++ ((c'.drop b.base).drop c.length).take n := by
      rw [List.length_append, hrep]
      exact List.take_add
    rw [hl]
    refine h3.append ?_
    have hun : ∀ (n : Nat) (l : List Value), l.length = n → VRelL ρ (rep n [unk]) l := by
      intro n
      induction n with
      | zero => intro l hl; have := List.length_eq_zero_iff.1 hl; subst this; exact .nil
      | succ n ih =>
        intro l hl
        cases l with
        | nil => cases hl
        | cons v l => exact .cons .unk (ih l (by simpa using hl))
    refine hun n _ ?_
    simp only [List.length_take, List.length_drop]
    omega)
  have hw : ({ w with heap := w.heap.setIfInBounds b.blk (.cells ⟨c'⟩ e (lo', hi')) } : World) = w := by
    have : w.heap.setIfInBounds b.blk (.cells ⟨c'⟩ e (lo', hi')) = w.heap := by
      apply Array.ext_getElem?
      intro k
      rw [Array.getElem?_setIfInBounds]
      split
      · rename_i hk
        subst hk
        rw [k2]
        have := (Array.getElem?_eq_some_iff.1 k2).1
        simp [this]
      · rfl
    rw [this]
  rw [hw] at hp
  exact hp
end

section
theorem split_get {α : Type} : ∀ (l : List α) (k : Nat), (Tr.split l).1[k]? = l[2 * k]? ∧ (Tr.split l).2[k]? = l[2 * k + 1]?
  | [], k => by simp [Tr.split]
  | x :: l, k => by
    obtain ⟨h1, h2⟩ := split_get l k
    constructor
    · cases k with
      | zero => simp [Tr.split]
      | succ k =>
        have := (split_get l k).2
        simp only [Tr.split, List.getElem?_cons_succ]
        rw [this]
        have e : 2 * (k + 1) = (2 * k + 1) + 1 := by omega
        rw [e, List.getElem?_cons_succ]
    · simp only [Tr.split, List.getElem?_cons_succ]
      exact h1
theorem mk_get {α : Type} : ∀ (f : Nat) (l : List α) (n : Nat) (x : α), (Tr.mk f l).get n = some x → l[n]? = some x
  | 0, l, n, x, h => by simp [Tr.mk] at h
  | f + 1, [], n, x, h => by simp [Tr.mk] at h
  | f + 1, y :: l, 0, x, h => by
    have h : (Tr.node (some y) (Tr.mk f (Tr.split l).1) (Tr.mk f (Tr.split l).2)).get 0 = some x := h
    rw [Tr.get_node_zero] at h
    simpa using h
  | f + 1, y :: l, m + 1, x, h => by
    have h : (Tr.node (some y) (Tr.mk f (Tr.split l).1) (Tr.mk f (Tr.split l).2)).get (m + 1) = some x := h
    rw [Tr.get_node_succ] at h
    rw [List.getElem?_cons_succ]
    split at h
    · have := mk_get f _ _ _ h
      rw [(split_get l (m / 2)).1] at this
      have e : 2 * (m / 2) = m := by omega
      rw [e] at this; exact this
    · have := mk_get f _ _ _ h
      rw [(split_get l (m / 2)).2] at this
      have e : 2 * (m / 2) + 1 = m := by omega
      rw [e] at this; exact this

def memN (t : Nat) : List Nat → Bool
  | [] => false
  | x :: l => match Nat.beq x t with
    | true => true
    | false => memN t l
theorem memN_mem {t : Nat} : ∀ {l : List Nat}, memN t l = true → t ∈ l
  | [], h => by cases h
  | x :: l, h => by
    simp only [memN] at h
    split at h
    · rename_i hb
      rw [Nat.eq_of_beq_eq_true hb]; simp
    · exact List.mem_cons_of_mem _ (memN_mem h)
noncomputable def tabOf (P : Program) (l : List Nat) : Tab := { P, ty := Tr.mk 12 P.types.toList, fn := Tr.mk 12 P.funcs.toList, eqs := fun t => memN t l }
def five : List String := ["internal/abi.NoEscape", "internal/bytealg.IndexByteString", "internal/bytealg.CountString", "maps.clone", "internal/bytealg.MakeNoZero"]
def fnFine (g : Func) : Bool := !(g.name == "runtime.NumGoroutine") && (g.body.isSome || g.origin == "" || five.all fun n => !(g.name == n))
def eqFine (P : Program) (t : Nat) : Bool := !(P.stoodInHeld t) && !(P.eqGuardType P.depth t) && (P.fieldsOf t).toList.all fun f => !(f.name == "_")
theorem tabOk_of {P : Program} {l : List Nat} (h1 : P.funcs.toList.all fnFine = true) (h2 : l.all (eqFine P) = true) (h3 : P.follows .mixedOrders = true) : TabOk (tabOf P l) where
  ty t i h := by
    have := mk_get 12 _ t i h
    rw [Array.getElem?_toList] at this
    have hlt := (Array.getElem?_eq_some_iff.1 this).1
    show Tables.info? P.toTables t = some i
    unfold Tables.info?
    rw [if_pos hlt]
    exact this
  fn f g h := by
    have := mk_get 12 _ f g h
    rw [Array.getElem?_toList] at this
    exact this
  eqs t h := by
    have := List.all_eq_true.1 h2 t (memN_mem h)
    simp only [eqFine, Bool.and_eq_true, Bool.not_eq_true'] at this
    refine ⟨this.1.1, this.1.2, fun f hf he => ?_⟩
    have := List.all_eq_true.1 this.2 f hf
    rw [he] at this
    simp at this
  orders := h3
  ng f g h := by
    have := mk_get 12 _ f g h
    have := List.all_eq_true.1 h1 g (List.mem_of_getElem? this)
    simp only [fnFine, Bool.and_eq_true, Bool.not_eq_true'] at this
    exact this.1
  origin f g h hb hn := by
    have := mk_get 12 _ f g h
    have := List.all_eq_true.1 h1 g (List.mem_of_getElem? this)
    simp only [fnFine, Bool.and_eq_true, Bool.or_eq_true, hb, Bool.false_eq_true, false_or] at this
    rcases this.2 with h | h
    · simpa using h
    · have hm : g.name ∈ five := by
        unfold five
        rcases hn with h | h | h | h | h <;> rw [h] <;> simp
      have := List.all_eq_true.1 h g.name hm
      simp at this
def bs (l : List Nat) : List UInt8 := l.map UInt8.ofNat
def vp (b o : Nat) : Value := .pointer (some ⟨b, o, none⟩)
def vs (b o n c : Nat) : Value := .slice (some ⟨b, o, none⟩) n c
end

end Go.Bel
