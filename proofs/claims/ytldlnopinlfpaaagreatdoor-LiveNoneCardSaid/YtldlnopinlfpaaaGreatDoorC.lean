/-
  D's conversions, maps, ranges, appends and builtins stand to the model's.
  Conditions: none beyond those that the statements bear.
-/
import Derived.KernelRfl
import Derived.Test.YtldlnopinlfpaaaGreatDoorB
set_option maxRecDepth 100000
namespace Go.Bel

section
variable {T : Tab} {ρ : Rho}

theorem lst2_eq {α β : Type} (f : α → β) (l : List α) : lst2 f l = l.map f := by
  induction l with
  | nil => rfl
  | cons x l ih => simp [lst2, ih]
theorem atoms_rel : ∀ {l : List Value}, (∀ v ∈ l, atom v = true) → VRelL ρ l l
  | [], _ => .nil
  | v :: l, h => .cons (.atom (h v (by simp))) (atoms_rel fun u hu => h u (by simp [hu]))

theorem run_toStr {P : Program} : ∀ (vs vs' : List Value) (acc : ByteArray) (l : List UInt8), VRelL ρ vs vs' → toBytes vs = some l → ∀ w,
    (forIn (m := Sem) vs' acc fun c s => (match c with
      | .int .u8 n => pure (.yield (s.push (UInt8.ofNat n.toNat)))
      | _x => (stuck "bytesToString: byte expected").bind fun (_ : PUnit) => pure (.yield s) : Sem (ForInStep ByteArray))).run P w = .ok ⟨⟨acc.data.toList ++ l⟩⟩ w := by
  intro vs
  induction vs with
  | nil =>
    intro vs' acc l h hb w
    cases h
    rw [toBytes_nil] at hb
    simp only [Option.some.injEq] at hb
    subst hb
    simp [pure_eq]
  | cons v vs ih =>
    intro vs' acc l h hb w
    cases h with
    | cons hv ht =>
    obtain ⟨n, r, rfl, hr, rfl⟩ := toBytes_cons hb
    cases hv.int
    simp only [List.forIn_cons, bind_eq, pure_eq, Sem.bind]
    refine Eq.trans (ih _ _ r ht hr w) ?_
    congr 2
    simp

theorem SR.ptrSeen {P : Program} {b n : Nat} {t : TypeId} {z : Bool} {bi : BI} {α β : Type} {R : Rho → α → β → Prop} {s : AS α} {f : Addr → Sem β} (hb : ρ b = some bi) (o : Nat)
    (h : SR P R ρ s (f ⟨bi.blk, bi.base + o, none⟩)) : SR P R ρ (.rowOf ⟨b, o, none⟩ n t z s) ((Conv.seenAt ⟨bi.blk, bi.base + o, none⟩).bind f) := by
  simp only [Conv.seenAt, viewAt, shape, bind_eq, Sem.bind]
  refine .rowOf (a := ⟨b, o, none⟩) hb fun m _ _ => ?_
  simp only [Option.isSome_some, if_true, pure_eq, Sem.bind]
  exact h

theorem cells_of (hT : TabOk T) {t : TypeId} {n : Nat} (h : T.size t = some n) : T.P.cellsOf t = n := by
  obtain ⟨i, hi, hs⟩ := Tab.size_info h
  simp [Program.cellsOf, hT.ty _ _ hi, hs]
theorem liesAt_same (P : Program) {t : TypeId} {m n : Nat} (hs : P.cellsOf t = n + 1) (hm : n + 1 ≤ m) : liesAt P P.depth t (m / P.cellsOf t) 0 t 1 = true := by
  have hd : ∃ d, P.depth = d + 1 := ⟨2 * (P.types.size + Made.depth) + 1, rfl⟩
  obtain ⟨d, hd⟩ := hd
  rw [hd]
  have hsl : sameLayout P (d + 1) t t = true := by simp [sameLayout]
  have h1 : 1 ≤ m / (n + 1) := (Nat.le_div_iff_mul_le (by omega)).2 (by omega)
  have hr : rowAt P (sameLayout P (d + 1) · t) (d + 1) t (m / (n + 1)) 0 1 = true := by
    simp [rowAt, hs, hsl, h1]
  unfold liesAt
  rw [hs, hd, hr]
  simp
theorem liesAt_bytes (P : Program) {t : TypeId} {m o n : Nat} (hs : P.cellsOf t = 1) (hm : o + n ≤ m) : liesAt P P.depth t (m / P.cellsOf t) o t n = true := by
  have hd : ∃ d, P.depth = d + 1 := ⟨2 * (P.types.size + Made.depth) + 1, rfl⟩
  obtain ⟨d, hd⟩ := hd
  rw [hd]
  have hsl : sameLayout P (d + 1) t t = true := by simp [sameLayout]
  have hr : rowAt P (sameLayout P (d + 1) · t) (d + 1) t (m / 1) o n = true := by
    simp [rowAt, hs, hsl, hm, Nat.mod_one]
  unfold liesAt
  rw [hs, hd, hr]
  simp

theorem convert_rel (hT : TabOk T) {src dst : TypeId} {x x' : Value} (hx : VRel ρ x x') : SR T.P VRel ρ (aConvert T src dst x) (convert src dst x') := by
  unfold aConvert
  split
  · rename_i d k k' n hs hd
    cases hx.int
    simp only [convert, bind_eq]
    refine SR.und hT hs (SR.und hT hd ?_)
    have h1 : (match d, TypeDesc.int k, Value.int k' n with | _, .int k, .int _ n => Conv.intToInt k n | _, _, _ => unsupported (.noEntry "")) = Conv.intToInt k n := by cases d <;> rfl
    have h2 : SR T.P VRel ρ (ofSem (Conv.intToInt k n)) (Conv.intToInt k n) := ofSem_atom fun a h => by cases h; rfl
    cases d <;> exact h2
  · rename_i d s hs hd
    cases hx.string
    simp only [convert, bind_eq]
    refine SR.und hT hs (SR.und hT hd ?_)
    cases d <;> exact .ret (.atom rfl)
  · rename_i d e s hs hd
    cases hx.string
    split
    · rename_i he
      split
      · rename_i hlt
        have hlt : s.data.toList.length < 1000000000000 := Nat.le_of_ble_eq_true hlt
        simp only [convert, bind_eq]
        refine SR.und hT hs (SR.und hT hd ?_)
        have key : SR T.P VRel ρ (.new (.cells ⟨lst2 (fun (b : UInt8) => Value.int .u8 (.ofNat b.toNat)) s.data.toList⟩ e) fun r => .ret (.slice (some ⟨r, 0, none⟩) s.data.toList.length (loose * 1 + s.data.toList.length))) (Conv.stringToBytes e s) := by
          simp only [Conv.stringToBytes, bind_eq, choose, Sem.bind]
          refine .choose rfl fun t => ?_
          have hcap : s.size ≤ (Question.appendCap s.size 0 e).cut t := by simp [Question.cut]
          generalize (Question.appendCap s.size 0 e).cut t = cap at hcap
          have hsz : s.size = s.data.toList.length := rfl
          have e1 : (s.data.map fun b => Value.int .u8 (b.toNat : Int)) ++ Array.replicate (cap - s.size) (Value.int .u8 0) =
              ⟨s.data.toList.map (fun b => Value.int .u8 (b.toNat : Int)) ++ List.replicate (cap - s.size) (Value.int .u8 0)⟩ := by
            apply Array.ext'; simp
          rw [e1, lst2_eq]
          refine .newStr (by simp) ?_ fun ρ' r r' hle hr => ?_
          · have : (List.map (fun b => Value.int .u8 (b.toNat : Int)) s.data.toList ++ List.replicate (cap - s.size) (Value.int .u8 0)).take (List.map (fun (b : UInt8) => Value.int .u8 (.ofNat b.toNat)) s.data.toList).length =
                List.map (fun b => Value.int .u8 (b.toNat : Int)) s.data.toList := by
              rw [List.take_append_of_le_length (by simp), List.take_of_length_le (by simp)]
            rw [this]
            exact atoms_rel fun v hv => by
              obtain ⟨b, _, rfl⟩ := List.mem_map.1 hv
              rfl
          · refine .ret ?_
            rw [hsz]
            refine .loose (b := ⟨r', 0, _, 1⟩) hr (.inl rfl) (by omega) (by omega) ?_ (by unfold Go.Bel.loose; omega) (Nat.le_refl _)
            simp
            omega
        have hd2 : SR T.P VRel ρ (.new (.cells ⟨lst2 (fun (b : UInt8) => Value.int .u8 (.ofNat b.toNat)) s.data.toList⟩ e) fun r => .ret (.slice (some ⟨r, 0, none⟩) s.data.toList.length (loose * 1 + s.data.toList.length)))
            ((underlying e).bind fun x => match x with | .int .u8 => Conv.stringToBytes e s | .int .i32 => Conv.stringToRunes e s | _ => stuck "Convert: string to a slice of what?") := SR.und hT he key
        cases d <;> exact hd2
      · exact .fail
    · exact .fail
  · -- pointer to unsafe.Pointer
    rename_i t b hs hd
    split
    · rename_i n hsz
      obtain ⟨a', rfl, ha⟩ := hx.toPtr
      have hxx := VRel.ptr ha
      cases ha with
      | @mk _ _ bi hb =>
      simp only [convert, bind_eq]
      refine SR.und hT hs (SR.und hT hd ?_)
      simp only [Conv.unsafePointer, bind_eq]
      refine SR.und hT hs (SR.und hT hd ?_)
      refine SR.ptrSeen hb 0 ?_
      simp only [cellsIn, shape, bind_eq, Sem.bind]
      refine .rowOf (a := ⟨b, 0, none⟩) hb fun m hm _ => ?_
      simp only [pure_eq, Sem.bind]
      refine SR.size hT hsz ?_
      have hm' : bi.base + 0 + (n + 1) ≤ m := hm
      have : ¬ (bi.base + 0 ≥ m) := by omega
      simp only [Nat.add_one_ne_zero, this, decide_false, Bool.false_and]
      exact .ret hxx
    · exact .fail
  · -- and back
    rename_i t b hs hd
    split
    · rename_i n hsz
      obtain ⟨a', rfl, ha⟩ := hx.toPtr
      have hxx := VRel.ptr ha
      cases ha with
      | @mk _ _ bi hb =>
      simp only [convert, bind_eq]
      refine SR.und hT hs (SR.und hT hd ?_)
      simp only [Conv.unsafePointer, bind_eq]
      refine SR.und hT hs (SR.und hT hd ?_)
      refine SR.ptrSeen hb 0 ?_
      refine SR.size hT hsz ?_
      simp only [variablesAt, shape, bind_eq, pure_eq]
      rw [Sem.bind_assoc']
      refine SR.prog ?_
      simp only [Sem.bind]
      refine .rowOf (a := ⟨b, 0, none⟩) hb fun m hm h0 => ?_
      have h0 := h0 rfl
      have hm' : bi.base + 0 + (n + 1) ≤ m := hm
      have hl := liesAt_same T.P (t := t) (m := m) (n := n) (cells_of hT hsz) (by omega)
      simp only [Sem.bind, h0, Nat.add_zero, hl]
      rw [h0] at hxx
      exact .ret hxx
    · exact .fail
  · -- a slice again
    rename_i es e a n c hs hd
    split
    · rename_i hsd he
      have hsd := Nat.eq_of_beq_eq_true hsd
      subst hsd
      have hreal : ∃ a' n' c' bi, x' = .slice (some a') n' c' ∧ ρ a.block = some bi ∧ a'.block = bi.blk := by
        cases hx with
        | atom h => cases h
        | slice h _ => cases h with | mk h => exact ⟨_, _, _, _, rfl, h, rfl⟩
        | loose h _ _ _ _ _ _ => exact ⟨_, _, _, _, rfl, h, rfl⟩
      obtain ⟨a', n', c', bi, rfl, hb, hblk⟩ := hreal
      simp only [convert, bind_eq]
      refine SR.und hT hs (SR.und hT hd ?_)
      simp only [beq_self_eq_true]
      refine SR.und hT he ?_
      exact .stringish hb hblk (.ret hx)
    · exact .fail
  · rename_i es a n c hs hd
    split
    · rename_i he
      split
      · cases hx.snil
        simp only [convert, bind_eq]
        refine SR.und hT hs (SR.und hT hd (SR.und hT he ?_))
        simp only [Conv.bytesToString]
        exact .ret (.atom rfl)
      · rename_i a
        have hreal : ∃ a' c', x' = .slice (some a') n c' ∧ (n = 0 ∨ AddrRel ρ a a') := by
          cases hx with
          | atom h => cases h
          | slice h _ => exact ⟨_, _, rfl, .inr h⟩
          | loose h hx hn _ _ _ _ =>
            refine ⟨_, _, rfl, ?_⟩
            rcases hx with hx | hx
            · subst hx; exact .inr (.mk h)
            · left; omega
        obtain ⟨a', c', rfl, ha⟩ := hreal
        simp only [convert, bind_eq]
        refine SR.und hT hs (SR.und hT hd (SR.und hT he ?_))
        simp only [Conv.bytesToString, bind_eq]
        refine .loads ha fun vs vs' hv hl => ?_
        split
        · rename_i l hb
          refine .of_run (b := .string ⟨⟨l⟩⟩) (fun w => ?_) (.atom rfl)
          have := run_toStr (P := T.P) vs vs' ByteArray.empty l hv hb w
          rw [← Array.forIn_toList]
          refine (run_bind_ok this).trans rfl
        · exact .fail
    · exact .fail
  · exact .fail
end

section
variable {T : Tab} {ρ : Rho}

theorem makeInterface_rel (hT : TabOk T) {t : TypeId} {x x' : Value} (hx : VRel ρ x x') :
    SR T.P VRel ρ (match T.und t with | some (.interface _) => .fail | some _ => .ret (.iface t x) | none => .fail) (Instr.makeInterface t x') := by
  split
  · exact .fail
  · rename_i d hn hu
    simp only [Instr.makeInterface, bind_eq, pure_eq]
    refine SR.und hT hu ?_
    cases d <;> first | exact .ret (.iface hx) | exact absurd rfl (hn _)
  · exact .fail

theorem typeAssert_rel (hT : TabOk T) {t xt : TypeId} {ok : Bool} {x x' : Value} (hx : VRel ρ x x') : SR T.P VRel ρ (aTypeAssert T x t ok) (Instr.typeAssert x' xt t ok) := by
  unfold aTypeAssert
  cases hu : T.und t with
  | none => exact .fail
  | some d =>
    by_cases hi : ∃ ms, d = .interface ms
    · obtain ⟨ms, rfl⟩ := hi; exact .fail
    · cases x with
      | iface tt v =>
        obtain ⟨v', rfl, hv⟩ := hx.toIface
        have e : ∀ {α β : Type} (a : α), True := fun _ => trivial
        have : SR T.P VRel ρ (match Nat.beq tt t, ok, T.zero t with
            | true, true, _ => .ret (.tuple ⟨[v, .bool true]⟩)
            | true, false, _ => .ret v
            | false, true, some z => .ret (.tuple ⟨[z, .bool false]⟩)
            | _, _, _ => .fail) (Instr.typeAssert (.iface tt v') xt t ok) := by
          simp only [Instr.typeAssert, bind_eq, pure_eq]
          refine SR.und hT hu ?_
          have h2 : ∀ s : Sem Value, (match d, Value.iface tt v' with | .interface _, .nilIface => unsupported (.noEntry "") | .interface w, .iface tt v' => unsupported (.noEntry "") | _, .nilIface => unsupported (.noEntry "") | _, .iface _ _ => s | _, _ => unsupported (.noEntry "")) = s := by
            intro s; cases d <;> first | rfl | exact absurd ⟨_, rfl⟩ hi
          by_cases htt : tt = t
          · subst htt
            have hb : Nat.beq tt tt = true := Nat.beq_refl _
            rw [hb]
            cases ok <;> cases d <;> first
              | exact absurd ⟨_, rfl⟩ hi
              | (simp only [if_true]; exact .ret hv)
              | (simp only [if_true]; exact .ret (.tuple (.cons hv (.cons (.atom rfl) .nil))))
          · have hb : Nat.beq tt t = false := by
              cases h : Nat.beq tt t
              · rfl
              · exact absurd (Nat.eq_of_beq_eq_true h) htt
            rw [hb]
            cases ok with
            | false => exact .fail
            | true =>
              cases hz : T.zero t with
              | none => exact .fail
              | some z =>
                have hzr := plain_rel (ρ := ρ) z (Tab.zero_plain hz)
                cases d <;> first
                  | exact absurd ⟨_, rfl⟩ hi
                  | (simp only [htt, if_false, if_true]; exact SR.zero hT hz (.ret (.tuple (.cons hzr (.cons (.atom rfl) .nil)))))
        cases d <;> first | exact this | exact absurd ⟨_, rfl⟩ hi
      | nilIface =>
        cases hx.inil
        have : SR T.P VRel ρ (match ok, T.zero t with
            | true, some z => .ret (.tuple ⟨[z, .bool false]⟩)
            | _, _ => .fail) (Instr.typeAssert .nilIface xt t ok) := by
          cases ok with
          | false => exact .fail
          | true =>
            cases hz : T.zero t with
            | none => exact .fail
            | some z =>
              have hzr := plain_rel (ρ := ρ) z (Tab.zero_plain hz)
              simp only [Instr.typeAssert, bind_eq, pure_eq]
              refine SR.und hT hu ?_
              cases d <;> first
                | exact absurd ⟨_, rfl⟩ hi
                | (simp only [if_true]; exact SR.zero hT hz (.ret (.tuple (.cons hzr (.cons (.atom rfl) .nil)))))
        cases d <;> first | exact this | exact absurd ⟨_, rfl⟩ hi
      | _ => cases d <;> exact .fail

theorem makeMap0_rel {P : Program} {t : TypeId} : SR P VRel ρ (.new (.map #[] 0) fun r => .ret (.map (some r))) (Instr.makeMap t none) :=
  .new (av := 0) (sz := 0) (fun _ => .map .nil) fun _ _ _ _ hr => .ret (.map hr)
theorem makeMap1_rel (hT : TabOk T) {t : TypeId} {x x' : Value} (hx : VRel ρ x x') :
    SR T.P VRel ρ (match T.und t, x with | some (.map _ _), .int _ _ => .new (.map #[] 0) fun r => .ret (.map (some r)) | _, _ => .fail) (Instr.makeMap t (some x')) := by
  split
  · rename_i k n hx hu
    cases hx.int
    simp only [Instr.makeMap, bind_eq, pure_eq]
    refine SR.und hT hu ?_
    simp only [asInt]
    exact makeMap0_rel (t := t)
  · exact .fail

theorem run_askRoom {P : Program} (n : Nat) (w : World) : (askRoom n).run P w = .ok () w := by
  unfold askRoom
  split <;> rfl
theorem SR.askRoom {P : Program} {α β : Type} {R : Rho → α → β → Prop} {n : Nat} {s : AS α} {f : Unit → Sem β} (k : SR P R ρ s (f ())) : SR P R ρ s ((Go.askRoom n).bind f) := .step (run_askRoom n) k

theorem Tab.info_size {t : TypeId} {i : TypeInfo} {z : Nat} (_hz : T.size t = some z) (hi : T.info t = some i) : T.ty.get t = some i := hi

theorem range_map_rep (l : List Value) (_hl : 1 ≤ l.length) : ∀ c, (Array.range (c * l.length)).map ((⟨l⟩ : Array Value)[· % l.length]!) = ⟨rep c l⟩ := by
  intro c
  apply Array.ext'
  simp only [Array.toList_map, Array.toList_range]
  induction c with
  | zero => simp [rep]
  | succ c ih =>
    have hr : rep (c + 1) l = rep c l ++ l := by
      have : ∀ c, l ++ rep c l = rep c l ++ l := by
        intro c
        induction c with
        | zero => simp [rep]
        | succ c ih => simp only [rep, List.append_assoc]; rw [ih]
      exact this c
    rw [hr, Nat.succ_mul, List.range_add, List.map_append, ih]
    congr 1
    rw [List.map_map]
    apply List.ext_getElem
    · simp
    · intro i h1 h2
      simp only [List.length_map, List.length_range] at h1
      simp [Nat.mod_eq_of_lt h1, Nat.add_comm, h2]

theorem makeSlice_rel (hT : TabOk T) {t : TypeId} {n n' c c' : Value} (hn : VRel ρ n n') (hc : VRel ρ c c') : SR T.P VRel ρ (aMakeSlice T t n c) (Instr.makeSlice t n' c') := by
  unfold aMakeSlice
  split
  · rename_i e n c hu
    rename_i hn hc
    cases hn.int; cases hc.int
    split
    · rename_i z zero i hz hzero hi
      split
      · rename_i hg
        simp only [Bool.and_eq_true] at hg
        obtain ⟨⟨⟨h1, h2⟩, h3⟩, h4⟩ := hg
        have h1 := Nat.le_of_ble_eq_true h1
        have h2 := Nat.le_of_ble_eq_true h2
        have h3 := Nat.le_of_ble_eq_true h3
        have h4 := Nat.eq_of_beq_eq_true h4
        have hc1 : c ≤ 1000000000000 := Nat.le_trans (by rw [Nat.mul_succ]; omega) h2
        have hc2 : i.bytes * c ≤ 1000000000000 := Nat.le_trans (by rw [Nat.mul_succ, Nat.mul_comm]; omega) h2
        simp only [Instr.makeSlice, bind_eq, pure_eq]
        refine SR.und hT hu ?_
        simp only [asInt, Sem.bind]
        refine SR.info hT hi ?_
        have w1 : IntKind.i64.wrap (Int.ofNat n) = n := by
          simp [IntKind.wrap, IntKind.signed, IntKind.bits]; omega
        have w2 : IntKind.i64.wrap (Int.ofNat c) = c := by
          simp [IntKind.wrap, IntKind.signed, IntKind.bits]; omega
        rw [w1, w2]
        have hnot : (decide ((c : Int) < 0) || decide ((i.bytes : Int) * c > 2 ^ 48)) = false := by
          have : (i.bytes : Int) * c ≤ 1000000000000 := by have h := Int.ofNat_le.2 hc2; rw [Int.natCast_mul] at h; exact h
          have h48 : (2:Int)^48 = 281474976710656 := by decide
          rw [h48, Bool.or_eq_false_iff]
          exact ⟨decide_eq_false (by omega), decide_eq_false (by omega)⟩
        have hnot2 : (decide ((c : Int) < 0) || decide ((i.bytes : Int) * c > 2 ^ 48) || decide ((n : Int) < 0) || decide ((n : Int) > c)) = false := by
          rw [hnot, Bool.false_or, Bool.or_eq_false_iff]
          exact ⟨decide_eq_false (by omega), decide_eq_false (by omega)⟩
        simp only [Int.toNat_natCast, hnot2, Bool.false_eq_true, if_false]
        refine SR.askRoom (SR.size hT hz ?_)
        have hpl := Tab.zero_plain hzero
        have hk := plain_known hpl
        have hzr := (plain_rel (ρ := ρ) zero hpl).lst' hk
        have hlz : lst zero = zero.cells.toList := by cases zero <;> rfl
        have hzz : VRelL ρ (lst zero) (lst zero) := by rw [← hlz] at hzr; exact hzr
        have hrr := rep_rel hzz c
        have key : SR T.P VRel ρ (.new (.cells ⟨rep c (lst zero)⟩ e) fun r => .ret (.slice (some ⟨r, 0, none⟩) n c)) ((newRow e ⟨rep c (lst zero)⟩).bind fun a => Sem.pure (.slice (some a) n c)) := by
          simp only [newRow, bind_eq, pure_eq, newObj, Sem.bind]
          refine .new (av := (rep c (lst zero)).length) (sz := 1) (fun r => ?_) fun ρ' r r' hle hr => ?_
          · refine .cells (Nat.le_refl _) (by simp) ?_ (fun _ o _ _ h => by omega) (fun _ => rfl) (.inl (Nat.le_refl _))
            simp only [List.drop_zero]
            rw [List.take_of_length_le (Nat.le_refl _)]
            exact hrr
          · exact .ret (.slice (.mk (o := 0) hr) (by unfold Go.Bel.loose; omega))
        by_cases h0 : c * z = 0
        · simp only [h0, if_true]
          have hc0 : (Array.range 0).map (fun x => (#[] : Array Value)[x % (#[] : Array Value).size]!) = ⟨rep c (lst zero)⟩ := by
            have : c = 0 := by
              rcases Nat.mul_eq_zero.1 h0 with h | h
              · exact h
              · omega
            subst this
            simp [rep]
          rw [hc0]
          exact key
        · simp only [h0, if_false]
          refine SR.zero hT hzero ?_
          have hc1 : ((Array.range (c * z)).map (fun x => zero.cells[x % zero.cells.size]!)) = ⟨rep c (lst zero)⟩ := by
            rw [hlz]
            have : z = zero.cells.size := by rw [← h4, hlz]; rfl
            rw [this]
            exact zeros_eq zero.cells c (by omega)
          rw [hc1]
          exact key
      · exact .fail
    · exact .fail
  · exact .fail

/-! ## keys of maps -/

theorem atomKey_cases {v : Value} (h : atomKey v = true) : (∃ k n, v = .int k n) ∨ ∃ s, v = .string s := by
  cases v <;> first | exact .inl ⟨_, _, rfl⟩ | exact .inr ⟨_, rfl⟩ | cases h
theorem atomKey_rel {v v' : Value} (h : atomKey v = true) (hv : VRel ρ v v') : v' = v := by
  rcases atomKey_cases h with ⟨k, n, rfl⟩ | ⟨s, rfl⟩
  · exact hv.int
  · exact hv.string
theorem allKey_rel : ∀ {l l' : List Value}, allKey l = true → VRelL ρ l l' → l' = l
  | [], _, _, h => by cases h; rfl
  | v :: l, _, hk, h => by
    cases h with
    | cons h ht =>
      have hk : (atomKey v && allKey l) = true := hk
      simp only [Bool.and_eq_true] at hk
      rw [atomKey_rel hk.1 h, allKey_rel hk.2 ht]
theorem keyOk_cases {v : Value} (h : keyOk v = true) : atomKey v = true ∨ ∃ l, v = .agg ⟨l⟩ ∧ allKey l = true := by
  cases v <;> first | exact .inl h | exact .inr ⟨_, rfl, h⟩
theorem keyOk_rel {v v' : Value} (h : keyOk v = true) (hv : VRel ρ v v') : v' = v := by
  rcases keyOk_cases h with h | ⟨l, rfl, hl⟩
  · exact atomKey_rel h hv
  · obtain ⟨l', rfl, hr⟩ := hv.toAgg
    rw [allKey_rel hl hr]
theorem atomKey_self {v : Value} (h : atomKey v = true) : VRel ρ v v := by
  rcases atomKey_cases h with ⟨k, n, rfl⟩ | ⟨s, rfl⟩
  · exact .atom rfl
  · exact .atom rfl
theorem allKey_self : ∀ {l : List Value}, allKey l = true → VRelL ρ l l
  | [], _ => .nil
  | v :: l, hk => by
    have hk : (atomKey v && allKey l) = true := hk
    simp only [Bool.and_eq_true] at hk
    exact .cons (atomKey_self hk.1) (allKey_self hk.2)
theorem keyOk_self {v : Value} (h : keyOk v = true) : VRel ρ v v := by
  rcases keyOk_cases h with h | ⟨l, rfl, hl⟩
  · exact atomKey_self h
  · exact .agg (allKey_self hl)
theorem keyOk_bits {v : Value} (h : keyOk v = true) : Instr.sameBits 10000 v v = true := by
  have ha : ∀ n {v : Value}, atomKey v = true → Instr.sameBits n v v = true := by
    intro n v h
    rcases atomKey_cases h with ⟨k, i, rfl⟩ | ⟨s, rfl⟩
    · cases n <;> simp [Instr.sameBits]
    · have : (s == s) = true := by rw [beq_toListBytes]; exact beq_self_eq_true _
      cases n <;> simp [Instr.sameBits, this]
  rcases keyOk_cases h with h | ⟨l, rfl, hl⟩
  · exact ha _ h
  · show Instr.sameBits (9999 + 1) _ _ = true
    simp only [Instr.sameBits, beq_self_eq_true, Bool.true_and]
    rw [List.all_eq_true]
    intro p hp
    have : ∀ (l : List Value), allKey l = true → ∀ p ∈ l.zip l, p.1 = p.2 ∧ atomKey p.1 = true := by
      intro l
      induction l with
      | nil => intro _ p hp; cases hp
      | cons v l ih =>
        intro hk p hp
        have hk : (atomKey v && allKey l) = true := hk
        simp only [Bool.and_eq_true] at hk
        rcases List.mem_cons.1 hp with rfl | hp
        · exact ⟨rfl, hk.1⟩
        · exact ih hk.2 p hp
    obtain ⟨h1, h2⟩ := this l hl p hp
    obtain ⟨x, y⟩ := p
    simp only at h1 h2
    subst h1
    exact ha _ h2

theorem scalarFits_cases {d : Option TypeDesc} {v : Value} (h : scalarFits d v = true) : (∃ j k n, d = some (.int j) ∧ v = .int k n) ∨ ∃ s, d = some .string ∧ v = .string s := by
  cases v with
  | int k n =>
    cases d with
    | none => cases h
    | some d => cases d <;> first | exact .inl ⟨_, _, _, rfl, rfl⟩ | cases h
  | string s =>
    cases d with
    | none => cases h
    | some d => cases d <;> first | exact .inr ⟨_, rfl, rfl⟩ | cases h
  | _ => cases h
theorem run_checkScalar (hT : TabOk T) {t : TypeId} {v : Value} {e : Bool} (h : scalarFits (T.und t) v = true) (n : Nat) (w : World) : (Instr.checkKey e (n + 1) t v).run T.P w = .ok () w := by
  rcases scalarFits_cases h with ⟨j, k, i, hu, rfl⟩ | ⟨s, hu, rfl⟩
  · simp only [Instr.checkKey, bind_eq, pure_eq]
    rw [run_bind_of (hT.run_und hu)]
    rfl
  · simp only [Instr.checkKey, bind_eq, pure_eq]
    rw [run_bind_of (hT.run_und hu)]
    rfl
theorem keyFits_cases {t : TypeId} {v : Value} (h : keyFits T t v = true) : scalarFits (T.und t) v = true ∨ ∃ l fs, v = .agg ⟨l⟩ ∧ T.und t = some (.struct fs) ∧ fieldsFit T l fs.toList = true := by
  cases v with
  | agg l =>
    right
    obtain ⟨l⟩ := l
    have h : (match T.und t with | some (.struct fs) => fieldsFit T l fs.toList | _ => false) = true := h
    split at h
    · rename_i fs hu; exact ⟨l, fs, rfl, hu, h⟩
    · cases h
  | _ => exact .inl h
theorem run_checkKey (hT : TabOk T) {t : TypeId} {v : Value} {e : Bool} (hk : keyOk v = true) (h : keyFits T t v = true) (n : Nat) (w : World) : (Instr.checkKey e (n + 2) t v).run T.P w = .ok () w := by
  rcases keyFits_cases h with h | ⟨l, fs, rfl, hu, hf⟩
  · exact run_checkScalar hT h _ w
  · have hr : VRelL (fun _ => none) l l := by
      rcases keyOk_cases hk with h | ⟨l', he, hl⟩
      · cases h
      · cases he; exact allKey_self hl
    rw [Instr.checkKey]
    simp only [bind_eq, pure_eq]
    rw [run_bind_of (hT.run_und hu)]
    simp only
    rw [← Array.forIn_toList]
    have key : ∀ (fs : List Field) (w : World), fieldsFit T l fs = true → (forIn (m := Sem) fs PUnit.unit fun f r => (if f.name ≠ "_" then (part f.type ⟨l⟩ f.offset).bind fun x => (Instr.checkKey e (n + 1) f.type x).bind fun _ => Sem.pure (ForInStep.yield PUnit.unit)
        else Sem.pure (ForInStep.yield PUnit.unit) : Sem (ForInStep PUnit))).run T.P w = .ok PUnit.unit w := by
      intro fs
      induction fs with
      | nil => intro w _; rfl
      | cons f fs ih =>
        intro w hh
        have hh : ((match partO T f.type l f.offset with | some v => scalarFits (T.und f.type) v | none => false) && fieldsFit T l fs) = true := hh
        simp only [Bool.and_eq_true] at hh
        obtain ⟨h1, h2⟩ := hh
        simp only [List.forIn_cons, bind_eq, pure_eq]
        split at h1
        · rename_i v hp
          obtain ⟨v', hv', hrun⟩ := partO_rel hT hr hp
          have he : v' = v := atomKey_rel (by rcases scalarFits_cases h1 with ⟨j, k, i, _, rfl⟩ | ⟨s, _, rfl⟩ <;> rfl) hv'
          subst he
          split
          · rw [Sem.bind_assoc', run_bind_of hrun, Sem.bind_assoc', run_bind_of (run_checkScalar hT h1 n)]
            exact ih w h2
          · exact ih w h2
        · cases h1
    rw [run_bind_ok (key fs.toList w hf)]
    rfl
end

section
variable {T : Tab} {ρ : Rho}

theorem sameAtom_eq {v w : Value} (h : sameAtom v w = true) : v = w := by
  cases v with
  | int j a =>
    cases w with
    | int k b =>
      have h : (decide (j = k) && intEq a b) = true := h
      rw [intEq_eq] at h
      simp only [Bool.and_eq_true, decide_eq_true_eq, beq_iff_eq] at h
      rw [h.1, h.2]
    | _ => cases h
  | string a =>
    cases w with
    | string b =>
      have h : byteEq a.data.toList b.data.toList = true := h
      rw [byteEq_eq] at h
      have h := eq_of_beq h
      obtain ⟨⟨a⟩⟩ := a
      obtain ⟨⟨b⟩⟩ := b
      simp only at h
      rw [h]
    | _ => cases h
  | _ => cases h
theorem sameAtoms_eq : ∀ {l m : List Value}, sameAtoms l m = true → l = m
  | [], [], _ => rfl
  | [], _ :: _, h => by cases h
  | _ :: _, [], h => by cases h
  | v :: l, w :: m, h => by
    have h : (sameAtom v w && sameAtoms l m) = true := h
    simp only [Bool.and_eq_true] at h
    rw [sameAtom_eq h.1, sameAtoms_eq h.2]
theorem sameKey_eq {v w : Value} (h : sameKey v w = true) : v = w := by
  cases v with
  | agg l =>
    cases w with
    | agg m =>
      obtain ⟨l⟩ := l
      obtain ⟨m⟩ := m
      have h : sameAtoms l m = true := h
      rw [sameAtoms_eq h]
    | _ => cases h
  | _ => exact sameAtom_eq h

inductive FRel (ρ : Rho) (i : Nat) (es es' : List MapEntry) : Option (Nat × Value) → Option (Nat × Value) → Prop where
  | none : FRel ρ i es es' none none
  | some {j : Nat} {e e' : MapEntry} (h : es[j]? = some e) (h' : es'[j]? = some e') (r : ERel ρ e e') : FRel ρ i es es' (some (i + j, e.val)) (some (i + j, e'.val))

theorem sameNow_eqV {d : TypeDesc} {t n : Nat} {k x : Value} {b b' : Bool} (hu : T.und t = some d) (h : eqV T (n + 1) t k x = some b) (h' : Instr.sameNow d k x = some b') : b = b' := by
  unfold eqV at h
  rw [hu] at h
  unfold Instr.sameNow at h'
  split at h'
  · rename_i kk j a k' c
    have h : (match decide (j = k') with | true => some (intEq a c) | false => none) = some b := h
    split at h'
    · rename_i hk
      simp only [hk, decide_true, Option.some.injEq, intEq_eq] at h h'
      rw [← h, ← h']
    · cases h'
  · rename_i a c
    have h : some (byteEq a.data.toList c.data.toList) = some b := h
    simp only [Option.some.injEq, byteEq_eq] at h h'
    rw [← h, ← h', beq_toListBytes, toList_bytes, toList_bytes]
  · rename_i a c
    simp only [Option.some.injEq] at h'
    subst h'
    cases a <;> cases c <;> (first | (cases h; rfl))
  · cases h'

theorem findK_run (hT : TabOk T) {kt : TypeId} {k : Value} {d : TypeDesc} (hu : T.und kt = some d) (hk : keyOk k = true) : ∀ {es es' : List MapEntry} {i : Nat} {r : Option (Nat × Value)}, ERelL ρ es es' →
    findK T kt k es i = some r → ∃ r', FRel ρ i es es' r r' ∧ (∀ w, (Instr.findAsking kt k es' i).run T.P w = .ok r' w) ∧ ∀ r0, Instr.findNow d k es' i = some r0 → r0 = r' := by
  intro es
  induction es with
  | nil =>
    intro es' i r he h
    cases he
    simp only [findK, Option.some.injEq] at h
    subst h
    refine ⟨none, .none, fun w => rfl, fun r0 h => ?_⟩
    simp only [Instr.findNow, Option.some.injEq] at h
    exact h.symm
  | cons e es ih =>
    intro es' i r he h
    cases he with
    | @cons _ e' _ es' her het =>
    simp only [findK] at h
    have hkr := keyOk_self (ρ := ρ) hk
    have her' : VRel ρ e.key e'.key := by rw [her.key]; exact keyOk_self her.ok
    split at h
    · rename_i hev
      simp only [Option.some.injEq] at h
      subst h
      refine ⟨some (i, e'.val), .some (j := 0) rfl rfl her, fun w => ?_, fun r0 h0 => ?_⟩
      · simp only [Instr.findAsking, Op.equal, bind_eq, pure_eq]
        rw [run_bind_of (eqV_rel hT 20 hkr her' hev Op.maxDepth (by decide))]
        rfl
      · simp only [Instr.findNow] at h0
        cases hs : Instr.sameNow d k e'.key with
        | none => rw [hs] at h0; cases h0
        | some b =>
          rw [hs] at h0
          rw [her.key] at hs
          have := sameNow_eqV hu hev hs
          subst this
          simp only [Option.some.injEq] at h0
          exact h0.symm
    · rename_i hev
      obtain ⟨r', h1, h2, h3⟩ := ih het h
      refine ⟨r', ?_, fun w => ?_, fun r0 h0 => ?_⟩
      · cases h1 with
        | none => exact .none
        | @some j a a' hj hj' hr =>
          have e1 : i + 1 + j = i + (j + 1) := by omega
          rw [e1]
          exact .some (j := j + 1) (by simpa using hj) (by simpa using hj') hr
      · simp only [Instr.findAsking, Op.equal, bind_eq, pure_eq]
        rw [run_bind_of (eqV_rel hT 20 hkr her' hev Op.maxDepth (by decide))]
        exact h2 w
      · simp only [Instr.findNow] at h0
        cases hs : Instr.sameNow d k e'.key with
        | none => rw [hs] at h0; cases h0
        | some b =>
          rw [hs] at h0
          rw [her.key] at hs
          have := sameNow_eqV hu hev hs
          subst this
          exact h3 r0 h0
    · cases h

theorem findKey_run (hT : TabOk T) {kt : TypeId} {k : Value} {d : TypeDesc} (hu : T.und kt = some d) (hk : keyOk k = true) {es es' : List MapEntry} {r : Option (Nat × Value)} (he : ERelL ρ es es')
    (h : findK T kt k es 0 = some r) : ∃ r', FRel ρ 0 es es' r r' ∧ ∀ w, (Instr.findKey kt k es').run T.P w = .ok r' w := by
  obtain ⟨r', h1, h2, h3⟩ := findK_run hT hu hk he h
  refine ⟨r', h1, fun w => ?_⟩
  simp only [Instr.findKey, bind_eq, pure_eq]
  rw [run_bind_of (hT.run_und hu)]
  cases hf : Instr.findNow d k es' 0 with
  | none => exact h2 w
  | some r0 => rw [h3 _ hf]; rfl

theorem keyFits_und {t : TypeId} {v : Value} (h : keyFits T t v = true) : ∃ d, T.und t = some d := by
  rcases keyFits_cases h with h | ⟨_, _, _, hu, _⟩
  · rcases scalarFits_cases h with ⟨_, _, _, hu, _⟩ | ⟨_, hu, _⟩
    · exact ⟨_, hu⟩
    · exact ⟨_, hu⟩
  · exact ⟨_, hu⟩

theorem tell_rel (hT : TabOk T) {et : TypeId} {z : Value} {ok : Bool} {es es' : List MapEntry} {r r' : Option (Nat × Value)} (hz : T.zero et = some z) (h : FRel ρ 0 es es' r r') :
    SR T.P VRel ρ (.ret (tellA z ok r)) (match (generalizing := false) r' with
      | some (_, v) => Sem.pure (if ok = true then .tuple #[v, .bool true] else v)
      | none => (zeroValue et).bind fun v => Sem.pure (if ok = true then .tuple #[v, .bool false] else v)) := by
  have hzr := plain_rel (ρ := ρ) z (Tab.zero_plain hz)
  cases h with
  | none =>
    simp only
    refine SR.zero hT hz ?_
    cases ok with
    | true => exact .ret (.tuple (.cons hzr (.cons (.atom rfl) .nil)))
    | false => exact .ret hzr
  | some h h' hr =>
    cases ok with
    | true => exact .ret (.tuple (.cons hr.val (.cons (.atom rfl) .nil)))
    | false => exact .ret hr.val

theorem SR.checkKey (hT : TabOk T) {α β : Type} {R : Rho → α → β → Prop} {t : TypeId} {v : Value} {e : Bool} (hk : keyOk v = true) (h : keyFits T t v = true) {s : AS α} {f : Unit → Sem β} (k : SR T.P R ρ s (f ())) :
    SR T.P R ρ s ((Instr.checkKey e 10000 t v).bind f) := .step (run_checkKey hT hk h 9998) k

theorem lookup_rel (hT : TabOk T) {t : TypeId} {m m' k k' : Value} {ok : Bool} (hm : VRel ρ m m') (hk : VRel ρ k k') : SR T.P VRel ρ (aLookup T t m k ok) (Instr.lookup t m' k' ok) := by
  unfold aLookup
  split
  · rename_i kt et hu
    split
    · rename_i z hg hz
      simp only [Bool.and_eq_true] at hg
      obtain ⟨hko, hkf⟩ := hg
      obtain ⟨d, hd⟩ := keyFits_und hkf
      cases keyOk_rel hko hk
      cases m with
      | map r =>
        cases r with
        | none =>
          cases hm.mnil
          simp only [Instr.lookup, bind_eq, pure_eq]
          refine SR.und hT hu ?_
          simp only [Sem.bind]
          refine SR.checkKey hT hko hkf ?_
          obtain ⟨r', h1, h2⟩ := findKey_run (ρ := ρ) hT hd hko (.nil) (show findK T kt k [] 0 = some none from rfl)
          refine .step h2 ?_
          exact tell_rel hT hz h1
        | some r =>
          obtain ⟨b, rfl, hb⟩ := hm.toMap
          simp only [Instr.lookup, bind_eq, pure_eq]
          refine SR.und hT hu ?_
          simp only [getObj, Sem.bind]
          refine .getObj hb fun o o' ho hc => ?_
          cases ho with
          | @map es es' clock he =>
            simp only
            split
            · rename_i f hf
              refine SR.checkKey hT hko hkf ?_
              obtain ⟨r', h1, h2⟩ := findKey_run hT hd hko he hf
              refine .step h2 ?_
              exact tell_rel hT hz h1
            · exact .fail
          | cells => cases hc
          | _ => exact .fail
      | _ => exact .fail
    · exact .fail
  · exact .fail

theorem modNth_rel {f g : MapEntry → MapEntry} (hf : ∀ e e', ERel ρ e e' → ERel ρ (f e) (g e')) : ∀ {l l' : List MapEntry} (i : Nat), ERelL ρ l l' → ERelL ρ (modNth f l i) (l'.modify i g)
  | [], _, i, h => by cases h; cases i <;> exact .nil
  | e :: l, _, 0, h => by
    cases h with
    | cons h ht => exact .cons (hf _ _ h) ht
  | e :: l, _, i + 1, h => by
    cases h with
    | cons h ht => exact .cons h (modNth_rel hf i ht)
theorem delNth_rel : ∀ {l l' : List MapEntry} (i : Nat), ERelL ρ l l' → ERelL ρ (delNth l i) (l'.eraseIdx i)
  | [], _, i, h => by cases h; cases i <;> exact .nil
  | e :: l, _, 0, h => by
    cases h with
    | cons h ht => exact ht
  | e :: l, _, i + 1, h => by
    cases h with
    | cons h ht => exact .cons h (delNth_rel i ht)
theorem ERelL.append {a a' b b' : List MapEntry} (h : ERelL ρ a a') (k : ERelL ρ b b') : ERelL ρ (a ++ b) (a' ++ b') := by
  induction a generalizing a' with
  | nil => cases h; exact k
  | cons v l ih => cases h with | cons h ht => exact .cons h (ih ht)
theorem ERelL.length {a a' : List MapEntry} (h : ERelL ρ a a') : a.length = a'.length := by
  induction a generalizing a' with
  | nil => cases h; rfl
  | cons v l ih => cases h with | cons h ht => simp [ih ht]

theorem mapUpdate_rel (hT : TabOk T) {t : TypeId} {m m' k k' v v' : Value} (hm : VRel ρ m m') (hk : VRel ρ k k') (hv : VRel ρ v v') :
    SR T.P (fun _ _ _ => True) ρ (aMapUpdate T t m k v) (Instr.mapUpdate t m' k' v') := by
  unfold aMapUpdate
  split
  · rename_i kt et r hm hu
    split
    · rename_i hg
      simp only [Bool.and_eq_true] at hg
      obtain ⟨hko, hkf⟩ := hg
      obtain ⟨d, hd⟩ := keyFits_und hkf
      cases keyOk_rel hko hk
      obtain ⟨b, rfl, hb⟩ := hm.toMap
      simp only [Instr.mapUpdate, bind_eq]
      refine SR.und hT hu ?_
      simp only [getObj, Sem.bind]
      refine .getObj hb fun o o' ho hc => ?_
      cases ho with
      | @map es es' clock he =>
        simp only
        split
        · rename_i i x hf
          refine SR.checkKey hT hko hkf ?_
          obtain ⟨r', h1, h2⟩ := findKey_run hT hd hko he hf
          refine .step h2 ?_
          cases h1 with
          | @some j e e' he1 he2 hee =>
          rw [Nat.zero_add]
          split
          · rename_i e0 hn
            rw [nth_eq, he1] at hn
            cases hn
            split
            · rename_i hs
              have hs := sameKey_eq hs
              have hold : ((((⟨es'⟩ : Array MapEntry)[j]?).map (·.key)).getD k) = k := by
                have : (⟨es'⟩ : Array MapEntry)[j]? = some e' := by simpa using he2
                rw [this]
                simp only [Option.map_some, Option.getD_some]
                rw [hee.key, hs]
              simp only [hold, Instr.keyThatStays, keyOk_bits hko, if_true, bind_eq, pure_eq, Sem.bind, setObj]
              have hmod : (⟨es'⟩ : Array MapEntry).modify j (fun e => { e with key := k, val := v' }) = ⟨es'.modify j fun e => { e with key := k, val := v' }⟩ := by
                apply Array.ext'; simp
              rw [hmod]
              refine .setObj hb (.map (modNth_rel (fun a a' hr => ?_) j he)) (.ret trivial)
              exact ⟨rfl, hko, hv, hr.born⟩
            · exact .fail
          · exact .fail
        · rename_i hf
          refine SR.checkKey hT hko hkf ?_
          obtain ⟨r', h1, h2⟩ := findKey_run hT hd hko he hf
          refine .step h2 ?_
          cases h1
          simp only [setObj]
          have hp : (⟨es'⟩ : Array MapEntry).push { key := k, val := v', born := clock } = ⟨es' ++ [{ key := k, val := v', born := clock }]⟩ := by
            apply Array.ext'; simp
          rw [hp]
          exact .setObj hb (.map (he.append (.cons ⟨rfl, hko, hv, rfl⟩ .nil))) (.ret trivial)
        · exact .fail
      | cells => cases hc
      | _ => exact .fail
    · exact .fail
  · exact .fail

theorem delete_rel (hT : TabOk T) {t rt : TypeId} {ts : List TypeId} {m m' k k' : Value} (hm : VRel ρ m m') (hk : VRel ρ k k') :
    SR T.P VRel ρ (aDelete T t m k) (Builtin.delete_ ⟨t :: ts⟩ rt #[m', k']) := by
  unfold aDelete
  split
  · rename_i kt et r hm hu
    split
    · rename_i hg
      simp only [Bool.and_eq_true] at hg
      obtain ⟨hko, hkf⟩ := hg
      obtain ⟨d, hd⟩ := keyFits_und hkf
      cases keyOk_rel hko hk
      obtain ⟨b, rfl, hb⟩ := hm.toMap
      have e1 : (⟨t :: ts⟩ : Array TypeId)[0]? = some t := rfl
      have e2 : (#[Value.map (some b.blk), k] : Array Value)[0]? = some (Value.map (some b.blk)) := rfl
      have e3 : (#[Value.map (some b.blk), k] : Array Value)[1]? = some k := rfl
      simp only [Builtin.delete_, e1, e2, e3, bind_eq, pure_eq]
      refine SR.und hT hu ?_
      simp only [getObj, Sem.bind]
      refine .getObj hb fun o o' ho hc => ?_
      cases ho with
      | @map es es' clock he =>
        simp only
        split
        · rename_i i x hf
          refine SR.checkKey hT hko hkf ?_
          obtain ⟨r', h1, h2⟩ := findKey_run hT hd hko he hf
          refine .step h2 ?_
          cases h1 with
          | @some j e e' he1 he2 hee =>
          rw [Nat.zero_add]
          simp only [setObj, Sem.bind]
          have hmod : (⟨es'⟩ : Array MapEntry).eraseIdxIfInBounds j = ⟨es'.eraseIdx j⟩ := by
            apply Array.ext'; simp
          rw [hmod]
          exact .setObj hb (.map (delNth_rel j he)) (.ret (.tuple .nil))
        · rename_i hf
          refine SR.checkKey hT hko hkf ?_
          obtain ⟨r', h1, h2⟩ := findKey_run hT hd hko he hf
          refine .step h2 ?_
          cases h1
          simp only [setObj, Sem.bind]
          exact .setObj hb (.map he) (.ret (.tuple .nil))
        · exact .fail
      | cells => cases hc
      | _ => exact .fail
    · exact .fail
  · exact .fail

theorem range_rel (hT : TabOk T) {t : TypeId} {x x' : Value} (hx : VRel ρ x x') : SR T.P VRel ρ (aRange T t x) (Instr.range t x') := by
  unfold aRange
  split
  · rename_i s hu
    rename_i hx
    cases hx.string
    simp only [Instr.range, bind_eq, pure_eq]
    refine SR.und hT hu ?_
    simp only [newObj, Sem.bind]
    exact .new (av := 0) (sz := 0) (fun _ => .strIter) fun ρ' r r' hle hr => .ret (.ptr (.mk (o := 0) hr))
  · rename_i hu
    rename_i hx
    cases hx.mnil
    simp only [Instr.range, bind_eq, pure_eq]
    refine SR.und hT hu ?_
    simp only [newObj, Sem.bind]
    exact .new (av := 0) (sz := 0) (fun _ => .mapIterNil) fun ρ' r r' hle hr => .ret (.ptr (.mk (o := 0) hr))
  · rename_i m hu
    rename_i hx
    obtain ⟨b, rfl, hb⟩ := hx.toMap
    simp only [Instr.range, bind_eq, pure_eq]
    refine SR.und hT hu ?_
    simp only [getObj, newObj, Sem.bind]
    refine .getObj hb fun o o' ho hc => ?_
    cases ho with
    | map he => exact .new (av := 0) (sz := 0) (fun _ => .mapIter hb) fun ρ' r r' hle hr => .ret (.ptr (.mk (o := 0) hr))
    | cells => cases hc
    | _ => exact .fail
  · exact .fail
end

section
variable {T : Tab} {ρ : Rho}

theorem next_over {P : Program} {n : Nat} (hn : n ≤ 1) {k : Nat → Sem Value} (w : World) : (Sem.choose (.mapNext n) k).run P w = (k 0).run P w := by
  simp [Sem.run, Question.forced, hn]

theorem filter_rel {p : MapEntry → Bool} (hp : ∀ e e', ERel ρ e e' → p e' = p e) : ∀ {l l' : List MapEntry}, ERelL ρ l l' → ERelL ρ (l.filter p) (l'.filter p)
  | [], _, h => by cases h; exact .nil
  | e :: l, _, h => by
    cases h with
    | @cons _ e' _ l' h ht =>
      have := hp _ _ h
      simp only [List.filter_cons, this]
      split
      · exact .cons h (filter_rel hp ht)
      · exact filter_rel hp ht
theorem any_contains (l : List Nat) (n : Nat) : (l.any fun b => Nat.beq b n) = (⟨l⟩ : Array Nat).contains n := by
  simp only [List.contains_toArray]
  induction l with
  | nil => rfl
  | cons x l ih =>
    simp only [List.any_cons, List.contains_cons, ih]
    congr 1
    by_cases h : x = n
    · subst h; simp
    · have h1 : Nat.beq x n = false := by
        cases hb : Nat.beq x n
        · rfl
        · exact absurd (Nat.eq_of_beq_eq_true hb) h
      rw [h1]
      simp only [Bool.false_eq, beq_eq_false_iff_ne, ne_eq]
      exact fun h' => h h'.symm

theorem stepOk_rel {seen : List Nat} {es es' : List MapEntry} {last : Nat} (h : ERelL ρ es es') (hs : stepOk seen es last = true) :
    (!(⟨seen⟩ : Array Nat).isEmpty && !(⟨es'⟩ : Array MapEntry).isEmpty && (⟨es'⟩ : Array MapEntry).all (fun e => decide (e.born ≥ last))) = false := by
  cases seen with
  | nil => rfl
  | cons x seen =>
    cases h with
    | nil => simp
    | @cons e e' l l' h ht =>
      have hs : (List.any (e :: l) fun e => Nat.blt e.born last) = true := hs
      obtain ⟨a, ha, hlt⟩ := List.any_eq_true.1 hs
      have hlt : a.born < last := Nat.le_of_ble_eq_true hlt
      have : ∃ a' ∈ (e' :: l'), a'.born < last := by
        have key : ∀ {l l' : List MapEntry}, ERelL ρ l l' → a ∈ l → ∃ a' ∈ l', a'.born < last := by
          intro l
          induction l with
          | nil => intro _ _ hm; cases hm
          | cons x l ih =>
            intro l' hr hm
            cases hr with
            | @cons _ x' _ l' h ht =>
              rcases List.mem_cons.1 hm with rfl | hm
              · exact ⟨x', by simp, by rw [h.born]; exact hlt⟩
              · obtain ⟨a', h1, h2⟩ := ih ht hm
                exact ⟨a', by simp [h1], h2⟩
        exact key (.cons h ht) ha
      obtain ⟨a', h1, h2⟩ := this
      have : ((⟨e' :: l'⟩ : Array MapEntry).all (fun e => decide (e.born ≥ last))) = false := by
        rw [← Array.all_toList, List.all_eq_false]
        exact ⟨a', h1, by simp; omega⟩
      rw [this, Bool.and_false]

/-- an iterator's own block begins at its base -/
theorem SR.iter {P : Program} {α β : Type} {R : Rho → α → β → Prop} {r : Nat} {k : Obj → AS α} {x' : Value} {f : Value → Sem β} (hx : VRel ρ (.pointer (some ⟨r, 0, none⟩)) x')
    (h : ∀ b, ρ r = some b → b.base = 0 → SR P R ρ (.getObj r k) (f (.pointer (some ⟨b.blk, 0, none⟩)))) : SR P R ρ (.getObj r k) (f x') := by
  obtain ⟨a', rfl, ha⟩ := hx.toPtr
  cases ha with
  | @mk _ _ b hb =>
  refine .based hb fun h0 => ?_
  have := h b hb h0
  rw [h0]
  exact this

theorem next_rel {P : Program} {x x' : Value} {str : Bool} {t : TypeId} (hx : VRel ρ x x') : SR P VRel ρ (aNext x str) (Instr.next x' str t) := by
  unfold aNext
  split
  · rename_i r sp
    have hsp : sp = none := by
      obtain ⟨a', _, ha⟩ := hx.toPtr
      cases ha; rfl
    subst hsp
    refine SR.iter (f := fun x => Instr.next x str t) hx fun b hb h0 => ?_
    simp only [Instr.next, getObj, bind_eq, pure_eq, Sem.bind]
    refine .getObj hb fun o o' ho hc => ?_
    cases ho with
    | cells => cases hc
    | @strIter s pos =>
      cases str with
      | false => exact .fail
      | true =>
        simp only
        split
        · rename_i hlt
          have hlt : pos < s.data.toList.length := Nat.le_of_ble_eq_true hlt
          have hsz : pos < s.size := hlt
          rw [if_pos hsz]
          simp only [setObj, Sem.bind]
          exact .setObj hb .strIter (.ret (.tuple (.cons (.atom rfl) (.cons (.atom rfl) (.cons (.atom rfl) .nil)))))
        · rename_i hlt
          have hsz : ¬ pos < s.size := by
            intro h
            have : Nat.blt pos s.data.toList.length = true := Nat.ble_eq_true_of_le h
            rw [this] at hlt; cases hlt
          rw [if_neg hsz]
          exact .ret (.tuple (.cons (.atom rfl) .nil))
    | mapIterNil =>
      cases str with
      | true => exact .fail
      | false => exact .ret (.tuple (.cons (.atom rfl) .nil))
    | @mapIter m since stepped seen bm hm =>
      cases str with
      | true => exact .fail
      | false =>
        simp only
        refine .getObj hm fun o o' ho hc => ?_
        cases ho with
        | cells => cases hc
        | @map es es' clock he =>
          simp only
          obtain ⟨seen⟩ := seen
          split
          · exact .fail
          · rename_i hok
            have hg := stepOk_rel he hok
            simp only [hg, Bool.false_eq_true, if_false, choose, Sem.bind]
            have hf := filter_rel (p := fun e => !(seen.any fun b => Nat.beq b e.born)) (fun e e' h => by rw [h.born]) he
            have hleft : ((⟨es'⟩ : Array MapEntry).filter fun e => !(⟨seen⟩ : Array Nat).contains e.born) = ⟨es'.filter fun e => !(seen.any fun b => Nat.beq b e.born)⟩ := by
              apply Array.ext'
              simp only [Array.toList_filter]
              congr 1
              funext e
              rw [any_contains]
            rw [hleft]
            generalize es'.filter (fun e => !(seen.any fun b => Nat.beq b e.born)) = left' at hf
            split
            · rename_i hl
              have hl : es.filter (fun e => !(seen.any fun b => Nat.beq b e.born)) = [] := hl
              rw [hl] at hf
              cases hf
              have h1 : (⟨[]⟩ : Array MapEntry).filter (fun e => decide (e.born < since)) = ⟨[]⟩ := by
                apply Array.ext'; simp
              have h2 : (⟨[]⟩ : Array MapEntry).filter (fun e => decide (e.born ≥ since)) = ⟨[]⟩ := by
                apply Array.ext'; simp
              rw [h1, h2]
              have hcand : ((if (⟨[]⟩ : Array MapEntry).isEmpty = true then (#[none] : Array (Option MapEntry)) else #[]) ++ Array.map some ((⟨[]⟩ : Array MapEntry) ++ ⟨[]⟩)) = #[none] := by simp
              rw [hcand]
              refine .equiv (fun w => next_over (Nat.le_refl 1) w) ?_
              exact .ret (.tuple (.cons (.atom rfl) .nil))
            · rename_i e hl
              have hl : es.filter (fun e => !(seen.any fun b => Nat.beq b e.born)) = [e] := hl
              rw [hl] at hf
              cases hf with
              | @cons _ e' _ l' hee ht =>
              cases ht
              split
              · rename_i hlt
                have hlt : e.born < since := Nat.le_of_ble_eq_true hlt
                have hlt' : e'.born < since := by rw [hee.born]; exact hlt
                have h1 : (⟨[e']⟩ : Array MapEntry).filter (fun e => decide (e.born < since)) = ⟨[e']⟩ := by
                  apply Array.ext'; simp [hlt']
                have h2 : (⟨[e']⟩ : Array MapEntry).filter (fun e => decide (e.born ≥ since)) = ⟨[]⟩ := by
                  apply Array.ext'; simp [hlt']
                rw [h1, h2]
                have hcand : ((if (⟨[e']⟩ : Array MapEntry).isEmpty = true then (#[none] : Array (Option MapEntry)) else #[]) ++ Array.map some ((⟨[e']⟩ : Array MapEntry) ++ ⟨[]⟩)) = #[some e'] := by simp
                rw [hcand]
                refine .equiv (fun w => next_over (Nat.le_refl 1) w) ?_
                refine (show SR P VRel ρ _ ((setObj b.blk (.mapIter (some bm.blk) since ((⟨seen⟩ : Array Nat).push e'.born) clock)).bind fun _ => Sem.pure (.tuple #[.bool true, e'.key, e'.val])) from ?_)
                simp only [setObj, Sem.bind]
                refine .setObj hb ?_ (.ret (.tuple (.cons (.atom rfl) (.cons ?_ (.cons hee.val .nil)))))
                · have : (⟨seen⟩ : Array Nat).push e'.born = ⟨seen ++ [e.born]⟩ := by
                    apply Array.ext'; simp [hee.born]
                  rw [this]
                  exact .mapIter hm
                · rw [hee.key]; exact keyOk_self hee.ok
              · exact .fail
            · exact .fail
        | _ => exact .fail
    | _ => exact .fail
  · exact .fail
end

section
variable {T : Tab} {ρ : Rho}

theorem lastOf_eq : ∀ (l : List Nat), lastOf l = l.getLast?
  | [] => rfl
  | [x] => rfl
  | x :: y :: l => by
    have : lastOf (x :: y :: l) = lastOf (y :: l) := rfl
    rw [this, lastOf_eq (y :: l)]
    simp [List.getLast?_cons_cons]
theorem find_rel {stamp : Nat} : ∀ {l l' : List MapEntry} {e : MapEntry}, ERelL ρ l l' → l.find? (fun e => Nat.beq e.born stamp) = some e → ∃ e', l'.find? (fun e => e.born == stamp) = some e' ∧ ERel ρ e e'
  | [], _, _, h, hf => by cases hf
  | x :: l, _, e, h, hf => by
    cases h with
    | @cons _ x' _ l' h ht =>
      have hb : (x'.born == stamp) = Nat.beq x.born stamp := by
        rw [h.born]
        by_cases hs : x.born = stamp
        · subst hs; simp
        · have : Nat.beq x.born stamp = false := by
            cases hb : Nat.beq x.born stamp
            · rfl
            · exact absurd (Nat.eq_of_beq_eq_true hb) hs
          rw [this]; simpa using hs
      simp only [List.find?_cons] at hf ⊢
      rw [hb]
      split at hf
      · rename_i hx
        cases hf
        exact ⟨x', rfl, h⟩
      · rename_i hx
        exact find_rel ht hf

theorem entry_rel {P : Program} {x x' : Value} (hx : VRel ρ x x') : SR P VRel ρ (aEntry x) (Instr.entry x') := by
  unfold aEntry
  split
  · rename_i r sp
    have hsp : sp = none := by
      obtain ⟨a', _, ha⟩ := hx.toPtr
      cases ha; rfl
    subst hsp
    refine SR.iter (f := fun x => Instr.entry x) hx fun b hb h0 => ?_
    simp only [Instr.entry, getObj, bind_eq, pure_eq, Sem.bind]
    refine .getObj hb fun o o' ho hc => ?_
    cases ho with
    | cells => cases hc
    | @mapIter m since stepped seen bm hm =>
      simp only
      obtain ⟨seen⟩ := seen
      split
      · rename_i stamp hl
        have hl : lastOf seen = some stamp := hl
        rw [lastOf_eq] at hl
        have hback : (⟨seen⟩ : Array Nat).back? = some stamp := by
          rw [← hl]; simp
        rw [hback]
        simp only
        refine .getObj hm fun o o' ho hc => ?_
        cases ho with
        | cells => cases hc
        | @map es es' clock he =>
          simp only
          split
          · rename_i hcl
            have hcl := Nat.eq_of_beq_eq_true hcl
            subst hcl
            split
            · rename_i e hf
              obtain ⟨e', h1, h2⟩ := find_rel he hf
              have : (⟨es'⟩ : Array MapEntry).find? (fun e => e.born == stamp) = some e' := by
                simpa using h1
              simp only [bne_self_eq_false, Bool.false_eq_true, if_false, this]
              refine .ret (.tuple (.cons ?_ (.cons h2.val .nil)))
              rw [h2.key]; exact keyOk_self h2.ok
            · exact .fail
          · exact .fail
        | _ => exact .fail
      · exact .fail
    | _ => exact .fail
  · exact .fail

theorem len_rel (hT : TabOk T) {t rt : TypeId} {ts : List TypeId} {x x' : Value} (hx : VRel ρ x x') : SR T.P VRel ρ (aLen T t x) (Builtin.len_ ⟨t :: ts⟩ rt #[x']) := by
  have e1 : (⟨t :: ts⟩ : Array TypeId)[0]? = some t := rfl
  have e2 : (#[x'] : Array Value)[0]? = some x' := rfl
  simp only [Builtin.len_, e1, e2, bind_eq, pure_eq]
  unfold aLen
  split
  · rename_i s hu
    cases hx.string
    refine SR.und hT hu ?_
    exact .ret (.atom rfl)
  · rename_i n e hu
    refine SR.und hT hu ?_
    exact .ret (.atom rfl)
  · rename_i n c hu
    refine SR.und hT hu ?_
    cases hx with
    | atom h => exact .ret (.atom rfl)
    | slice _ _ => exact .ret (.atom rfl)
    | loose _ _ _ _ _ _ _ => exact .ret (.atom rfl)
  · rename_i e hu
    refine SR.und hT hu ?_
    cases hx with
    | atom h => cases h
    | shortS h => exact .ret (.shortI h)
  · rename_i e hu
    refine SR.und hT hu ?_
    cases hx with
    | atom h => cases h
    | longS h => exact .ret (.longI h)
  · rename_i hu
    cases hx.mnil
    refine SR.und hT hu ?_
    exact .ret (.atom rfl)
  · rename_i r hu
    obtain ⟨b, rfl, hb⟩ := hx.toMap
    refine SR.und hT hu ?_
    simp only [getObj, Sem.bind]
    refine .getObj hb fun o o' ho hc => ?_
    cases ho with
    | cells => cases hc
    | @map es es' clock he =>
      refine .ret ?_
      have : es.length = (⟨es'⟩ : Array MapEntry).size := he.length
      rw [show goI es.length = goInt (⟨es'⟩ : Array MapEntry).size from by rw [← this]; rfl]
      exact .atom rfl
    | _ => exact .fail
  · exact .fail

theorem cap_rel (hT : TabOk T) {t rt : TypeId} {ts : List TypeId} {x x' : Value} (hx : VRel ρ x x') : SR T.P VRel ρ (aCap T t x) (Builtin.cap_ ⟨t :: ts⟩ rt #[x']) := by
  have e1 : (⟨t :: ts⟩ : Array TypeId)[0]? = some t := rfl
  have e2 : (#[x'] : Array Value)[0]? = some x' := rfl
  simp only [Builtin.cap_, e1, e2, bind_eq, pure_eq]
  unfold aCap
  split
  · rename_i n e hu
    refine SR.und hT hu ?_
    exact .ret (.atom rfl)
  · rename_i n c hu
    split
    · rename_i hl
      have hl := Nat.le_of_ble_eq_true hl
      refine SR.und hT hu ?_
      cases hx with
      | atom h => exact .ret (.geI (Nat.mod_le _ _))
      | slice _ hc => omega
      | @loose i o x n c c' b h hx hn hc ho hl' hz =>
        have e : (loose * b.size + c) % loose = c := by
          rw [Nat.mul_add_mod, Nat.mod_eq_of_lt hl']
        rw [e]
        exact .ret (.geI hc)
    · rename_i hl
      refine SR.und hT hu ?_
      cases hx with
      | atom h => exact .ret (.atom rfl)
      | slice _ _ => exact .ret (.atom rfl)
      | @loose i o x n c c' b h hx hn hc ho hl' hz =>
        have : loose ≤ loose * b.size + c := Nat.le_trans (by exact Nat.le_mul_of_pos_right _ hz) (Nat.le_add_right _ _)
        have := Nat.ble_eq_true_of_le this
        rw [this] at hl
        cases hl
  · exact .fail
end

section
variable {T : Tab} {ρ : Rho}

theorem VRel.toSlice {a : Addr} {n c : Nat} {v : Value} (h : VRel ρ (.slice (some a) n c) v) : ∃ a' c', v = .slice (some a') n c' ∧ (n = 0 ∨ AddrRel ρ a a') := by
  cases h with
  | atom h => cases h
  | slice h _ => exact ⟨_, _, rfl, .inr h⟩
  | loose h hx hn _ _ _ _ =>
    refine ⟨_, _, rfl, ?_⟩
    rcases hx with hx | hx
    · subst hx; exact .inr (.mk h)
    · left; omega

theorem zeroCells_rep (l : List Value) (n : Nat) : Builtin.zeroCells ⟨l⟩ n = ⟨rep n l⟩ := by
  unfold Builtin.zeroCells
  by_cases h : l = []
  · subst h
    have : ∀ n, rep n ([] : List Value) = [] := by
      intro n
      induction n with
      | zero => rfl
      | succ n ih => simp [rep, ih]
    simp [this]
  · have hl : 1 ≤ l.length := by
      cases l with
      | nil => exact absurd rfl h
      | cons => simp
    exact range_map_rep l hl n

theorem lst_cells (v : Value) : lst v = v.cells.toList := by cases v <;> rfl
theorem zero_cells {t : TypeId} {z : Value} (hz : T.zero t = some z) : VRelL ρ (lst z) (lst z) := by
  have hpl := Tab.zero_plain hz
  have h := (plain_rel (ρ := ρ) z hpl).lst' (plain_known hpl)
  rw [← lst_cells] at h
  exact h

theorem clear_rel (hT : TabOk T) {t rt : TypeId} {ts : List TypeId} {x x' : Value} (hx : VRel ρ x x') : SR T.P VRel ρ (aClear T t x) (Builtin.clear_ ⟨t :: ts⟩ rt #[x']) := by
  have e1 : (⟨t :: ts⟩ : Array TypeId)[0]? = some t := rfl
  have e2 : (#[x'] : Array Value)[0]? = some x' := rfl
  simp only [Builtin.clear_, e1, e2, bind_eq, pure_eq]
  unfold aClear
  split
  · rename_i k e hu
    cases hx.mnil
    refine SR.und hT hu ?_
    exact .ret (.tuple .nil)
  · rename_i e n c hu
    cases hx.snil
    refine SR.und hT hu ?_
    exact .ret (.tuple .nil)
  · rename_i e a n c hu
    obtain ⟨a', c', rfl, ha⟩ := hx.toSlice
    split
    · refine SR.und hT hu ?_
      exact .ret (.tuple .nil)
    · rename_i n z hz
      refine SR.und hT hu ?_
      refine SR.zero hT hz ?_
      have : (Builtin.zeroCells z.cells n.succ) = ⟨rep (n + 1) (lst z)⟩ := by
        rw [lst_cells]
        exact zeroCells_rep z.cells.toList (n + 1)
      rw [this]
      rcases ha with ha | ha
      · omega
      · exact .stores (.inr ha) (rep_rel (zero_cells hz) _) (.ret (.tuple .nil))
    · exact .fail
  · rename_i r k e hu
    obtain ⟨b, rfl, hb⟩ := hx.toMap
    refine SR.und hT hu ?_
    simp only [getObj, setObj, Sem.bind]
    refine .getObj hb fun o o' ho hc => ?_
    cases ho with
    | cells => cases hc
    | @map es es' clock he =>
      simp only
      exact .setObj hb (.map .nil) (.ret (.tuple .nil))
    | _ => exact .fail
  · exact .fail

theorem bytesCells_rel (l : List UInt8) : VRelL ρ (lst2 (fun (b : UInt8) => Value.int .u8 (.ofNat b.toNat)) l) (l.map fun (b : UInt8) => Value.int .u8 (b.toNat : Int)) := by
  induction l with
  | nil => exact .nil
  | cons b l ih => exact .cons (.atom rfl) ih

theorem firstA_rel {P : Program} {size n : Nat} {x x' : Value} {len : Nat} (hx : VRel ρ x x') (hlen : lenA x = some len) (hn : n ≤ len) {k : List Value → AS Value} {f : Array Value → Sem Value}
    (h : ∀ vs vs', VRelL ρ vs vs' → vs.length = n * size → SR P VRel ρ (k vs) (f ⟨vs'⟩)) : SR P VRel ρ (firstA size n x k) ((Builtin.firstCells size n x').bind f) := by
  unfold firstA
  split
  · rename_i a m c
    obtain ⟨a', c', rfl, ha⟩ := hx.toSlice
    have : len = m := by cases hlen; rfl
    subst this
    refine .loads (ha.imp (fun h0 => ?_) id) h
    have : n = 0 := by omega
    rw [this, Nat.zero_mul]
  · rename_i m c
    cases hx.snil
    split
    · exact h [] [] .nil (by simp)
    · exact .fail
  · rename_i s
    cases hx.string
    split
    · rename_i hs
      have hs := Nat.eq_of_beq_eq_true hs
      subst hs
      have : len = s.data.toList.length := by cases hlen; rfl
      subst this
      simp only [Builtin.firstCells, pure_eq, Sem.bind]
      rw [bytes_extract]
      have hmap : ((⟨⟨(s.data.toList.take n).drop 0⟩⟩ : ByteArray).data.map fun b => Value.int .u8 (b.toNat : Int)) = ⟨(s.data.toList.take n).map fun (b : UInt8) => Value.int .u8 (b.toNat : Int)⟩ := by
        apply Array.ext'; simp
      rw [hmap]
      refine h _ _ (bytesCells_rel _) ?_
      rw [lst2_eq, List.length_map, List.length_take, Nat.mul_one]
      exact Nat.min_eq_left hn
    · exact .fail
  · exact .fail

theorem firstA_swap {P : Program} {size n : Nat} {x x' : Value} {len : Nat} {c : Addr} {m : Nat} (hx : VRel ρ x x') (hlen : lenA x = some len) (hn : n ≤ len) {k : List Value → AS Value} {f : Array Value → Array Value → Sem Value}
    (h : ∀ vs vs', VRelL ρ vs vs' → vs.length = n * size → SR P VRel ρ (k vs) ((loadCells c m).bind fun old => f old ⟨vs'⟩)) :
    SR P VRel ρ (firstA size n x k) ((loadCells c m).bind fun old => (Builtin.firstCells size n x').bind fun new => f old new) := by
  unfold firstA
  split
  · rename_i a m c
    obtain ⟨a', c', rfl, ha⟩ := hx.toSlice
    have : len = m := by cases hlen; rfl
    subst this
    refine .swap (ha.imp (fun h0 => ?_) id) h
    have : n = 0 := by omega
    rw [this, Nat.zero_mul]
  · rename_i m c
    cases hx.snil
    split
    · exact h [] [] .nil (by simp)
    · exact .fail
  · rename_i s
    cases hx.string
    split
    · rename_i hs
      have hs := Nat.eq_of_beq_eq_true hs
      subst hs
      have : len = s.data.toList.length := by cases hlen; rfl
      subst this
      simp only [Builtin.firstCells, pure_eq, Sem.bind]
      rw [bytes_extract]
      have hmap : ((⟨⟨(s.data.toList.take n).drop 0⟩⟩ : ByteArray).data.map fun b => Value.int .u8 (b.toNat : Int)) = ⟨(s.data.toList.take n).map fun (b : UInt8) => Value.int .u8 (b.toNat : Int)⟩ := by
        apply Array.ext'; simp
      rw [hmap]
      refine h _ _ (bytesCells_rel _) ?_
      rw [lst2_eq, List.length_map, List.length_take, Nat.mul_one]
      exact Nat.min_eq_left hn
    · exact .fail
  · exact .fail

theorem run_lenOf {P : Program} {x x' : Value} {n : Nat} (hx : VRel ρ x x') (h : lenA x = some n) (w : World) : (Builtin.lenOf x').run P w = .ok n w := by
  unfold lenA at h
  split at h
  · rename_i a m c
    cases h
    cases a with
    | none => cases hx.snil; rfl
    | some a => obtain ⟨a', c', rfl, _⟩ := hx.toSlice; rfl
  · cases h
    cases hx.string
    rfl
  · cases h

theorem copy_rel (hT : TabOk T) {t rt : TypeId} {ts : List TypeId} {d d' x x' : Value} (hd : VRel ρ d d') (hx : VRel ρ x x') :
    SR T.P VRel ρ (aCopy T t d x) (Builtin.copy_ ⟨t :: ts⟩ rt #[d', x']) := by
  have e1 : (⟨t :: ts⟩ : Array TypeId)[0]? = some t := rfl
  have e2 : (#[d', x'] : Array Value)[0]? = some d' := rfl
  have e3 : (#[d', x'] : Array Value)[1]? = some x' := rfl
  simp only [Builtin.copy_, e1, e2, e3, bind_eq, pure_eq]
  unfold aCopy
  split
  · rename_i e base n c k hu hl
    split
    · rename_i z hz
      refine SR.und hT hu ?_
      cases base with
      | none =>
        cases hd.snil
        simp only
        refine .step (run_lenOf hx hl) ?_
        refine SR.size hT hz ?_
        refine firstA_rel hx hl (Nat.min_le_left _ _) fun vs vs' hv hvl => ?_
        exact .ret (.atom rfl)
      | some a =>
        obtain ⟨a', c', rfl, ha⟩ := hd.toSlice
        simp only
        refine .step (run_lenOf hx hl) ?_
        refine SR.size hT hz ?_
        refine firstA_rel hx hl (Nat.min_le_left _ _) fun vs vs' hv hvl => ?_
        refine .stores (ha.imp (fun h0 => ?_) id) hv (.ret (.atom rfl))
        have : vs.length = 0 := by rw [hvl, h0, Nat.min_zero, Nat.zero_mul]
        exact List.length_eq_zero_iff.1 this
    · exact .fail
  · exact .fail
end

section
variable {T : Tab} {ρ : Rho}

theorem growBy_le (n : Nat) : ∀ (r c : Nat), Builtin.growBy n r c ≤ max c (n + (n + 768) / 4) := by
  intro r
  induction r with
  | zero => intro c; exact Nat.le_max_left _ _
  | succ r ih =>
    intro c
    simp only [Builtin.growBy]
    split
    · exact Nat.le_max_left _ _
    · have := ih (c + (c + 768) / 4)
      omega
theorem nextslicecap_le {n o : Nat} (h : o < n) : Builtin.nextslicecap n o ≤ 2 * n + 192 := by
  unfold Builtin.nextslicecap
  split
  · omega
  · split
    · omega
    · have := growBy_le n 4 o
      omega

theorem run_bind_congr {P : Program} {α β : Type} {x : Sem α} {f g : α → Sem β} (h : ∀ a w, (f a).run P w = (g a).run P w) (w : World) : (x.bind f).run P w = (x.bind g).run P w := by
  rw [Sem.run_bind', Sem.run_bind']
  cases x.run P w <;> simp [Result.andThen, h]

theorem append_one (hT : TabOk T) {t rt e : TypeId} {rest : List TypeId} {x' : Value} {base' : Option Addr} {n cap' z : Nat} (hm : noMake T rest = true)
    (hu : T.und t = some (.slice e)) (hz : T.size e = some z) (w : World) :
    (Builtin.append_ ⟨t :: rest⟩ rt #[.slice base' n cap', x']).run T.P w = (Builtin.append_ ⟨[t]⟩ rt #[.slice base' n cap', x']).run T.P w := by
  have e2 : (#[.slice base' n cap', x'] : Array Value)[0]? = some (.slice base' n cap') := rfl
  have e3 : (#[.slice base' n cap', x'] : Array Value)[1]? = some x' := rfl
  cases rest with
  | nil => rfl
  | cons y rest =>
    have e1 : (⟨t :: y :: rest⟩ : Array TypeId)[0]? = some t := rfl
    have e4 : (⟨t :: y :: rest⟩ : Array TypeId)[1]? = some y := rfl
    have e5 : (⟨[t]⟩ : Array TypeId)[0]? = some t := rfl
    have e6 : (⟨[t]⟩ : Array TypeId)[1]? = none := rfl
    have h : (match T.und y with | some (.int _) => false | some _ => true | none => false) = true := hm
    simp only [Builtin.append_, e1, e2, e3, e4, e5, e6, bind_eq, pure_eq]
    rw [run_bind_of (hT.run_und hu), run_bind_of (hT.run_und hu)]
    simp only
    rw [run_bind_of (hT.run_size hz), run_bind_of (hT.run_size hz)]
    split at h
    · cases h
    · rename_i d hn hy
      rw [run_bind_of (hT.run_und hy)]
      cases d <;> first | rfl | exact (hn _ rfl).elim
    · cases h

/-- the two ways of the model's `append` -/
theorem append_head (hT : TabOk T) {t rt e : TypeId} {rest : List TypeId} {x x' : Value} {base' : Option Addr} {n cap' k z : Nat} {i : TypeInfo} {zero : Value} {A : AS Value} (hm : noMake T rest = true)
    (hx : VRel ρ x x') (hu : T.und t = some (.slice e)) (hl : lenA x = some k) (hz : T.size e = some z) (hi : T.info e = some i) (hzero : T.zero e = some zero)
    (hbig : (n + k + 1) * (i.bytes + 1) ≤ 1000000000000)
    (h1 : n + k ≤ cap' → SR T.P VRel ρ A ((Builtin.firstCells z k x').bind fun new => match base' with
      | some a => (storeCells (a.add (n * z)) new.toList).bind fun _ => Sem.pure (.slice base' (n + k) cap')
      | none => Sem.pure (.slice base' (n + k) cap')))
    (h2 : ¬ n + k ≤ cap' → ∀ newCap, n + k ≤ newCap → SR T.P VRel ρ A ((Builtin.firstCells z n (.slice base' n cap')).bind fun old => (Builtin.firstCells z k x').bind fun new =>
      (newRow e (old ++ new ++ ⟨rep (newCap - (n + k)) (lst zero)⟩)).bind fun a => Sem.pure (.slice (some a) (n + k) newCap))) :
    SR T.P VRel ρ A (Builtin.append_ ⟨t :: rest⟩ rt #[.slice base' n cap', x']) := by
  have e1 : (⟨[t]⟩ : Array TypeId)[0]? = some t := rfl
  have e2 : (#[.slice base' n cap', x'] : Array Value)[0]? = some (.slice base' n cap') := rfl
  have e3 : (#[.slice base' n cap', x'] : Array Value)[1]? = some x' := rfl
  have hk : n + k ≤ 1000000000000 := Nat.le_trans (by rw [Nat.mul_succ]; omega) hbig
  refine .equiv (append_one hT hm hu hz) ?_
  have e4 : (⟨[t]⟩ : Array TypeId)[1]? = none := rfl
  simp only [Builtin.append_, e1, e2, e3, e4, bind_eq, pure_eq]
  refine SR.und hT hu ?_
  refine SR.size hT hz ?_
  refine SR.step (a := false) (fun w => rfl) ?_
  simp only [Bool.false_eq_true, if_false]
  refine .step (run_lenOf hx hl) ?_
  by_cases hc : n + k ≤ cap'
  · rw [if_pos hc]
    have := h1 hc
    cases base' with
    | none => exact this
    | some a => exact this
  · rw [if_neg hc]
    refine SR.info hT hi ?_
    have hg : ¬ (((n + k : Nat) : Int) > IntKind.i64.max ∧ (False ∨ i.bytes = 0)) := by
      intro h
      have h := h.1
      have : IntKind.i64.max = 9223372036854775807 := by decide
      rw [this] at h
      omega
    rw [if_neg (by simpa using hg)]
    refine SR.info hT hi ?_
    have hcap : Builtin.nextslicecap (n + k) cap' ≤ 2 * (n + k) + 192 := nextslicecap_le (by omega)
    have hmul : Builtin.nextslicecap (n + k) cap' * i.bytes ≤ 192 * 1000000000000 := by
      have h1 : Builtin.nextslicecap (n + k) cap' ≤ 192 * (n + k + 1) := by omega
      have h2 := Nat.mul_le_mul h1 (Nat.le_succ i.bytes)
      have h3 : 192 * (n + k + 1) * (i.bytes + 1) = 192 * ((n + k + 1) * (i.bytes + 1)) := Nat.mul_assoc _ _ _
      have : i.bytes.succ = i.bytes + 1 := rfl
      rw [this, h3] at h2
      omega
    have h48 : (2 : Nat) ^ 48 = 281474976710656 := by decide
    rw [if_neg (by rw [h48]; omega)]
    simp only [choose, Sem.bind]
    refine .choose rfl fun q => ?_
    have hle : n + k ≤ (Question.appendCap (n + k) cap' e).cut q := by simp [Question.cut]
    generalize (Question.appendCap (n + k) cap' e).cut q = newCap at hle
    refine SR.info hT hi (SR.askRoom ?_)
    have := h2 hc newCap hle
    have hzc : zero.cells = ⟨lst zero⟩ := by rw [lst_cells]
    refine .equiv (fun w => run_bind_congr (fun old w => run_bind_congr (fun new w => ?_) w) w) this
    rw [run_bind_of (hT.run_zero hzero), hzc, zeroCells_rep]

theorem run_first0 {P : Program} {z k : Nat} {x x' : Value} (hx : VRel ρ x x') (h : lenA x = some k) (w : World) : (Builtin.firstCells z 0 x').run P w = .ok #[] w := by
  unfold lenA at h
  split at h
  · rename_i a m c
    cases a with
    | none => cases hx.snil; rfl
    | some a =>
      obtain ⟨a', c', rfl, _⟩ := hx.toSlice
      simp only [Builtin.firstCells, Nat.zero_mul]
      rfl
  · cases hx.string
    simp [Builtin.firstCells, pure_eq]
  · cases h

theorem append_rel (hT : TabOk T) {t rt : TypeId} {rest : List TypeId} {s s' x x' : Value} (hm : noMake T rest = true) (hs : VRel ρ s s') (hx : VRel ρ x x') :
    SR T.P VRel ρ (aAppend T t s x) (Builtin.append_ ⟨t :: rest⟩ rt #[s', x']) := by
  unfold aAppend
  split
  · rename_i e base n cap k hu hl
    split
    · rename_i z i zero hz hi hzero
      split
      · rename_i hg
        simp only [Bool.and_eq_true] at hg
        obtain ⟨⟨g1, g2⟩, g3⟩ := hg
        have g1 := Nat.le_of_ble_eq_true g1
        have g2 := Nat.le_of_ble_eq_true g2
        have g3 := Nat.eq_of_beq_eq_true g3
        have hnk : n + k ≤ 1000000000000 := Nat.le_trans (by rw [Nat.mul_succ]; omega) g2
        have hloose : (1000000000000 : Nat) < loose := by unfold Go.Bel.loose; decide
        have hrep : ∀ j, (rep j (lst zero)).length = j * z := by
          intro j
          induction j with
          | zero => simp [rep]
          | succ j ih => simp only [rep, List.length_append, ih, g3, Nat.succ_mul]; omega
        -- a new row with all that is known in it
        have fresh : ∀ {ρ : Rho} {old old' vs vs' : List Value} {newCap : Nat}, VRelL ρ old old' → VRelL ρ vs vs' → old.length = n * z → vs.length = k * z → n + k ≤ newCap →
            SR T.P VRel ρ (.new (.cells ⟨old ++ vs⟩ e) fun r => .ret (.slice (some ⟨r, 0, none⟩) (n + k) (Go.Bel.loose * z + (n + k))))
              ((newRow e (⟨old'⟩ ++ ⟨vs'⟩ ++ ⟨rep (newCap - (n + k)) (lst zero)⟩)).bind fun a => Sem.pure (.slice (some a) (n + k) newCap)) := by
          intro ρ old old' vs vs' newCap ho hv l1 l2 hle
          simp only [newRow, bind_eq, pure_eq, newObj, Sem.bind]
          have hc : (⟨old'⟩ ++ ⟨vs'⟩ ++ ⟨rep (newCap - (n + k)) (lst zero)⟩ : Array Value) = ⟨(old' ++ vs') ++ rep (newCap - (n + k)) (lst zero)⟩ := by
            apply Array.ext'; simp
          rw [hc]
          have hov := ho.append hv
          have hlen := hov.length
          simp only [List.length_append] at hlen
          refine .new (av := newCap * z) (sz := z) (fun r => ?_) fun ρ' r r' hle' hr => ?_
          · have e1 : (old ++ vs).length ≤ newCap * z := by
              simp only [List.length_append, l1, l2, ← Nat.add_mul]
              exact Nat.mul_le_mul_right _ hle
            refine .cells e1 ?_ ?_ (fun _ o _ _ h => by omega) (fun _ => rfl) (.inl g1)
            · simp only [List.length_append, hrep, ← hlen, l1, l2, ← Nat.add_mul, Nat.zero_add]
              rw [Nat.add_sub_cancel' hle]
              exact Nat.le_refl _
            · simp only [List.drop_zero]
              rw [List.take_append_of_le_length (by simp only [List.length_append]; omega), List.take_of_length_le (by simp only [List.length_append]; omega)]
              exact hov
          · refine .ret ?_
            exact .loose (b := ⟨r', 0, newCap * z, z⟩) hr (.inl rfl) hle hle (by simp) (by omega) g1
        cases hcap : Nat.ble Go.Bel.loose cap with
        | false =>
          simp only
          have hcl : cap < Go.Bel.loose := by
            apply Nat.lt_of_not_le
            intro h
            rw [Nat.ble_eq_true_of_le h] at hcap; cases hcap
          cases base with
          | none =>
            cases hs.snil
            refine append_head hT hm hx hu hl hz hi hzero g2 (fun hc => ?_) (fun hc newCap hle => ?_)
            · rw [Nat.ble_eq_true_of_le hc]
              simp only
              split
              · refine .equiv (s'' := Sem.pure (.slice none (n + 0) cap)) (fun w => ?_) (.ret (.atom rfl))
                exact run_bind_of (run_first0 hx hl) w
              · exact .fail
            · have : Nat.ble (n + k) cap = false := by
                cases h : Nat.ble (n + k) cap
                · rfl
                · exact absurd (Nat.le_of_ble_eq_true h) hc
              rw [this]
              simp only
              refine firstA_rel (.atom rfl) rfl (Nat.le_refl _) fun old old' ho hol => ?_
              refine firstA_rel hx hl (Nat.le_refl _) fun vs vs' hv hvl => ?_
              exact fresh ho hv hol hvl hle
          | some a =>
            obtain ⟨a', rfl, ha⟩ : ∃ a', s' = .slice (some a') n cap ∧ AddrRel ρ a a' := by
              cases hs with
              | atom h => cases h
              | slice h _ => exact ⟨_, rfl, h⟩
              | @loose j o x2 n2 c2 c' b h hx hn hc ho hl' hz' =>
                have := Nat.le_mul_of_pos_right Go.Bel.loose hz'
                omega
            cases ha with
            | @mk j o b hb =>
            refine append_head hT hm hx hu hl hz hi hzero g2 (fun hc => ?_) (fun hc newCap hle => ?_)
            · rw [Nat.ble_eq_true_of_le hc]
              simp only
              refine firstA_rel hx hl (Nat.le_refl _) fun vs vs' hv hvl => ?_
              simp only [add_eq]
              rw [Nat.add_assoc]
              exact .stores (.inr (.mk hb)) hv (.ret (.slice (.mk hb) hcl))
            · have : Nat.ble (n + k) cap = false := by
                cases h : Nat.ble (n + k) cap
                · rfl
                · exact absurd (Nat.le_of_ble_eq_true h) hc
              rw [this]
              simp only
              refine firstA_rel hs rfl (Nat.le_refl _) fun old old' ho hol => ?_
              refine firstA_rel hx hl (Nat.le_refl _) fun vs vs' hv hvl => ?_
              exact fresh ho hv hol hvl hle
        | true =>
          simp only
          split
          · rename_i b o hzz
            have hzz := Nat.eq_of_beq_eq_true hzz
            have hcl := Nat.le_of_ble_eq_true hcap
            cases hs with
            | atom h => cases h
            | slice _ h => omega
            | @loose _ _ xo _ c c' bi hb hxo hn hc ho hll hsz =>
              have hdiv : (Go.Bel.loose * bi.size + c) / Go.Bel.loose = bi.size := by
                rw [Nat.mul_add_div (by unfold Go.Bel.loose; decide), Nat.div_eq_of_lt hll, Nat.add_zero]
              have hmod : (Go.Bel.loose * bi.size + c) % Go.Bel.loose = c := by
                rw [Nat.mul_add_mod, Nat.mod_eq_of_lt hll]
              rw [hdiv] at hzz
              subst hzz
              rw [hmod]
              refine append_head hT hm hx hu hl hz hi hzero g2 (fun hle => ?_) (fun hnle newCap hle => ?_)
              · cases hkc : Nat.ble (n + k) c with
                | true =>
                  have hkc := Nat.le_of_ble_eq_true hkc
                  simp only
                  refine firstA_rel hx hl (Nat.le_refl _) fun vs vs' hv hvl => ?_
                  simp only [add_eq]
                  refine .stores ?_ hv (.ret (.loose hb hxo hle hc ho hll hsz))
                  rcases hxo with hxo | hxo
                  · subst hxo
                    rw [Nat.add_assoc]
                    exact .inr (.mk hb)
                  · left
                    have : k = 0 := by omega
                    rw [this, Nat.zero_mul] at hvl
                    exact List.length_eq_zero_iff.1 hvl
                | false =>
                  have hkc : ¬ n + k ≤ c := fun h => by rw [Nat.ble_eq_true_of_le h] at hkc; cases hkc
                  simp only
                  have hxo : xo = bi.base + o := by
                    rcases hxo with h | h
                    · exact h
                    · omega
                  subst hxo
                  refine firstA_rel hx hl (Nat.le_refl _) fun vs vs' hv hvl => ?_
                  simp only [add_eq]
                  have hmul := Nat.mul_le_mul_right bi.size hle
                  rw [Nat.add_mul] at hmul
                  refine .growIn hb hv (by rw [hvl]; omega) fun ρ' r hle' hr => .ret ?_
                  refine .loose (b := ⟨bi.blk, bi.base + o, bi.avail - o, bi.size⟩) hr (.inl rfl) hle hle ?_ (by omega) hsz
                  simp only
                  omega
              · have hkc : Nat.ble (n + k) c = false := by
                  cases h : Nat.ble (n + k) c
                  · rfl
                  · have := Nat.le_of_ble_eq_true h; omega
                rw [hkc]
                simp only [Builtin.firstCells]
                refine firstA_swap hx hl (Nat.le_refl _) fun vs vs' hv hvl => ?_
                simp only [newRow, bind_eq, pure_eq, newObj, Sem.bind]
                refine .growNew hb hv ?_ hsz fun ρ' r r' hle' hr => .ret ?_
                · rcases hxo with h | h
                  · subst h; exact .inr rfl
                  · left
                    have : n = 0 := by omega
                    rw [this, Nat.zero_mul]
                · have hlen : n * bi.size + vs.length + (rep (newCap - (n + k)) (lst zero)).length = newCap * bi.size := by
                    rw [hvl, hrep, ← Nat.add_mul, ← Nat.add_mul, Nat.add_sub_cancel' hle]
                  rw [hlen] at hr
                  exact .loose (b := ⟨r', 0, newCap * bi.size, bi.size⟩) hr (.inl rfl) hle hle (by simp) (by omega) hsz
          · exact .fail
      · exact .fail
    · exact .fail
  · exact .fail
end

section
variable {T : Tab} {ρ : Rho}

theorem intLt_eq (a b : Int) : intLt a b = decide (a < b) := by
  cases a with
  | ofNat a => cases b with
    | ofNat b =>
      show Nat.blt a b = decide ((a : Int) < b)
      by_cases h : a < b
      · rw [show Nat.blt a b = true from Nat.ble_eq_true_of_le h]; simp [h]
      · have : Nat.blt a b = false := by
          cases hb : Nat.blt a b
          · rfl
          · exact absurd (Nat.le_of_ble_eq_true hb) h
        rw [this]; simp; omega
    | negSucc b => 
      show false = _
      simp; omega
  | negSucc a => cases b with
    | ofNat b =>
      show true = _
      simp; omega
    | negSucc b =>
      show Nat.blt b a = _
      by_cases h : b < a
      · rw [show Nat.blt b a = true from Nat.ble_eq_true_of_le h]; simp; omega
      · have : Nat.blt b a = false := by
          cases hb : Nat.blt b a
          · rfl
          · exact absurd (Nat.le_of_ble_eq_true hb) h
        rw [this]; simp; omega

theorem maxFrom_run {P : Program} {k : IntKind} : ∀ {l l' : List Value} {a : Int} {v : Value}, VRelL ρ l l' → maxFrom k a l = some v → atom v = true ∧ ∀ w, (l'.foldlM Builtin.max2 (.int k a)).run P w = .ok v w
  | [], _, a, v, h, hv => by
    cases h
    have hv : some (Value.int k a) = some v := hv
    cases hv
    exact ⟨rfl, fun w => rfl⟩
  | x :: l, _, a, v, h, hv => by
    cases h with
    | cons h ht =>
    cases x with
    | int j b =>
      cases h.int
      have hv : maxFrom k (match intLt a b with | true => b | false => a) l = some v := hv
      rw [intLt_eq] at hv
      obtain ⟨h1, h2⟩ := maxFrom_run ht hv
      refine ⟨h1, fun w => ?_⟩
      simp only [List.foldlM_cons, Builtin.max2, bind_eq, pure_eq, Sem.bind]
      have := h2 w
      by_cases hab : a < b
      · simp only [hab, decide_true] at this
        rw [if_pos hab]; exact this
      · simp only [hab, decide_false] at this
        rw [if_neg hab]; exact this
    | _ => cases hv
theorem minFrom_run {P : Program} {k : IntKind} : ∀ {l l' : List Value} {a : Int} {v : Value}, VRelL ρ l l' → minFrom k a l = some v → atom v = true ∧ ∀ w, (l'.foldlM Builtin.min2 (.int k a)).run P w = .ok v w
  | [], _, a, v, h, hv => by
    cases h
    have hv : some (Value.int k a) = some v := hv
    cases hv
    exact ⟨rfl, fun w => rfl⟩
  | x :: l, _, a, v, h, hv => by
    cases h with
    | cons h ht =>
    cases x with
    | int j b =>
      cases h.int
      have hv : minFrom k (match intLt b a with | true => b | false => a) l = some v := hv
      rw [intLt_eq] at hv
      obtain ⟨h1, h2⟩ := minFrom_run ht hv
      refine ⟨h1, fun w => ?_⟩
      simp only [List.foldlM_cons, Builtin.min2, bind_eq, pure_eq, Sem.bind]
      have := h2 w
      by_cases hab : b < a
      · simp only [hab, decide_true] at this
        rw [if_pos hab]; exact this
      · simp only [hab, decide_false] at this
        rw [if_neg hab]; exact this
    | _ => cases hv
theorem max_rel {P : Program} {ts : Array TypeId} {rt : TypeId} {l l' : List Value} (h : VRelL ρ l l') : SR P VRel ρ (lift (aMax l)) (Builtin.max_ ts rt ⟨l'⟩) := by
  cases h with
  | nil => exact .fail
  | @cons x x' l l' hx ht =>
    cases x with
    | int k a =>
      cases hx.int
      have e : aMax (.int k a :: l) = maxFrom k a l := rfl
      rw [e]
      cases hm : maxFrom k a l with
      | none => exact .fail
      | some v =>
        obtain ⟨h1, h2⟩ := maxFrom_run (P := P) ht hm
        exact .of_run (b := v) h2 (.atom h1)
    | _ => exact .fail
theorem min_rel {P : Program} {ts : Array TypeId} {rt : TypeId} {l l' : List Value} (h : VRelL ρ l l') : SR P VRel ρ (lift (aMin l)) (Builtin.min_ ts rt ⟨l'⟩) := by
  cases h with
  | nil => exact .fail
  | @cons x x' l l' hx ht =>
    cases x with
    | int k a =>
      cases hx.int
      have e : aMin (.int k a :: l) = minFrom k a l := rfl
      rw [e]
      cases hm : minFrom k a l with
      | none => exact .fail
      | some v =>
        obtain ⟨h1, h2⟩ := minFrom_run (P := P) ht hm
        exact .of_run (b := v) h2 (.atom h1)
    | _ => exact .fail
end

section
variable {T : Tab} {ρ : Rho}

def NxRelV (ρ : Rho) (a b : Value) : Prop := VRel ρ a b

theorem run_loadBytes {P : Program} {w : World} : ∀ (n : Nat) (b o : Nat) (acc : ByteArray) (vs vs' : List Value) (l : List UInt8), VRelL ρ vs vs' → vs.length = n → toBytes vs = some l →
    (∀ i, i < n → w.cell? (⟨b, o + i, none⟩ : Addr) = vs'[i]?) → (loadBytes ⟨b, o, none⟩ acc n).run P w = .ok ⟨⟨acc.data.toList ++ l⟩⟩ w := by
  intro n
  induction n with
  | zero =>
    intro b o acc vs vs' l h hl hb _
    have : vs = [] := List.length_eq_zero_iff.1 hl
    subst this
    rw [toBytes_nil] at hb
    cases hb
    simp [loadBytes, pure_eq]
  | succ n ih =>
    intro b o acc vs vs' l h hl hb hc
    cases h with
    | nil => cases hl
    | @cons v v' vs vs' hv ht =>
    obtain ⟨m, r, rfl, hr, rfl⟩ := toBytes_cons hb
    cases hv.int
    have h0 := hc 0 (by omega)
    simp only [Nat.add_zero, List.getElem?_cons_zero] at h0
    have e : (loadBytes ⟨b, o, none⟩ acc (n + 1)).run P w = (loadBytes ((⟨b, o, none⟩ : Addr).add 1) (acc.push m.toNat.toUInt8) n).run P w := by
      simp [loadBytes, load, bind, Sem.bind, Sem.run, h0]
    rw [e, add_eq, ih b (o + 1) _ vs vs' r ht (by simpa using hl) hr (fun i hi => by
      have := hc (i + 1) (by omega)
      rw [show o + 1 + i = o + (i + 1) by omega, this]; simp)]
    congr 1
    simp

theorem toBytes_rel : ∀ {vs vs' : List Value} {l : List UInt8}, VRelL ρ vs vs' → toBytes vs = some l → vs' = vs
  | [], _, _, h, _ => by cases h; rfl
  | v :: vs, _, l, h, hb => by
    cases h with
    | cons hv ht =>
      obtain ⟨n, r, rfl, hr, rfl⟩ := toBytes_cons hb
      rw [hv.int, toBytes_rel ht hr]

theorem unsafeString_eq {ats : Array TypeId} {rt : TypeId} {p' : Option Addr} {k : IntKind} {n : Int} : ∃ s1 s2 s3 s4 s5 : String, Builtin.unsafeString_ ats rt #[.pointer p', .int k n] = (do
    let some pt := ats[0]? | stuck s1
    if n < 0 then runtimePanic (.error s2)
    if n > IntKind.i64.max then unsupported (.unsafePointer s3)
    match p' with
    | none => if n = 0 then pure (.string .empty) else runtimePanic (.error s4)
    | some a =>
      if n = 0 then pure (.string .empty)
      else if ← variablesAt a (← elemOf pt) n.toNat then do
        let s ← loadBytes a .empty n.toNat
        Go.freeze a n.toNat
        pure (.string s)
      else unsupported (.unsafePointer s5)) := ⟨_, _, _, _, _, rfl⟩

theorem unsafeString_rel (hT : TabOk T) {pt rt : TypeId} {ts : List TypeId} {p p' : Option Addr} {k : IntKind} {n : Nat} (hp : VRel ρ (.pointer p) (.pointer p')) :
    SR T.P VRel ρ (aUString T pt n p) (Builtin.unsafeString_ ⟨pt :: ts⟩ rt #[.pointer p', .int k n]) := by
  unfold aUString
  have e1 : (⟨pt :: ts⟩ : Array TypeId)[0]? = some pt := rfl
  obtain ⟨s1, s2, s3, s4, s5, e0⟩ := unsafeString_eq (ats := ⟨pt :: ts⟩) (rt := rt) (p' := p') (k := k) (n := (n : Int))
  rw [e0]
  simp only [e1, bind_eq, pure_eq]
  have hneg : ¬ ((n : Int) < 0) := by omega
  rw [if_neg hneg]
  have hmx : IntKind.i64.max = 9223372036854775807 := by decide
  split
  · rw [if_neg (by rw [hmx]; simp)]
    cases p' with
    | none => simp only; exact .ret (.atom rfl)
    | some a => simp only; exact .ret (.atom rfl)
  · rename_i n a
    split
    · rename_i e hu
      split
      · rename_i he hlt
        have hlt : n < 1000000000000 := Nat.le_of_ble_eq_true hlt
        split
        · rename_i hsz
          obtain ⟨a', hpa, ha⟩ := hp.toPtr
          cases hpa
          rw [if_neg (by rw [hmx]; omega)]
          have hne : ¬ (((n + 1 : Nat) : Int) = 0) := by omega
          simp only [Nat.succ_eq_add_one]
          rw [if_neg hne]
          simp only [elemOf, bind_eq, pure_eq]
          rw [Sem.bind_assoc']
          refine SR.und hT hu ?_
          simp only [Sem.bind, variablesAt, bind_eq, pure_eq]
          rw [Sem.bind_assoc']
          refine SR.prog ?_
          cases ha with
          | @mk j o b hb =>
          simp only [shape, Sem.bind]
          refine .rowOf (a := ⟨j, o, none⟩) hb fun m hm _ => ?_
          have hcs : T.P.cellsOf e = 1 := cells_of hT hsz
          have hl := liesAt_bytes T.P (t := e) (m := m) (o := b.base + o) (n := n + 1) hcs (by simpa [Nat.add_assoc] using hm)
          simp only [Sem.bind, Int.toNat_natCast, hl, if_true, freeze]
          refine .reads (fun vs' => match toBytes vs' with
            | some l => Sem.freeze ⟨b.blk, b.base + o, none⟩ (n + 1) (.pure (.string ⟨⟨l⟩⟩))
            | none => stuck "") (fun vs => ∃ l, toBytes vs = some l) (.mk hb) (fun vs hq => ?_) (fun vs vs' hv hvl => ?_) (fun vs vs' hv hvl hq w hw => ?_)
          · cases h : toBytes vs with
            | none => rfl
            | some l => exact absurd ⟨l, h⟩ hq
          · cases h : toBytes vs with
            | none => exact .fail
            | some l =>
              rw [toBytes_rel hv h, h]
              exact .freeze (.mk hb) (.ret (.atom rfl))
          · obtain ⟨l, hl2⟩ := hq
            have hrun := run_loadBytes (P := T.P) (w := w) (n + 1) b.blk (b.base + o) ByteArray.empty vs vs' l hv hvl hl2 (fun i hi => by
              have := hw i hi
              rw [add_eq] at this
              exact this)
            have hv' := toBytes_rel hv hl2
            subst hv'
            refine (run_bind_ok hrun).trans ?_
            simp only [hl2]
            rfl
        · exact .fail
      · exact .fail
    · exact .fail
  · exact .fail
end

section
variable {T : Tab} {ρ : Rho}

theorem sliceDataNil_rel {P : Program} {ats : Array TypeId} {rt : TypeId} {n c : Nat} {x' : Value} (hx : VRel ρ (.slice none n c) x') : SR P VRel ρ (.ret (.pointer none)) (Builtin.unsafeSliceData_ ats rt #[x']) := by
  cases hx.snil
  exact .ret (.atom rfl)
theorem sliceData_eq {ats : Array TypeId} {rt : TypeId} {a : Addr} {n c : Nat} (hc : c ≠ 0) : Builtin.unsafeSliceData_ ats rt #[.slice (some a) n c] = .pure (.pointer (some a)) := by
  show (if c ≠ 0 then _ else _) = _
  rw [if_pos hc]
  rfl
theorem sliceData_rel {P : Program} {ats : Array TypeId} {rt : TypeId} {a : Addr} {n c : Nat} {x' : Value} (hx : VRel ρ (.slice (some a) n c) x') :
    SR P VRel ρ (match Nat.ble loose c, Nat.beq (c % loose) 0, Nat.beq c 0 with
    | true, false, _ => .ret (.pointer (some a))
    | false, _, false => .ret (.pointer (some a))
    | _, _, _ => .fail) (Builtin.unsafeSliceData_ ats rt #[x']) := by
  cases hx with
  | atom h => cases h
  | @slice _ a' _ _ h hc =>
    have : Nat.ble loose c = false := by
      cases hb : Nat.ble loose c
      · rfl
      · have := Nat.le_of_ble_eq_true hb; omega
    rw [this]
    cases hz : Nat.beq c 0 with
    | true => cases (Nat.beq (c % loose) 0) <;> exact .fail
    | false =>
      have hne : c ≠ 0 := by rintro rfl; cases hz
      rw [sliceData_eq hne]
      cases (Nat.beq (c % loose) 0) <;> exact .ret (.ptr h)
  | @loose i o xo _ c c' bi hb hxo hn hc ho hll hsz =>
    have hmod : (Go.Bel.loose * bi.size + c) % Go.Bel.loose = c := by
      rw [Nat.mul_add_mod, Nat.mod_eq_of_lt hll]
    have hle : Nat.ble Go.Bel.loose (Go.Bel.loose * bi.size + c) = true := Nat.ble_eq_true_of_le (Nat.le_trans (Nat.le_mul_of_pos_right _ hsz) (Nat.le_add_right _ _))
    rw [hmod, hle]
    cases hz : Nat.beq c 0 with
    | true => exact .fail
    | false =>
      have hne : c ≠ 0 := by rintro rfl; cases hz
      rw [sliceData_eq (by omega)]
      rcases hxo with h | h
      · subst h; exact .ret (.ptr (.mk hb))
      · omega

/-! ## functions without a body -/

theorem noEscape_rel {P : Program} {x x' : Value} (hx : VRel ρ x x') : SR P VRel ρ (.ret x) (Extern.AbiNoEscape.same #[x']) := .ret hx
end

section
variable {T : Tab} {ρ : Rho}

theorem nextRow_none (fn : Func) (ho : fn.origin = "") (h : Extern.allNextRows.lookup fn.name = none) : Extern.findNext fn = none := by
  have h0 : Extern.allNextRows.lookup "" = none := by kernel_rfl
  simp [Extern.findNext, h, ho, h0]
theorem row_of (fn : Func) {r : Array Value → Sem Value} (h1 : Extern.allGenericRows.lookup fn.name = none) (h2 : Extern.allTypedRows.lookup fn.name = none) (h3 : Extern.allRows.lookup fn.name = some r) : Extern.find fn = some r := by
  simp [Extern.find, h1, h2, h3]
theorem typedRow_of (fn : Func) {r : Array TypeId → Array TypeId → Array Value → Sem Value} (h1 : Extern.allGenericRows.lookup fn.name = none) (h2 : Extern.allTypedRows.lookup fn.name = some r) : Extern.find fn = some (r fn.params fn.resultTypes) := by
  simp [Extern.find, h1, h2]

theorem noEscape_row (fn : Func) (hn : fn.name = "internal/abi.NoEscape") (ho : fn.origin = "") : Extern.findNext fn = none ∧ Extern.find fn = some Extern.AbiNoEscape.same :=
  ⟨nextRow_none fn ho (by rw [hn]; kernel_rfl), row_of fn (by rw [hn]; kernel_rfl) (by rw [hn]; kernel_rfl) (by rw [hn]; kernel_rfl)⟩
theorem indexByte_row (fn : Func) (hn : fn.name = "internal/bytealg.IndexByteString") (ho : fn.origin = "") : Extern.findNext fn = none ∧ Extern.find fn = some Extern.BytealgIndexByte.indexByte :=
  ⟨nextRow_none fn ho (by rw [hn]; kernel_rfl), row_of fn (by rw [hn]; kernel_rfl) (by rw [hn]; kernel_rfl) (by rw [hn]; kernel_rfl)⟩
theorem count_row (fn : Func) (hn : fn.name = "internal/bytealg.CountString") (ho : fn.origin = "") : Extern.findNext fn = none ∧ Extern.find fn = some Extern.BytealgCount.count :=
  ⟨nextRow_none fn ho (by rw [hn]; kernel_rfl), row_of fn (by rw [hn]; kernel_rfl) (by rw [hn]; kernel_rfl) (by rw [hn]; kernel_rfl)⟩
theorem clone_row (fn : Func) (hn : fn.name = "maps.clone") (ho : fn.origin = "") : Extern.findNext fn = none ∧ Extern.find fn = some Extern.MapsClone.clone :=
  ⟨nextRow_none fn ho (by rw [hn]; kernel_rfl), row_of fn (by rw [hn]; kernel_rfl) (by rw [hn]; kernel_rfl) (by rw [hn]; kernel_rfl)⟩
theorem makeNoZero_row (fn : Func) (hn : fn.name = "internal/bytealg.MakeNoZero") (ho : fn.origin = "") : Extern.findNext fn = none ∧ Extern.find fn = some (Extern.BytealgMakeNoZero.makeNoZero fn.params fn.resultTypes) :=
  ⟨nextRow_none fn ho (by rw [hn]; kernel_rfl), typedRow_of fn (by rw [hn]; kernel_rfl) (by rw [hn]; kernel_rfl)⟩
end

section
variable {T : Tab} {ρ : Rho}

theorem byte_beq {c : Nat} (hc : c < 256) (b : UInt8) : Nat.beq b.toNat c = (b == c.toUInt8) := by
  by_cases h : b.toNat = c
  · subst h
    simp
  · have h1 : Nat.beq b.toNat c = false := by
      cases hb : Nat.beq b.toNat c
      · rfl
      · exact absurd (Nat.eq_of_beq_eq_true hb) h
    rw [h1]
    symm
    simp only [beq_eq_false_iff_ne, ne_eq]
    intro he
    apply h
    rw [he]
    simp [Nat.mod_eq_of_lt hc]

theorem cnt1_eq {c : Nat} (hc : c < 256) : ∀ (l : List UInt8) (n : Nat), cnt1 c l n = l.foldl (fun n x => if x == c.toUInt8 then n + 1 else n) n
  | [], _ => rfl
  | b :: l, n => by
    have e : cnt1 c (b :: l) n = (match Nat.beq b.toNat c with | true => cnt1 c l (n + 1) | false => cnt1 c l n) := rfl
    rw [e, byte_beq hc, List.foldl_cons]
    cases hb : (b == c.toUInt8)
    · simp only [Bool.false_eq_true, if_false]; exact cnt1_eq hc l n
    · simp only [if_true]; exact cnt1_eq hc l (n + 1)

theorem idx1_eq {c : Nat} (hc : c < 256) (s : ByteArray) : ∀ (l : List UInt8) (i : Nat), s.data.toList.drop i = l → idx1 c l i = (match (List.range' i l.length).find? (fun j => s[j]! == c.toUInt8) with | some j => (j : Int) | none => -1)
  | [], i, _ => rfl
  | b :: l, i, h => by
    have hb : s[i]! = b := by
      have h1 : s.data.toList[i]? = some b := by
        have : (s.data.toList.drop i)[0]? = some b := by rw [h]; rfl
        simpa using this
      have hlt : i < s.data.toList.length := by
        rcases List.getElem?_eq_some_iff.1 h1 with ⟨h, _⟩; exact h
      have : s[i]! = s.data[i]! := by
        simp only [getElem!_def]
        rfl
      rw [this]
      have : s.data[i]? = some b := by simpa using h1
      simp [getElem!_def, this]
    have e : idx1 c (b :: l) i = (match Nat.beq b.toNat c with | true => (Int.ofNat i) | false => idx1 c l (i + 1)) := rfl
    rw [e, byte_beq hc, List.length_cons, List.range'_succ, List.find?_cons, hb]
    cases hbc : (b == c.toUInt8)
    · simp only
      exact idx1_eq hc s l (i + 1) (by rw [← List.drop_drop, h]; rfl)
    · rfl
end

end Go.Bel
