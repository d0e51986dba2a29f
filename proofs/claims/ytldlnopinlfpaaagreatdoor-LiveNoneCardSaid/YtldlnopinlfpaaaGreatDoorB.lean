/-
  D's reads, loads, stores, slices, operators stand to the model's.
  Conditions: none beyond those that the statements bear.
-/
import Derived.Laws.StructEq
import Derived.Laws.Tables
import Derived.Test.YtldlnopinlfpaaaGreatDoorA
set_option maxRecDepth 100000
namespace Go.Bel

section
variable {P : Program}

theorem HRel.drew {ρ : Rho} {h : Hp} {w : World} (hr : HRel ρ h w) (n : Nat) : HRel ρ h { w with drawn := n } := ⟨hr.rw, hr.ro, hr.apart, hr.roApart⟩

theorem SR.read_sound {α β : Type} {R : Rho → α → β → Prop} {ρ : Rho} {s : AS α} {s' : Sem β} (hh : SR P R ρ s s') :
    ∀ {h : Hp} {st : St} {w : World} {a : α}, HRel ρ h w → Sub st h → s.read st = some a → ∃ b n, s'.run P w = .ok b { w with drawn := n } ∧ R ρ a b := by
  induction hh with
  | ret h =>
    intro hp st w a hs hsub hr
    simp only [AS.read, Option.some.injEq] at hr
    subst hr
    exact ⟨_, w.drawn, rfl, h⟩
  | fail => intro hp st w a hs hsub hr; simp [AS.read] at hr
  | equiv h _ ih =>
    intro hp st w a hs hsub hr
    obtain ⟨b, n, h1, h2⟩ := ih hs hsub hr
    exact ⟨b, n, (h w).trans h1, h2⟩
  | choose hq _ ih =>
    rename_i ρ s q k' _
    intro hp st w a hs hsub hr
    obtain ⟨b, n, h1, h2⟩ := ih (w.tape w.drawn q) (hs.drew (w.drawn + 1)) hsub hr
    refine ⟨b, n, ?_, h2⟩
    simp only [Sem.run, hq]
    exact h1
  | loads ha _ ih =>
    rename_i ρ a₀ a' n k k' _
    intro hp st w a hs hsub hr
    simp only [AS.read] at hr
    split at hr
    · rename_i vs hc
      rcases ha with rfl | ha
      · have h0 : vs = [] := by
          have : vs.length = 0 := by
            unfold St.cellsAt at hc
            split at hc
            · exact (cut_eq hc).2
            · exact (cut_eq hc).2
            · cases hc
          exact List.length_eq_zero_iff.1 this
        subst h0
        obtain ⟨b, n, h1, h2⟩ := ih [] [] .nil rfl hs hsub hr
        exact ⟨b, n, (run_bind_ok (run_loadCells (vs := []) rfl (fun k hk => absurd hk (Nat.not_lt_zero k)))).trans h1, h2⟩
      · obtain ⟨vs', hv, hl, hcell⟩ := cellsAt_rel hs hsub ha hc
        obtain ⟨b, n, h1, h2⟩ := ih vs vs' hv hl hs hsub hr
        exact ⟨b, n, (run_bind_ok (run_loadCells (hv.length.symm.trans hl) hcell)).trans h1, h2⟩
    · cases hr
  | swap ha _ ih =>
    rename_i ρ a₀ a' c n m k f _
    intro hp st w a hs hsub hr
    simp only [AS.read] at hr
    split at hr
    · rename_i vs hc
      rcases ha with rfl | ha
      · have h0 : vs = [] := by
          have : vs.length = 0 := by
            unfold St.cellsAt at hc
            split at hc
            · exact (cut_eq hc).2
            · exact (cut_eq hc).2
            · cases hc
          exact List.length_eq_zero_iff.1 this
        subst h0
        obtain ⟨b, n, h1, h2⟩ := ih [] [] .nil rfl hs hsub hr
        exact ⟨b, n, run_swap (run_loadCells (vs := []) rfl (fun k hk => absurd hk (Nat.not_lt_zero k))) h1, h2⟩
      · obtain ⟨vs', hv, hl, hcell⟩ := cellsAt_rel hs hsub ha hc
        obtain ⟨b, n, h1, h2⟩ := ih vs vs' hv hl hs hsub hr
        exact ⟨b, n, run_swap (run_loadCells (hv.length.symm.trans hl) hcell) h1, h2⟩
    · cases hr
  | reads g Q ha hn _ h2 ih =>
    rename_i ρ a₀ a' n k s' _
    intro hp st w a hs hsub hr
    simp only [AS.read] at hr
    split at hr
    · rename_i vs hc
      obtain ⟨vs', hv, hl, hcell⟩ := cellsAt_rel hs hsub ha hc
      by_cases hq : Q vs
      · obtain ⟨b, n, h1, h3⟩ := ih vs vs' hv hl hs hsub hr
        exact ⟨b, n, (h2 vs vs' hv hl hq w hcell).trans h1, h3⟩
      · rw [hn vs hq] at hr
        simp [AS.read] at hr
    · cases hr
  | based hb _ ih =>
    rename_i ρ r bi k s' _
    intro hp st w a hs hsub hr
    refine ih ?_ hs hsub hr
    simp only [AS.read] at hr
    split at hr
    · rename_i o hget
      split at hr
      · cases hr
      · rename_i hcells
        obtain ⟨bi', o', hb', hw, ho⟩ := hs.rw r _ (hsub _ _ hget)
        rw [hb] at hb'; cases hb'
        exact ho.zero hcells
    · cases hr
  | getObj hb _ ih =>
    rename_i ρ r bi k k' _
    intro hp st w a hs hsub hr
    simp only [AS.read] at hr
    split at hr
    · rename_i o hget
      split at hr
      · cases hr
      · rename_i hcells
        obtain ⟨bi', o', hb', hw, ho⟩ := hs.rw r _ (hsub _ _ hget)
        rw [hb] at hb'; cases hb'
        obtain ⟨b, n, h1, h2⟩ := ih o o' ho hcells hs hsub hr
        refine ⟨b, n, ?_, h2⟩
        rw [run_getObj' hw (by rw [ho.isCells]; exact hcells)]
        exact h1
    · cases hr
  | rowOf hb _ ih =>
    rename_i ρ a₀ bi n e z k k' _
    intro hp st w a hs hsub hr
    simp only [AS.read] at hr
    split at hr
    · rename_i hrow
      unfold St.rowOf at hrow
      split at hrow
      · rename_i c e' lo hi hspot hget
        simp only [Bool.and_eq_true] at hrow
        have he := Nat.eq_of_beq_eq_true hrow.1.1
        have hn := Nat.le_of_ble_eq_true hrow.1.2
        subst he
        obtain ⟨bi', o', hb', hw, ho⟩ := hs.rw _ _ (hsub _ _ hget)
        rw [hb] at hb'; cases hb'
        obtain ⟨cl⟩ := c
        cases ho with
        | @cells _ c' _ _ _ lo' hi' h1 h2 h3 h4 h5 h6 =>
        obtain ⟨b, n, h7, h8⟩ := ih c'.length (by simp only at hn; omega) (fun hz => h5 (by
          have := hrow.2
          rw [hz] at this
          simpa using this)) hs hsub hr
        refine ⟨b, n, ?_, h8⟩
        simp only [Sem.run, World.shape?, hw]
        exact h7
      · cases hrow
    · cases hr
  | stores => intro hp st w a hs hsub hr; simp [AS.read] at hr
  | new => intro hp st w a hs hsub hr; simp [AS.read] at hr
  | newStr => intro hp st w a hs hsub hr; simp [AS.read] at hr
  | setObj => intro hp st w a hs hsub hr; simp [AS.read] at hr
  | freeze => intro hp st w a hs hsub hr; simp [AS.read] at hr
  | stringish => intro hp st w a hs hsub hr; simp [AS.read] at hr
  | growIn => intro hp st w a hs hsub hr; simp [AS.read] at hr
  | growNew => intro hp st w a hs hsub hr; simp [AS.read] at hr

theorem AS.make_inv {α : Type} {s : AS α} {r : Nat} {a : α} {o : Obj} (h : s.make r = some (a, o)) : ∃ k, s = .new o k ∧ k r = .ret a := by
  unfold AS.make at h
  split at h
  · rename_i o' k
    split at h
    · rename_i x hk
      simp only [Option.some.injEq, Prod.mk.injEq] at h
      obtain ⟨rfl, rfl⟩ := h
      exact ⟨k, rfl, hk⟩
    · cases h
  · cases h

theorem SR.make_sound {α β : Type} {R : Rho → α → β → Prop} {ρ : Rho} {s : AS α} {s' : Sem β} (hh : SR P R ρ s s') :
    ∀ {h : Hp} {w : World} {a : α} {o : Obj} {r : Nat}, HRel ρ h w → ρ r = none → h r = none → s.make r = some (a, o) →
      ∃ b bi o' n, s'.run P w = .ok b { w with heap := w.heap.push o', drawn := n } ∧ bi.blk = w.heap.size ∧ ORel ρ bi o o' ∧ R (ρ.with r bi) a b := by
  induction hh with
  | equiv h _ ih =>
    intro hp w a o r hs h1 h2 hr
    obtain ⟨b, bi, o', n, h3, h4⟩ := ih hs h1 h2 hr
    exact ⟨b, bi, o', n, (h w).trans h3, h4⟩
  | choose hq _ ih =>
    rename_i ρ s q k' _
    intro hp w a o r hs h1 h2 hr
    obtain ⟨b, bi, o', n, h3, h4⟩ := ih (w.tape w.drawn q) (hs.drew (w.drawn + 1)) h1 h2 hr
    refine ⟨b, bi, o', n, ?_, h4⟩
    simp only [Sem.run, hq]
    exact h3
  | new ho hk _ =>
    rename_i ρ o₀ o' k k' av sz _
    intro hp w a o r hs h1 h2 hr
    obtain ⟨k2, he, hkr⟩ := AS.make_inv hr
    cases he
    have hnew := hs.new (i := r) (b := ⟨w.heap.size, 0, av, sz⟩) (n := w.drawn) h1 h2 rfl (ho w.heap.size)
    have hsr := hk (ρ.with r ⟨w.heap.size, 0, av, sz⟩) r w.heap.size (Rho.le_with _ h1) (Rho.with_same _ _ _)
    rw [hkr] at hsr
    obtain ⟨b, n, h5, h6⟩ := hsr.read_sound (st := { heap := .nil, next := 0 }) hnew (fun i x hx => by simp at hx) rfl
    exact ⟨b, _, o', n, by simp only [Sem.run]; exact h5, rfl, ho _, h6⟩
  | newStr hl hc hk _ =>
    rename_i ρ c c' e k k' _
    intro hp w a o r hs h1 h2 hr
    obtain ⟨k2, he, hkr⟩ := AS.make_inv hr
    cases he
    have ho : ORel ρ ⟨w.heap.size, 0, c'.length, 1⟩ (.cells ⟨c⟩ e) (.cells ⟨c'⟩ e (c'.length, c'.length + 1)) :=
      .cells hl (by simp) (by simpa using hc) (fun _ o h1 h2 _ => by simp only at h1 h2; omega) (fun _ => rfl) (.inl (Nat.le_refl _))
    have hnew := hs.new (i := r) (b := ⟨w.heap.size, 0, c'.length, 1⟩) (n := w.drawn) h1 h2 rfl ho
    have hsr := hk (ρ.with r ⟨w.heap.size, 0, c'.length, 1⟩) r w.heap.size (Rho.le_with _ h1) (Rho.with_same _ _ _)
    rw [hkr] at hsr
    obtain ⟨b, n, h5, h6⟩ := hsr.read_sound (st := { heap := .nil, next := 0 }) hnew (fun i x hx => by simp at hx) rfl
    exact ⟨b, _, _, n, by rw [run_newStr]; exact h5, rfl, ho, h6⟩
  | _ => intro hp w a o r hs h1 h2 hr; obtain ⟨k2, he, hkr⟩ := AS.make_inv hr; cases he
end

section
structure TabOk (T : Tab) : Prop where
  ty : ∀ t i, T.ty.get t = some i → T.P.info? t = some i
  fn : ∀ f g, T.fn.get f = some g → T.P.funcs[f]? = some g
  eqs : ∀ t, T.eqs t = true → T.P.stoodInHeld t = false ∧ T.P.eqGuardType T.P.depth t = false ∧ ∀ f ∈ (T.P.fieldsOf t).toList, f.name ≠ "_"
  orders : T.P.follows .mixedOrders = true
  ng : ∀ f g, T.fn.get f = some g → (g.name == "runtime.NumGoroutine") = false
  origin : ∀ f g, T.fn.get f = some g → g.body.isSome = false →
    g.name = "internal/abi.NoEscape" ∨ g.name = "internal/bytealg.IndexByteString" ∨ g.name = "internal/bytealg.CountString" ∨ g.name = "maps.clone" ∨ g.name = "internal/bytealg.MakeNoZero" → g.origin = ""

section
variable {T : Tab} {α β γ : Type} {R : Rho → α → β → Prop} {ρ : Rho}

theorem bind_eq (x : Sem α) (f : α → Sem β) : (x >>= f) = x.bind f := rfl
theorem pure_eq (x : α) : (pure x : Sem α) = Sem.pure x := rfl
theorem abind_eq (x : AS α) (f : α → AS β) : (x >>= f) = x.bind f := rfl

theorem run_bind_of {P : Program} {x : Sem γ} {f : γ → Sem β} {a : γ} (h : ∀ w, x.run P w = .ok a w) (w : World) : (x.bind f).run P w = (f a).run P w := run_bind_ok (h w)

theorem TabOk.und (hT : TabOk T) {t : TypeId} {d : TypeDesc} (h : T.und t = some d) : T.P.underlying t = some d := by
  unfold Tab.und at h
  split at h
  · rename_i i hi
    have h1 := hT.ty _ _ hi
    unfold Program.underlying
    rw [h1]
    split at h
    · rename_i n u hd
      split at h
      · rename_i j hj
        obtain ⟨desc⟩ := i
        simp only at hd
        subst hd
        simp only [hT.ty _ _ hj]
        exact h
      · cases h
    · rename_i d' hn
      simp only [Option.some.injEq] at h
      obtain ⟨desc⟩ := i
      simp only at h hn
      subst h
      cases desc <;> first | rfl | exact absurd rfl (hn _ _)
  · cases h
theorem TabOk.run_und (hT : TabOk T) {t : TypeId} {d : TypeDesc} (h : T.und t = some d) (w : World) : (underlying t).run T.P w = .ok d w := by
  simp [underlying, program, bind, Sem.bind, Sem.run, hT.und h, pure]
theorem TabOk.run_info (hT : TabOk T) {t : TypeId} {i : TypeInfo} (h : T.ty.get t = some i) (w : World) : (typeInfo t).run T.P w = .ok i w := by
  simp [typeInfo, program, bind, Sem.bind, Sem.run, hT.ty _ _ h, pure]
theorem TabOk.run_size (hT : TabOk T) {t : TypeId} {n : Nat} (h : T.size t = some n) (w : World) : (sizeOf t).run T.P w = .ok n w := by
  unfold Tab.size at h
  cases hi : T.ty.get t with
  | none => rw [hi] at h; cases h
  | some i =>
    rw [hi] at h
    simp only [Option.map_some, Option.some.injEq] at h
    subst h
    simp [sizeOf, typeInfo, program, bind, Sem.bind, Sem.run, hT.ty _ _ hi, pure]
theorem TabOk.run_agg (hT : TabOk T) {t : TypeId} {b : Bool} (h : T.agg t = some b) (w : World) : (isAgg t).run T.P w = .ok b w := by
  unfold Tab.agg at h
  cases hd : T.und t with
  | none => rw [hd] at h; cases h
  | some d =>
    rw [hd] at h
    unfold isAgg
    rw [bind_eq, run_bind_of (hT.run_und hd)]
    cases d <;> simp only [Option.some.injEq] at h <;> subst h <;> rfl
theorem TabOk.run_zero (hT : TabOk T) {t : TypeId} {v : Value} (h : T.zero t = some v) (w : World) : (zeroValue t).run T.P w = .ok v w := by
  unfold Tab.zero at h
  split at h
  · rename_i i hi
    split at h
    · rename_i v' hz
      split at h
      · simp only [Option.some.injEq] at h
        subst h
        unfold zeroValue
        rw [bind_eq, run_bind_of (hT.run_info hi)]
        simp [hz, pure]
      · cases h
    · cases h
  · cases h
theorem Tab.zero_plain {t : TypeId} {v : Value} (h : T.zero t = some v) : plain v = true := by
  unfold Tab.zero at h
  split at h
  · split at h
    · split at h
      · simp only [Option.some.injEq] at h; subst h; assumption
      · cases h
    · cases h
  · cases h

/-- the model's side is worked out -/
theorem SR.step {P : Program} {x : Sem γ} {f : γ → Sem β} {a : γ} {s : AS α} (h : ∀ w, x.run P w = .ok a w) (k : SR P R ρ s (f a)) : SR P R ρ s (x.bind f) :=
  .equiv (fun w => run_bind_of h w) k
theorem SR.und (hT : TabOk T) {t : TypeId} {d : TypeDesc} {s : AS α} {f : TypeDesc → Sem β} (h : T.und t = some d) (k : SR T.P R ρ s (f d)) : SR T.P R ρ s ((underlying t).bind f) := .step (hT.run_und h) k
theorem SR.size (hT : TabOk T) {t : TypeId} {d : Nat} {s : AS α} {f : Nat → Sem β} (h : T.size t = some d) (k : SR T.P R ρ s (f d)) : SR T.P R ρ s ((sizeOf t).bind f) := .step (hT.run_size h) k
theorem SR.agg (hT : TabOk T) {t : TypeId} {d : Bool} {s : AS α} {f : Bool → Sem β} (h : T.agg t = some d) (k : SR T.P R ρ s (f d)) : SR T.P R ρ s ((isAgg t).bind f) := .step (hT.run_agg h) k
theorem SR.zero (hT : TabOk T) {t : TypeId} {d : Value} {s : AS α} {f : Value → Sem β} (h : T.zero t = some d) (k : SR T.P R ρ s (f d)) : SR T.P R ρ s ((zeroValue t).bind f) := .step (hT.run_zero h) k
theorem SR.info (hT : TabOk T) {t : TypeId} {d : TypeInfo} {s : AS α} {f : TypeInfo → Sem β} (h : T.ty.get t = some d) (k : SR T.P R ρ s (f d)) : SR T.P R ρ s ((typeInfo t).bind f) := .step (hT.run_info h) k
theorem SR.prog {P : Program} {s : AS α} {f : Program → Sem β} (k : SR P R ρ s (f P)) : SR P R ρ s (program.bind f) := .equiv (s'' := f P) (fun _w => rfl) k
theorem SR.mark {P : Program} {s : AS α} {m : Mark} {f : Unit → Sem β} (k : SR P R ρ s (f ())) : SR P R ρ s ((Go.mark m).bind f) := .equiv (s'' := f ()) (fun _w => rfl) k

theorem SR.bind {P : Program} {α' β' : Type} {S : Rho → α' → β' → Prop} {s : AS α} {s' : Sem β} {f : α → AS α'} {g : β → Sem β'} (h : SR P R ρ s s') :
    (∀ ρ' a b, ρ.le ρ' → R ρ' a b → SR P S ρ' (f a) (g b)) → SR P S ρ (s.bind f) (s'.bind g) := by
  induction h with
  | ret h => exact fun hk => hk _ _ _ (.refl _) h
  | fail => exact fun _ => .fail
  | equiv h _ ih => exact fun hk => .equiv (fun w => by rw [Sem.run_bind', Sem.run_bind', h w]) (ih hk)
  | choose hq _ ih => exact fun hk => .choose hq fun t => ih t hk
  | loads ha _ ih =>
    intro hk
    rw [Sem.bind_assoc']
    exact .loads ha fun vs vs' hv hl => ih vs vs' hv hl hk
  | reads g' Q ha hn _ h2 ih =>
    intro hk
    refine .reads (fun vs => (g' vs).bind g) Q ha (fun vs hq => by simp only [hn vs hq, AS.bind]) (fun vs vs' hv hl => ih vs vs' hv hl hk) fun vs vs' hv hl hq w hw => ?_
    rw [Sem.run_bind', Sem.run_bind', h2 vs vs' hv hl hq w hw]
  | swap ha _ ih =>
    intro hk
    rw [Sem.bind_assoc']
    simp only [Sem.bind_assoc'] at ih ⊢
    exact .swap ha fun vs vs' hv hl => ih vs vs' hv hl hk
  | stores ha hv _ ih =>
    intro hk
    rw [Sem.bind_assoc']
    exact .stores ha hv (ih hk)
  | new ho _ ih => exact fun hk => .new ho fun ρ' r r' hle hr => ih ρ' r r' hle hr fun ρ'' a b h1 h2 => hk ρ'' a b (hle.trans h1) h2
  | newStr hl hc _ ih =>
    rename_i ρ c c' e k k' _
    intro hk
    refine .equiv (s'' := (newRow e ⟨c'⟩).bind fun a => (markStringish a).bind fun _ => (k' a).bind g) (fun w => by simp only [Sem.bind_assoc']) ?_
    exact .newStr hl hc fun ρ' r r' hle hr => ih ρ' r r' hle hr fun ρ'' a b h1 h2 => hk ρ'' a b (hle.trans h1) h2
  | based hb _ ih => exact fun hk => .based hb fun h0 => ih h0 hk
  | getObj hb _ ih => exact fun hk => .getObj hb fun o o' ho hc => ih o o' ho hc hk
  | setObj hb ho _ ih => exact fun hk => .setObj hb ho (ih hk)
  | freeze ha _ ih => exact fun hk => .freeze ha (ih hk)
  | rowOf hb _ ih => exact fun hk => .rowOf hb fun m h1 h2 => ih m h1 h2 hk
  | stringish hb ha _ ih =>
    intro hk
    rw [Sem.bind_assoc']
    exact .stringish hb ha (ih hk)
  | growIn hb hv hroom _ ih =>
    intro hk
    rw [Sem.bind_assoc']
    exact .growIn hb hv hroom fun ρ' r hle hr => ih ρ' r hle hr fun ρ'' a b h1 h2 => hk ρ'' a b (hle.trans h1) h2
  | growNew hb hv ha hsz _ ih =>
    intro hk
    rw [Sem.bind_assoc']
    exact .growNew hb hv ha hsz fun ρ' r r' hle hr => ih ρ' r r' hle hr fun ρ'' a b h1 h2 => hk ρ'' a b (hle.trans h1) h2
end

/-! ## values -/

mutual
theorem plain_rel {ρ : Rho} : ∀ (v : Value), plain v = true → VRel ρ v v
  | .bool _, _ => .atom rfl
  | .int _ _, _ => .atom rfl
  | .float _ _, _ => .atom rfl
  | .complex _ _ _, _ => .atom rfl
  | .string _, _ => .atom rfl
  | .pointer none, _ => .atom rfl
  | .pointer (some _), h => by simp [plain] at h
  | .slice none _ _, _ => .atom rfl
  | .slice (some _) _ _, h => by simp [plain] at h
  | .map none, _ => .atom rfl
  | .map (some _), h => by simp [plain] at h
  | .chan none, _ => .atom rfl
  | .chan (some _), h => by simp [plain] at h
  | .nilFunc, _ => .atom rfl
  | .nilIface, _ => .atom rfl
  | .func fn ⟨a⟩ ⟨c⟩, h => by
    have hy : ∀ l, fn ≠ .yield l := by rintro l rfl; simp [plain] at h
    have hh : a.isEmpty = true ∧ c.isEmpty = true := by
      cases fn <;> simp_all [plain]
    have ha : a = [] := List.isEmpty_iff.1 hh.1
    have hc : c = [] := List.isEmpty_iff.1 hh.2
    subst ha; subst hc
    exact .func (.same hy) .nil .nil
  | .iface _ v, h => .iface (plain_rel v (by simpa [plain] using h))
  | .agg ⟨l⟩, h => .agg (plain_relL l (by simpa [plain] using h))
  | .tuple ⟨l⟩, h => .tuple (plain_relL l (by simpa [plain] using h))
theorem plain_relL {ρ : Rho} : ∀ (l : List Value), plain.go l = true → VRelL ρ l l
  | [], _ => .nil
  | v :: l, h => by
    simp only [plain.go, Bool.and_eq_true] at h
    exact .cons (plain_rel v h.1) (plain_relL l h.2)
end

theorem VRel.int {ρ : Rho} {k : IntKind} {n : Int} {v : Value} (h : VRel ρ (.int k n) v) : v = .int k n := by cases h; rfl
theorem VRel.bool {ρ : Rho} {b : Bool} {v : Value} (h : VRel ρ (.bool b) v) : v = .bool b := by cases h; rfl
theorem VRel.string {ρ : Rho} {s : ByteArray} {v : Value} (h : VRel ρ (.string s) v) : v = .string s := by cases h; rfl
theorem VRel.pnil {ρ : Rho} {v : Value} (h : VRel ρ (.pointer none) v) : v = .pointer none := by cases h; rfl
theorem VRel.snil {ρ : Rho} {n c : Nat} {v : Value} (h : VRel ρ (.slice none n c) v) : v = .slice none n c := by cases h; rfl
theorem VRel.mnil {ρ : Rho} {v : Value} (h : VRel ρ (.map none) v) : v = .map none := by cases h; rfl
theorem VRel.fnil {ρ : Rho} {v : Value} (h : VRel ρ .nilFunc v) : v = .nilFunc := by cases h; rfl
theorem VRel.inil {ρ : Rho} {v : Value} (h : VRel ρ .nilIface v) : v = .nilIface := by cases h; rfl
theorem VRel.toPtr {ρ : Rho} {a : Addr} {v : Value} (h : VRel ρ (.pointer (some a)) v) : ∃ a', v = .pointer (some a') ∧ AddrRel ρ a a' := by
  cases h with
  | atom h => cases h
  | ptr h => exact ⟨_, rfl, h⟩
theorem VRel.toMap {ρ : Rho} {r : Nat} {v : Value} (h : VRel ρ (.map (some r)) v) : ∃ b, v = .map (some b.blk) ∧ ρ r = some b := by
  cases h with
  | atom h => cases h
  | map h => exact ⟨_, rfl, h⟩
theorem VRel.toIface {ρ : Rho} {t : TypeId} {x v : Value} (h : VRel ρ (.iface t x) v) : ∃ x', v = .iface t x' ∧ VRel ρ x x' := by
  cases h with
  | atom h => cases h
  | iface h => exact ⟨_, rfl, h⟩
theorem VRel.toAgg {ρ : Rho} {l : List Value} {v : Value} (h : VRel ρ (.agg ⟨l⟩) v) : ∃ l', v = .agg ⟨l'⟩ ∧ VRelL ρ l l' := by
  cases h with
  | atom h => cases h
  | agg h => exact ⟨_, rfl, h⟩
theorem VRel.toTuple {ρ : Rho} {l : List Value} {v : Value} (h : VRel ρ (.tuple ⟨l⟩) v) : ∃ l', v = .tuple ⟨l'⟩ ∧ VRelL ρ l l' := by
  cases h with
  | atom h => cases h
  | tuple h => exact ⟨_, rfl, h⟩
theorem VRel.toFunc {ρ : Rho} {fn : Fn} {a c : List Value} {v : Value} (h : VRel ρ (.func fn ⟨a⟩ ⟨c⟩) v) : ∃ fn' a' c', v = .func fn' ⟨a'⟩ ⟨c'⟩ ∧ FnRel ρ fn fn' ∧ VRelL ρ a a' ∧ VRelL ρ c c' := by
  cases h with
  | atom h => cases h
  | func h ha hc => exact ⟨_, _, _, rfl, h, ha, hc⟩
/-- the cells of a value -/
theorem VRel.lst {ρ : Rho} {v v' : Value} (h : VRel ρ v v') (hu : v ≠ Bel.unk) : VRelL ρ (lst v) v'.cells.toList := by
  cases h with
  | unk => exact absurd rfl hu
  | shortS h => exact .cons (.shortS h) .nil
  | longS h => exact .cons (.longS h) .nil
  | shortI h => exact .cons (.shortI h) .nil
  | longI h => exact .cons (.longI h) .nil
  | anyI => exact .cons .anyI .nil
  | geI h => exact .cons (.geI h) .nil
  | agg h => exact h
  | atom h => cases v <;> first | exact .cons (.atom h) .nil | (cases h)
  | ptr h => exact .cons (.ptr h) .nil
  | slice h hc => exact .cons (.slice h hc) .nil
  | loose h hx hn hc ho hl hz => exact .cons (.loose h hx hn hc ho hl hz) .nil
  | map h => exact .cons (.map h) .nil
  | func h ha hc => exact .cons (.func h ha hc) .nil
  | iface h => exact .cons (.iface h) .nil
  | tuple h => exact .cons (.tuple h) .nil
theorem nth_eq {α : Type} : ∀ (l : List α) (i : Nat), nth l i = l[i]?
  | [], _ => by simp [nth]
  | x :: l, 0 => by simp [nth]
  | x :: l, i + 1 => by simp [nth, nth_eq l i]
end

section
variable {T : Tab} {ρ : Rho}

theorem known_ne {v : Value} (h : known v = true) : v ≠ unk := by rintro rfl; exact absurd h (by decide)
theorem VRel.lst' {v v' : Value} (h : VRel ρ v v') (hk : known v = true) : VRelL ρ (Bel.lst v) v'.cells.toList := VRel.lst h (known_ne hk)

theorem run_load_one (P : Program) (a : Addr) (w : World) : (load a).run P w = ((loadCells a 1).bind fun arr => match arr.toList with | [x] => .pure x | _ => stuck "").run P w := by
  have : a.add 0 = a := by simp [Addr.add]
  simp only [loadCells, loadCellsFrom, load, bind_eq, Sem.bind, Sem.run, this, pure_eq]
  split
  · rfl
  · split <;> rfl

theorem load_rel (hT : TabOk T) {t : TypeId} {v v' : Value} (hv : VRel ρ v v') : SR T.P VRel ρ (aLoad T t v) (Instr.loadAt t v') := by
  unfold aLoad
  split
  · rename_i a n hagg hsize
    obtain ⟨a', rfl, ha⟩ := hv.toPtr
    simp only [Instr.loadAt, Instr.sureAddr, bind_eq, pure_eq]
    refine .step (fun w => rfl) ?_
    simp only [loadVar, bind_eq]
    refine SR.agg hT hagg ?_
    simp only [if_true]
    refine SR.size hT hsize ?_
    exact .loads (.inr ha) fun vs vs' hl _ => .ret (.agg hl)
  · rename_i a _ hagg
    obtain ⟨a', rfl, ha⟩ := hv.toPtr
    simp only [Instr.loadAt, Instr.sureAddr, bind_eq, pure_eq]
    refine .step (fun w => rfl) ?_
    simp only [loadVar, bind_eq]
    refine SR.agg hT hagg ?_
    simp only [Bool.false_eq_true, if_false]
    refine .equiv (run_load_one T.P a') ?_
    refine .loads (.inr ha) fun vs vs' hl _ => ?_
    cases hl with
    | nil => exact .fail
    | cons h ht => cases ht with
      | nil => exact .ret h
      | cons h2 ht2 => exact .fail
  · exact .fail

theorem store_rel (hT : TabOk T) {t : TypeId} {v v' x x' : Value} (hv : VRel ρ v v') (hx : VRel ρ x x') : SR T.P (fun _ _ _ => True) ρ (aStore T t v x) (Instr.storeAt t v' x') := by
  unfold aStore
  split
  · rename_i a n hsize
    split
    · rename_i hk
      simp only [Bool.and_eq_true] at hk
      have hn := Nat.eq_of_beq_eq_true hk.2
      have hl := hx.lst' hk.1
      obtain ⟨a', rfl, ha⟩ := hv.toPtr
      simp only [Instr.storeAt, Instr.sureAddr, bind_eq, pure_eq]
      refine .step (fun w => rfl) ?_
      simp only [storeVar, bind_eq]
      refine SR.size hT hsize ?_
      have hsz : x'.cells.size = n := by
        have := hl.length
        simp only [Array.length_toList] at this
        omega
      simp only [hsz, ne_eq, not_true, if_false]
      refine .equiv (s'' := (storeCells a' x'.cells.toList).bind fun _ => .pure ()) (fun w => by rw [Sem.bind_pure']) ?_
      exact .stores (.inr ha) hl (.ret trivial)
    · exact .fail
  · exact .fail

theorem newRow_rel {P : Program} {l l' : List Value} {e : TypeId} (hl : VRelL ρ l l') : SR P VRel ρ (aNew e l) ((newRow e ⟨l'⟩).bind fun a => .pure (.pointer (some a))) := by
  unfold aNew
  refine .new (av := l'.length) (sz := 1) (fun r => ?_) fun ρ' r r' hle hr => ?_
  · refine .cells (by have := hl.length; show l.length ≤ l'.length; omega) (by simp) ?_ (fun _ o _ _ h => by omega) (fun _ => rfl) (.inl (Nat.le_refl _))
    simp only [List.drop_zero]
    rw [List.take_of_length_le (by have := hl.length; omega)]
    exact hl
  · have := AddrRel.mk (o := 0) hr
    exact .ret (.ptr this)

theorem alloc_rel (hT : TabOk T) {e : TypeId} {z : Value} (hz : T.zero e = some z) : SR T.P VRel ρ (aNew e (lst z)) (Instr.alloc e true (.tuple #[])) := by
  simp only [Instr.alloc, bind_eq, pure_eq]
  refine SR.zero hT hz ?_
  simp only [newVar]
  have hp := plain_rel (ρ := ρ) z (Tab.zero_plain hz)
  have hk : known z = true := by
    have := Tab.zero_plain hz
    cases z <;> first | rfl | (rename_i o; cases o <;> first | rfl | simp [plain] at this)
  exact newRow_rel (hp.lst' hk)

theorem box_rel {P : Program} {e : TypeId} {v v' : Value} (hv : VRel ρ v v') (hk : known v = true) : SR P VRel ρ (aNew e (lst v)) (Instr.box e v') := by
  simp only [Instr.box, bind_eq, pure_eq, newVar]
  exact newRow_rel (hv.lst' hk)

theorem cut_rel {c c' l : List Value} {i n : Nat} (hc : VRelL ρ c c') (h : cut c i n = some l) : VRelL ρ l ((c'.drop i).take n) ∧ (n = 0 ∨ i + n ≤ c'.length) := by
  obtain ⟨h1, _⟩ := cut_eq h
  have := cut_bound h
  rw [hc.length] at this
  exact ⟨h1 ▸ (hc.drop i).take n, this⟩

theorem part_rel (hT : TabOk T) {t : TypeId} {cs cs' : List Value} {off : Nat} (hc : VRelL ρ cs cs') : SR T.P VRel ρ (aPart T t cs off) (part t ⟨cs'⟩ off) := by
  unfold aPart
  split
  · rename_i n hagg hsize
    split
    · rename_i l hcut
      simp only [part, bind_eq, pure_eq]
      refine SR.agg hT hagg ?_
      simp only [if_true]
      refine SR.size hT hsize ?_
      obtain ⟨h1, h2⟩ := cut_rel hc hcut
      have e : (⟨cs'⟩ : Array Value).extract off (off + n) = ⟨(cs'.drop off).take n⟩ := by
        simp [List.extract_eq_take_drop]
      rw [e]
      exact .ret (.agg h1)
    · exact .fail
  · rename_i hagg
    split
    · rename_i v hcut
      simp only [part, bind_eq, pure_eq]
      refine SR.agg hT hagg ?_
      simp only [Bool.false_eq_true, if_false]
      obtain ⟨h1, h2⟩ := cut_eq hcut
      have hv : cs[off]? = some v := by
        have : (List.take 1 (List.drop off cs))[0]? = some v := by rw [← h1]; rfl
        simpa using this
      obtain ⟨v', h3, h4⟩ := hc.nth hv
      have : (⟨cs'⟩ : Array Value)[off]? = some v' := by simpa using h3
      rw [this]
      exact .ret h4
    · exact .fail
  · exact .fail

theorem fieldAddr_rel (hT : TabOk T) {s : TypeId} {v v' : Value} {f : Nat} (hv : VRel ρ v v') : SR T.P VRel ρ (aFieldAddr T s v f) (Instr.fieldAt s v' f) := by
  unfold aFieldAddr
  split
  · rename_i b o fs hund
    split
    · rename_i g hg
      split
      · rename_i n hsize
        obtain ⟨a', rfl, ha⟩ := hv.toPtr
        simp only [Instr.fieldAt, bind_eq, pure_eq]
        refine SR.und hT hund ?_
        simp only
        rw [nth_eq] at hg
        have hg' : fs[f]? = some g := by simpa using hg
        rw [hg']
        simp only [Instr.sureAddr]
        refine .step (fun w => rfl) ?_
        simp only [fieldPlace, bind_eq, pure_eq]
        rw [Sem.bind_assoc']
        refine SR.size hT hsize ?_
        simp only [Nat.add_one_ne_zero, if_false]
        cases ha with
        | @mk _ _ bi hb =>
        have := AddrRel.mk (o := o + g.offset) hb
        rw [← Nat.add_assoc] at this
        simp only [Sem.bind, add_eq]
        exact .ret (.ptr this)
      · exact .fail
    · exact .fail
  · exact .fail

theorem field_rel (hT : TabOk T) {t : TypeId} {v v' : Value} {f : Nat} (hv : VRel ρ v v') : SR T.P VRel ρ (aField T t v f) (Instr.field t v' f) := by
  unfold aField
  split
  · rename_i l fs hund
    split
    · rename_i g hg
      obtain ⟨l', rfl, hl⟩ := hv.toAgg
      simp only [Instr.field, bind_eq]
      refine SR.und hT hund ?_
      rw [nth_eq] at hg
      have hg' : fs[f]? = some g := by simpa using hg
      simp only [hg']
      refine .step (fun w => rfl) ?_
      exact part_rel hT hl
    · exact .fail
  · exact .fail

theorem inside_eq {i : Int} {n k : Nat} (h : inside i n = some k) : i = (k : Int) ∧ k < n := by
  unfold inside at h
  split at h
  · split at h
    · rename_i hb
      simp only [Option.some.injEq] at h
      subst h
      exact ⟨rfl, Nat.lt_of_lt_of_eq (Nat.le_of_ble_eq_true hb) rfl⟩
    · cases h
  · cases h

theorem indexAddr_rel (hT : TabOk T) {t : TypeId} {v v' i i' : Value} (hv : VRel ρ v v') (hi : VRel ρ i i') : SR T.P VRel ρ (aIndexAddr T t v i) (Instr.indexAt t v' i') := by
  unfold aIndexAddr
  split
  · rename_i kd ix b o n e hund
    split
    · rename_i k z hin hsz
      obtain ⟨rfl, hlt⟩ := inside_eq hin
      cases hi.int
      obtain ⟨a', rfl, ha⟩ := hv.toPtr
      simp only [Instr.indexAt, bind_eq, pure_eq, asIntOf]
      refine .step (fun w => rfl) ?_
      refine SR.und hT hund ?_
      simp only [Instr.sureAddr, pure_eq, Sem.bind]
      refine SR.und hT hund ?_
      rw [if_pos ⟨by omega, by omega⟩]
      refine SR.size hT hsz ?_
      cases ha with
      | @mk _ _ bi hb =>
      have := AddrRel.mk (o := o + k * z) hb
      rw [← Nat.add_assoc] at this
      simp only [Int.toNat_natCast, add_eq]
      exact .ret (.ptr this)
    · exact .fail
  · rename_i kd ix b o n c e hund
    split
    · rename_i k z hin hsz
      obtain ⟨rfl, hlt⟩ := inside_eq hin
      cases hi.int
      have hreal : ∃ a' c', v' = .slice (some a') n c' ∧ AddrRel ρ ⟨b, o, none⟩ a' := by
        cases hv with
        | atom h => cases h
        | slice h hc => exact ⟨_, _, rfl, h⟩
        | @loose _ _ x _ _ c' bi h hx hn hc ho hl hz =>
          refine ⟨_, _, rfl, ?_⟩
          rcases hx with hx | hx
          · subst hx; exact .mk h
          · omega
      obtain ⟨a', c', rfl, ha⟩ := hreal
      simp only [Instr.indexAt, bind_eq, pure_eq, asIntOf]
      refine .step (fun w => rfl) ?_
      refine SR.und hT hund ?_
      simp only [Sem.bind]
      refine SR.und hT hund ?_
      rw [if_pos ⟨by omega, by omega⟩]
      refine SR.size hT hsz ?_
      cases ha with
      | @mk _ _ bi hb =>
      have := AddrRel.mk (o := o + k * z) hb
      rw [← Nat.add_assoc] at this
      simp only [Int.toNat_natCast, add_eq]
      exact .ret (.ptr this)
    · exact .fail
  · exact .fail

theorem extract_rel {P : Program} {x x' : Value} {i : Nat} (hx : VRel ρ x x') : SR P VRel ρ (aExtract x i) (Instr.extract x' i) := by
  unfold aExtract
  split
  · rename_i l
    split
    · rename_i v hv
      obtain ⟨l', rfl, hl⟩ := hx.toTuple
      rw [nth_eq] at hv
      obtain ⟨v', h1, h2⟩ := hl.nth hv
      have : (⟨l'⟩ : Array Value)[i]? = some v' := by simpa using h1
      simp only [Instr.extract, this]
      exact .ret h2
    · exact .fail
  · exact .fail
end

section
variable {T : Tab} {ρ : Rho}

inductive OptRel (ρ : Rho) : Option Value → Option Value → Prop where
  | none : OptRel ρ none none
  | some {v v' : Value} (h : VRel ρ v v') : OptRel ρ (some v) (some v')

theorem upto_eq {i : Int} {n k : Nat} (h : upto i n = some k) : i = (k : Int) ∧ k ≤ n := by
  obtain ⟨h1, h2⟩ := inside_eq h
  exact ⟨h1, by omega⟩
theorem run_sliceBound {P : Program} {k : IntKind} {i : Int} {y n : Nat} {code : BoundsCode} (h : upto i y = some n) (w : World) :
    (Instr.sliceBound (.int k i) y code).run P w = .ok n w := by
  obtain ⟨rfl, h2⟩ := upto_eq h
  simp only [Instr.sliceBound, asIntOf, bind_eq, pure_eq, Sem.bind]
  rw [if_pos ⟨by omega, by omega⟩]
  rfl
theorem upto_mono {i : Int} {n m k : Nat} (h : upto i n = some k) (hm : n ≤ m) : upto i m = some k := by
  obtain ⟨h1, h2⟩ := upto_eq h
  subst h1
  unfold upto inside
  have : Nat.blt k (m + 1) = true := by
    show Nat.ble (k + 1) (m + 1) = true
    exact Nat.ble_eq_true_of_le (by omega)
  simp [this]
theorem bound_some {v v' : Value} {y d n : Nat} (h : bound (some v) y d = some n) (hv : VRel ρ v v') : ∃ k i, v' = .int k i ∧ upto i y = some n := by
  unfold bound at h
  split at h
  · cases ‹some v = none›
  · rename_i k i he
    cases he
    cases hv.int
    exact ⟨k, i, rfl, h⟩
  · cases h
theorem run_sliceBounds {P : Program} {isS : Bool} {len cap c0 : Nat} {lo hi mx lo' hi' mx' : Option Value} {l h m m0 : Nat} (hlo : OptRel ρ lo lo') (hhi : OptRel ρ hi hi') (hmx : OptRel ρ mx mx')
    (hc : c0 ≤ cap) (h1 : bound mx c0 c0 = some m0) (hm : m = if mx.isSome then m0 else cap) (h2 : bound hi m0 len = some h) (h3 : bound lo h 0 = some l) (h4 : (mx.isSome && hi.isNone) = false) (w : World) :
    (Instr.sliceBounds isS len cap lo' hi' mx').run P w = .ok (l, h, m) w := by
  cases hmx with
  | none =>
    simp only [bound, Option.some.injEq] at h1
    subst h1
    simp only [Option.isSome_none, Bool.false_eq_true, if_false] at hm
    subst hm
    cases hhi with
    | none =>
      simp only [bound, Option.some.injEq] at h2
      subst h2
      cases hlo with
      | none =>
        simp only [bound, Option.some.injEq] at h3
        subst h3
        rfl
      | some hv =>
        obtain ⟨k, i, rfl, hu⟩ := bound_some h3 hv
        exact (run_bind_ok (run_sliceBound hu w))
    | some hv2 =>
      obtain ⟨k2, i2, rfl, hu2⟩ := bound_some h2 hv2
      cases hlo with
      | none =>
        simp only [bound, Option.some.injEq] at h3
        subst h3
        exact (run_bind_ok (run_sliceBound (upto_mono hu2 hc) w))
      | some hv =>
        obtain ⟨k, i, rfl, hu⟩ := bound_some h3 hv
        exact (run_bind_ok (run_sliceBound (upto_mono hu2 hc) w)).trans (run_bind_ok (run_sliceBound hu w))
  | some hx =>
    simp only [Option.isSome_some, if_true] at hm
    subst hm
    obtain ⟨k3, i3, rfl, hu3⟩ := bound_some h1 hx
    cases hhi with
    | none => simp at h4
    | some hv2 =>
      obtain ⟨k2, i2, rfl, hu2⟩ := bound_some h2 hv2
      refine (run_bind_ok (run_sliceBound (upto_mono hu3 hc) w)).trans ?_
      cases hlo with
      | none =>
        simp only [bound, Option.some.injEq] at h3
        subst h3
        exact (run_bind_ok (run_sliceBound hu2 w))
      | some hv =>
        obtain ⟨k, i, rfl, hu⟩ := bound_some h3 hv
        exact (run_bind_ok (run_sliceBound hu2 w)).trans (run_bind_ok (run_sliceBound hu w))

theorem bound_le {x : Option Value} {y other n : Nat} (h : bound x y other = some n) : (x = none ∧ n = other) ∨ n ≤ y := by
  unfold bound at h
  split at h
  · simp only [Option.some.injEq] at h; exact .inl ⟨rfl, h.symm⟩
  · exact .inr (upto_eq h).2
  · cases h

theorem bytes_extract (s : ByteArray) (l h : Nat) : s.extract l h = ⟨⟨(s.data.toList.take h).drop l⟩⟩ := by
  have : (s.extract l h).data = s.data.extract l h := by simp
  cases hs : s.extract l h with
  | mk d =>
    rw [hs] at this
    simp only at this
    subst this
    congr 1
    apply Array.ext'
    simp [List.take_drop]
    by_cases hh : l ≤ h
    · rw [show l + (h - l) = h by omega]
    · rw [show h - l = 0 by omega]
      simp
      omega
end

section
variable {T : Tab} {ρ : Rho}

theorem run_slice_str {hT : TabOk T} {t : TypeId} (h : T.und t = some .string) (s : ByteArray) {lo hi mx : Option Value} (w : World) (hmx : mx = none) :
    (Instr.sliceAt t (.string s) lo hi mx).run T.P w = ((Instr.sliceBounds false s.size s.size lo hi none).bind fun (l, h, _) => .pure (.string (s.extract l h))).run T.P w := by
  subst hmx
  simp only [Instr.sliceAt, Instr.slice, bind_eq, pure_eq]
  rw [run_bind_of (hT.run_und h)]
  simp only
  rw [run_bind_of (hT.run_und h)]
  rfl

theorem run_slice_sl {hT : TabOk T} {t e : TypeId} {z : Nat} (h : T.und t = some (.slice e)) (hz : T.size e = some z) {a : Option Addr} {n c : Nat} {lo hi mx : Option Value} {l hh m : Nat} (w : World)
    (hb : (Instr.sliceBounds true n c lo hi mx).run T.P w = .ok (l, hh, m) w) :
    (Instr.sliceAt t (.slice a n c) lo hi mx).run T.P w = .ok (.slice (if m = l then a else a.map (·.add (l * z))) (hh - l) (m - l)) w := by
  simp only [Instr.sliceAt, Instr.slice, bind_eq, pure_eq]
  rw [run_bind_of (hT.run_und h)]
  simp only
  rw [run_bind_of (hT.run_und h)]
  simp only
  rw [run_bind_ok hb]
  simp only
  rw [run_bind_of (hT.run_size hz)]
  rfl

theorem run_slice_nil {hT : TabOk T} {t e : TypeId} (h : T.und t = some (.slice e)) (hz : ∃ z, T.size e = some z) {n c : Nat} {lo hi mx : Option Value} {l hh m : Nat} (w : World)
    (hb : (Instr.sliceBounds true n c lo hi mx).run T.P w = .ok (l, hh, m) w) :
    (Instr.sliceAt t (.slice none n c) lo hi mx).run T.P w = .ok (.slice none (hh - l) (m - l)) w := by
  obtain ⟨z, hz⟩ := hz
  rw [run_slice_sl (hT := hT) h hz w hb]
  split <;> rfl

theorem run_slice_arr {hT : TabOk T} {t e : TypeId} {n z : Nat} (h : T.und t = some (.array n e)) (hz : T.size e = some z) {a : Addr} {lo hi mx : Option Value} {l hh m : Nat} (w : World)
    (hb : (Instr.sliceBounds false n n lo hi mx).run T.P w = .ok (l, hh, m) w) :
    (Instr.sliceAt t (.pointer (some a)) lo hi mx).run T.P w = .ok (.slice (some (if m = l then a else a.add (l * z))) (hh - l) (m - l)) w := by
  simp only [Instr.sliceAt, Instr.sureAddr, bind_eq, pure_eq]
  rw [run_bind_of (hT.run_und h)]
  simp only [Sem.bind]
  rw [run_bind_ok hb]
  simp only
  rw [run_bind_of (hT.run_size hz)]
  rfl

theorem decode_cap {z c : Nat} (hc : c < loose) : (loose * z + c) / loose = z ∧ (loose * z + c) % loose = c := by
  constructor
  · rw [Nat.mul_add_div (by unfold loose; omega), Nat.div_eq_of_lt hc]; rfl
  · rw [Nat.mul_add_mod, Nat.mod_eq_of_lt hc]

theorem SR.of_run {P : Program} {α β : Type} {R : Rho → α → β → Prop} {a : α} {b : β} {s' : Sem β} (h : ∀ w, s'.run P w = .ok b w) (hr : R ρ a b) : SR P R ρ (.ret a) s' :=
  .equiv (s'' := .pure b) h (.ret hr)

theorem ble_false {a b : Nat} (h : Nat.ble a b = false) : b < a := by
  rcases Nat.lt_or_ge b a with h1 | h1
  · exact h1
  · rw [Nat.ble_eq_true_of_le h1] at h; cases h
theorem beq_false {a b : Nat} (h : Nat.beq a b = false) : a ≠ b := by
  rintro rfl; simp at h

theorem slice_rel (hT : TabOk T) {t : TypeId} {v v' : Value} {lo hi mx lo' hi' mx' : Option Value} (hv : VRel ρ v v') (hlo : OptRel ρ lo lo') (hhi : OptRel ρ hi hi') (hmx : OptRel ρ mx mx') :
    SR T.P VRel ρ (aSlice T t v lo hi mx) (Instr.sliceAt t v' lo' hi' mx') := by
  unfold aSlice
  split
  · -- strings
    rename_i s hund
    split
    · rename_i h hb
      cases hmx
      cases hv.string
      split
      · rename_i l hl
        have hsz : s.size = s.data.toList.length := rfl
        refine .of_run (fun w => ?_) (b := .string (s.extract l h)) ?_
        · rw [run_slice_str (hT := hT) hund s w rfl]
          exact run_bind_ok (run_sliceBounds hlo hhi .none (c0 := s.size) (m0 := s.size) (m := s.size) (Nat.le_refl _) rfl (by simp) (by rw [hsz]; exact hb) hl rfl w)
        · rw [bytes_extract]; exact .atom rfl
      · exact .fail
    · exact .fail
  · -- nil
    rename_i n c e hund
    cases hv.snil
    split
    · rename_i m hm hflag
      split
      · rename_i h hh
        split
        · rename_i l z hl hz
          have hb := run_sliceBounds (P := T.P) (isS := true) (len := n) (cap := c) hlo hhi hmx (Nat.le_refl c) hm (m := m) (by
                cases mx with
                | none => simp [bound] at hm; simp [hm]
                | some x => simp) hh hl hflag
          exact .of_run (fun w => run_slice_nil (hT := hT) hund ⟨z, hz⟩ w (hb w)) (.atom rfl)
        · exact .fail
      · exact .fail
    · exact .fail
  · rename_i b o n c e hund
    split
    · rename_i z hz hflag
      split
      · -- exact
        rename_i hlo0
        have hc := ble_false hlo0
        obtain ⟨a', rfl, ha⟩ : ∃ a', v' = .slice (some a') n c ∧ AddrRel ρ ⟨b, o, none⟩ a' := by
          cases hv with
          | atom h => cases h
          | slice h _ => exact ⟨_, rfl, h⟩
          | loose h hx hn h1 h2 h3 h4 =>
            have : loose ≤ loose * _ := Nat.le_mul_of_pos_right loose h4
            omega
        cases ha with
        | @mk _ _ bi hbi =>
        split
        · rename_i m hm
          split
          · rename_i h hh
            split
            · rename_i l hl
              have hb := run_sliceBounds (P := T.P) (isS := true) (len := n) (cap := c) hlo hhi hmx (Nat.le_refl c) hm (m := m) (by
                cases mx with
                | none => simp [bound] at hm; simp [hm]
                | some x => simp) hh hl hflag
              refine .of_run (fun w => run_slice_sl (hT := hT) hund hz w (hb w)) ?_
              have hmle : m ≤ c := by
                rcases bound_le hm with ⟨_, h1⟩ | h1 <;> omega
              by_cases hml : m = l
              · rw [if_pos hml]
                have : Nat.beq m l = true := by subst hml; simp
                simp only [this]
                exact .slice (.mk hbi) (by omega)
              · rw [if_neg hml]
                have : Nat.beq m l = false := by
                  cases hq : Nat.beq m l
                  · rfl
                  · exact absurd (Nat.eq_of_beq_eq_true hq) hml
                simp only [this, Option.map_some, add_eq]
                have := AddrRel.mk (o := o + l * z) hbi
                rw [← Nat.add_assoc] at this
                exact .slice this (by omega)
            · exact .fail
          · exact .fail
        · exact .fail
      · -- loose
        rename_i hlo0
        have hc := Nat.le_of_ble_eq_true hlo0
        cases hv with
        | atom h => cases h
        | slice h hlt => omega
        | @loose _ _ x _ c1 c' bi hbi hx hn h1 h2 h3 h4 =>
        obtain ⟨hd1, hd2⟩ := decode_cap (z := bi.size) h3
        rw [hd1, hd2]
        split
        · -- no third bound
          rename_i hbeq
          have hzz := Nat.eq_of_beq_eq_true hbeq
          subst hzz
          cases hmx
          split
          · rename_i h hh
            split
            · rename_i l hl
              have hb := run_sliceBounds (P := T.P) (isS := true) (len := n) (cap := c') hlo hhi .none h1 (m0 := c1) rfl (m := c') (by simp) hh hl rfl
              refine .of_run (fun w => run_slice_sl (hT := hT) hund hz w (hb w)) ?_
              have hhc : h ≤ c' := by
                rcases bound_le hh with ⟨_, h5⟩ | h5 <;> omega
              have hhl : l ≤ h := by
                rcases bound_le hl with ⟨_, h5⟩ | h5 <;> omega
              have hmul : l * bi.size + (c' - l) * bi.size = c' * bi.size := by
                rw [← Nat.add_mul]; congr 1; omega
              by_cases hml : c' = l
              · rw [if_pos hml]
                exact .loose hbi (.inr (by omega)) (by omega) (by omega) (by omega) (by omega) h4
              · rw [if_neg hml]
                simp only [Option.map_some, add_eq]
                refine .loose hbi ?_ (by omega) (by omega) (by omega) (by omega) h4
                rcases hx with hx | hx
                · left; subst hx; omega
                · omega
            · exact .fail
          · exact .fail
        · -- a third bound
          rename_i mxv hbeq
          have hzz := Nat.eq_of_beq_eq_true hbeq
          subst hzz
          split
          · rename_i m hm
            split
            · rename_i h hh
              split
              · rename_i l hl
                have hm' : bound (some mxv) c1 c1 = some m := by
                  rw [← hm]; cases mxv <;> rfl
                have hb := run_sliceBounds (P := T.P) (isS := true) (len := n) (cap := c') hlo hhi hmx h1 hm' (m := m) (by simp) hh hl hflag
                have hmle : m ≤ c1 := by
                  rcases bound_le hm with ⟨h5, _⟩ | h5
                  · cases h5
                  · omega
                have hhm : h ≤ m := by
                  rcases bound_le hh with ⟨h5, h6⟩ | h5
                  · subst h5
                    cases mxv <;> simp at hflag
                  · exact h5
                have hlh : l ≤ h := by
                  rcases bound_le hl with ⟨_, h5⟩ | h5 <;> omega
                split
                · rename_i hml
                  have hml := Nat.eq_of_beq_eq_true hml
                  refine .of_run (fun w => run_slice_sl (hT := hT) hund hz w (hb w)) ?_
                  rw [if_pos hml]
                  have := VRel.loose (n := h - l) (c := 0) (c' := m - l) hbi (x := x) (o := o) (.inr (by omega)) (by omega) (by omega) (by rw [show m - l = 0 by omega]; omega) (by unfold Go.Bel.loose; omega) h4
                  simpa using this
                · rename_i hml
                  have hml := beq_false hml
                  refine .of_run (fun w => run_slice_sl (hT := hT) hund hz w (hb w)) ?_
                  rw [if_neg hml]
                  simp only [Option.map_some, add_eq]
                  have hx' : x = bi.base + o := by rcases hx with hx | hx <;> omega
                  subst hx'
                  have := AddrRel.mk (o := o + l * bi.size) hbi
                  rw [← Nat.add_assoc] at this
                  exact .slice this (by omega)
              · exact .fail
            · exact .fail
          · exact .fail
        · exact .fail
    · exact .fail
  · rename_i b o n e hund
    split
    · rename_i m hm hflag
      split
      · rename_i h hh
        split
        · rename_i l z hl hz
          split
          · rename_i hlt
            have hlt : n < loose := Nat.le_of_ble_eq_true hlt
            obtain ⟨a', rfl, ha⟩ := hv.toPtr
            cases ha with
            | @mk _ _ bi hbi =>
            have hb := run_sliceBounds (P := T.P) (isS := false) (len := n) (cap := n) hlo hhi hmx (Nat.le_refl n) hm (m := m) (by
              cases mx with
              | none => simp [bound] at hm; simp [hm]
              | some x => simp) hh hl hflag
            refine .of_run (fun w => run_slice_arr (hT := hT) hund hz w (hb w)) ?_
            have hmle : m ≤ n := by
              rcases bound_le hm with ⟨_, h1⟩ | h1 <;> omega
            by_cases hml : m = l
            · rw [if_pos hml]
              have : Nat.beq m l = true := by subst hml; simp
              simp only [this]
              exact .slice (.mk hbi) (by omega)
            · rw [if_neg hml]
              have : Nat.beq m l = false := by
                cases hq : Nat.beq m l
                · rfl
                · exact absurd (Nat.eq_of_beq_eq_true hq) hml
              simp only [this, add_eq]
              have := AddrRel.mk (o := o + l * z) hbi
              rw [← Nat.add_assoc] at this
              exact .slice this (by omega)
          · exact .fail
        · exact .fail
      · exact .fail
    · exact .fail
  · exact .fail
end

section
variable {T : Tab} {ρ : Rho}

inductive PRelL (ρ : Rho) : List (Nat × Value) → List (Nat × Value) → Prop where
  | nil : PRelL ρ [] []
  | cons {i : Nat} {v v' : Value} {l l' : List (Nat × Value)} (h : VRel ρ v v') (ht : PRelL ρ l l') : PRelL ρ ((i, v) :: l) ((i, v') :: l')

theorem foldl_zipIdx (off : Nat) : ∀ (vs : List Value) (k : Nat) (cs : Array Value), off + k + vs.length ≤ cs.size →
    ((vs.zipIdx k).foldl (fun (cs : Array Value) (p : Value × Nat) => cs.setIfInBounds (off + p.2) p.1) cs).toList = cs.toList.take (off + k) ++ vs ++ cs.toList.drop (off + k + vs.length) := by
  intro vs
  induction vs with
  | nil => intro k cs h; simp
  | cons v vs ih =>
    intro k cs h
    simp only [List.zipIdx_cons, List.foldl_cons]
    rw [ih (k + 1) (cs.setIfInBounds (off + k) v) (by simp at h ⊢; omega)]
    simp only [Array.toList_setIfInBounds, List.length_cons]
    have hlt : off + k < cs.toList.length := by simp at h ⊢; omega
    rw [show off + (k + 1) = off + k + 1 by omega, List.take_set, List.drop_set, if_pos (by omega), show off + k + 1 + vs.length = off + k + (vs.length + 1) by omega]
    congr 1
    rw [List.take_add_one]
    simp only [List.getElem?_eq_getElem hlt, Option.toList_some]
    have hlt' : off + k < cs.size := by simpa using hlt
    have hmin : min (off + k) cs.size = off + k := by omega
    rw [List.set_append, if_neg (by simp; omega)]
    simp [hmin]

theorem lay_rel0 {c c' vs vs' r : List Value} {off : Nat} (hc : VRelL ρ c c') (hv : VRelL ρ vs vs') (h : lay c off vs = some r) :
    (vs = [] ∨ off + vs'.length ≤ c'.length) ∧ VRelL ρ r (c'.take off ++ vs' ++ c'.drop (off + vs'.length)) := by
  have h1 := hc.length
  have h2 := hv.length
  rcases lay_eq _ _ _ _ h with ⟨rfl, rfl⟩ | ⟨h3, rfl⟩
  · cases hv
    refine ⟨.inl rfl, ?_⟩
    simpa using hc
  · refine ⟨.inr (by omega), ?_⟩
    rw [← h2]
    exact ((hc.take off).append hv).append (hc.drop _)

theorem fill_rel {place place' : Nat → Option (Nat × Nat)} (hp : ∀ i x, place i = some x → place' i = some x) : ∀ {parts parts' : List (Nat × Value)} {cells cells' c : List Value}, PRelL ρ parts parts' →
    VRelL ρ cells cells' → fillA place cells parts = some c → ∃ c', Instr.fill place' ⟨cells'⟩ parts' = some ⟨c'⟩ ∧ VRelL ρ c c' := by
  intro parts
  induction parts with
  | nil =>
    intro parts' cells cells' c h hc hf
    cases h
    simp only [fillA, Option.some.injEq] at hf
    subst hf
    exact ⟨cells', rfl, hc⟩
  | cons p parts ih =>
    intro parts' cells cells' c h hc hf
    cases h with
    | @cons i v v' _ l' hv ht =>
    simp only [fillA] at hf
    split at hf
    · cases hf
    · rename_i off size hpl
      split at hf
      · rename_i hk
        simp only [Bool.and_eq_true] at hk
        have hsz := Nat.eq_of_beq_eq_true hk.2
        split at hf
        · rename_i c1 hlay
          have hl := hv.lst' hk.1.1
          have hlen := hl.length
          simp only [Array.length_toList] at hlen
          obtain ⟨h1, h2⟩ := lay_rel0 hc hl hlay
          simp only [Array.length_toList] at h1 h2
          simp only [Instr.fill, hp _ _ hpl]
          have h1' : 1 ≤ size := Nat.le_of_ble_eq_true hk.1.2
          have h0 : off + v'.cells.size ≤ cells'.length := by
            rcases h1 with h1 | h1
            · rw [h1] at hsz; simp at hsz; omega
            · exact h1
          · have hcond : (decide (v'.cells.size ≠ size) || decide (off + v'.cells.size > (⟨cells'⟩ : Array Value).size)) = false := by
              simp; omega
            simp only [hcond, Bool.false_eq_true, if_false]
            have e : (v'.cells.zipIdx.foldl (fun (cs : Array Value) (x : Value × Nat) => cs.setIfInBounds (off + x.2) x.1) ⟨cells'⟩).toList = cells'.take off ++ v'.cells.toList ++ cells'.drop (off + v'.cells.size) := by
              rw [← Array.foldl_toList, Array.toList_zipIdx]
              have := foldl_zipIdx off v'.cells.toList 0 ⟨cells'⟩ (by simp; omega)
              simpa using this
            have e2 : (v'.cells.zipIdx.foldl (fun (cs : Array Value) (x : Value × Nat) => cs.setIfInBounds (off + x.2) x.1) ⟨cells'⟩) = ⟨cells'.take off ++ v'.cells.toList ++ cells'.drop (off + v'.cells.size)⟩ := by
              apply Array.ext'; exact e
            have e3 : (v'.cells.zipIdx.foldl (fun (cs : Array Value) (x : Value × Nat) => match x with | (c, j) => cs.setIfInBounds (off + j) c) ⟨cells'⟩) = ⟨cells'.take off ++ v'.cells.toList ++ cells'.drop (off + v'.cells.size)⟩ := e2
            rw [e3]
            exact ih ht h2 hf
        · cases hf
      · cases hf
theorem places_eq (hT : TabOk T) : ∀ (fs : List Field) (ps : List (Nat × Nat)), placesA T fs = some ps → fs.mapM (fun f => (T.P.info? f.type).map fun i => (f.offset, i.size)) = some ps
  | [], ps, h => by simp [placesA] at h; subst h; simp
  | f :: fs, ps, h => by
    simp only [placesA] at h
    split at h
    · rename_i n r hn hr
      simp only [Option.some.injEq] at h
      subst h
      have := places_eq hT fs r hr
      unfold Tab.size at hn
      cases hi : T.ty.get f.type with
      | none => rw [hi] at hn; cases hn
      | some i =>
        rw [hi] at hn
        simp only [Option.map_some, Option.some.injEq] at hn
        subst hn
        simp [List.mapM_cons, hT.ty _ _ hi, this]
    · cases h

theorem Tab.size_info {t : TypeId} {n : Nat} (h : T.size t = some n) : ∃ i, T.ty.get t = some i ∧ i.size = n := by
  unfold Tab.size at h
  cases hi : T.ty.get t with
  | none => rw [hi] at h; cases h
  | some i => rw [hi] at h; simp at h; exact ⟨i, rfl, h⟩
theorem Tab.zero_info {t : TypeId} {v : Value} (h : T.zero t = some v) : ∃ i, T.ty.get t = some i ∧ i.zero = some v := by
  unfold Tab.zero at h
  split at h
  · rename_i i hi
    split at h
    · rename_i v' hz
      split at h
      · simp only [Option.some.injEq] at h; subst h; exact ⟨i, hi, hz⟩
      · cases h
    · cases h
  · cases h
theorem plain_known {z : Value} (h : plain z = true) : known z = true := by
  cases z <;> first | rfl | (rename_i o; cases o <;> first | rfl | simp [plain] at h)

theorem build_rel (hT : TabOk T) {t : TypeId} {parts : List (Nat × Value)} {parts' : Array (Nat × Value)} (hp : PRelL ρ parts parts'.toList) : SR T.P VRel ρ (aBuild T t parts) (Instr.build t parts') := by
  unfold aBuild
  split
  · rename_i z fs hz hund
    split
    · rename_i ps hps
      split
      · rename_i c hc
        obtain ⟨i, hi, hiz⟩ := Tab.zero_info hz
        have hpl := Tab.zero_plain hz
        have hzr := (plain_rel (ρ := ρ) z hpl).lst' (plain_known hpl)
        obtain ⟨c', h1, h2⟩ := fill_rel (place' := (ps.toArray[·]?)) (fun j x hj => by rw [nth_eq] at hj; simpa using hj) hp hzr hc
        refine .of_run (b := .agg ⟨c'⟩) (fun w => run_build w t parts' ⟨c'⟩ ?_) (.agg h2)
        unfold Program.built
        simp only [hT.ty _ _ hi, hT.und hund, hiz, places_eq hT _ _ hps]
        exact h1
      · exact .fail
    · exact .fail
  · rename_i z n e hz hund
    split
    · rename_i m hm
      split
      · rename_i c hc
        obtain ⟨i, hi, hiz⟩ := Tab.zero_info hz
        obtain ⟨ie, hie, hsz⟩ := Tab.size_info hm
        have hpl := Tab.zero_plain hz
        have hzr := (plain_rel (ρ := ρ) z hpl).lst' (plain_known hpl)
        obtain ⟨c', h1, h2⟩ := fill_rel (place' := fun i => some (i * m, m)) (fun j x hj => hj) hp hzr hc
        refine .of_run (b := .agg ⟨c'⟩) (fun w => run_build w t parts' ⟨c'⟩ ?_) (.agg h2)
        unfold Program.built
        simp only [hT.ty _ _ hi, hT.und hund, hiz, hT.ty _ _ hie, hsz]
        exact h1
      · exact .fail
    · exact .fail
  · exact .fail

theorem rep_length {α : Type} (n : Nat) (l : List α) : (rep n l).length = n * l.length := by
  induction n with
  | zero => simp [rep]
  | succ n ih => simp [rep, ih, Nat.add_mul]; omega
theorem rep_get {α : Type} (l : List α) : ∀ (n i : Nat), i < n * l.length → (rep n l)[i]? = l[i % l.length]?
  | 0, i, h => by simp at h
  | n + 1, i, h => by
    simp only [rep]
    rw [List.getElem?_append]
    split
    · rename_i hlt; rw [Nat.mod_eq_of_lt hlt]
    · rename_i hlt
      have : i - l.length < n * l.length := by rw [Nat.add_mul] at h; omega
      rw [rep_get l n (i - l.length) this, ← Nat.mod_eq_sub_mod (by omega)]
/-- zeros in a row, as the model makes them -/
theorem zeros_eq (zero : Array Value) (n : Nat) (h : 1 ≤ zero.size) : ((Array.range (n * zero.size)).map (zero[· % zero.size]!)) = ⟨rep n zero.toList⟩ := by
  apply Array.ext'
  apply List.ext_getElem?
  intro i
  simp only [Array.toList_map, Array.toList_range]
  by_cases hi : i < n * zero.size
  · rw [rep_get _ _ _ (by simpa using hi)]
    simp only [List.getElem?_map, List.getElem?_range hi, Option.map_some, Array.length_toList]
    have hm : i % zero.size < zero.size := Nat.mod_lt _ (by omega)
    simp [hm]
  · rw [List.getElem?_eq_none (by simp; omega), List.getElem?_eq_none (by rw [rep_length]; simp; omega)]
theorem rep_rel {l : List Value} (h : VRelL ρ l l) : ∀ n, VRelL ρ (rep n l) (rep n l)
  | 0 => .nil
  | n + 1 => h.append (rep_rel h n)

theorem buildSlice_rel (hT : TabOk T) {t : TypeId} {len : Nat} {parts : List (Nat × Value)} {parts' : Array (Nat × Value)} (hp : PRelL ρ parts parts'.toList) :
    SR T.P VRel ρ (aBuildSlice T t len parts) (Instr.buildSlice t len parts') := by
  unfold aBuildSlice
  split
  · rename_i e hund
    split
    · rename_i n z hn hz
      split
      · rename_i hcond
        simp only [Bool.and_eq_true] at hcond
        have h1 := Nat.le_of_ble_eq_true hcond.1.1
        have h2 := Nat.eq_of_beq_eq_true hcond.1.2
        have h3 := Nat.le_of_ble_eq_true hcond.2
        split
        · rename_i c hc
          have hpl := Tab.zero_plain hz
          have hk := plain_known hpl
          have hzr := (plain_rel (ρ := ρ) z hpl).lst' hk
          have hlz : lst z = z.cells.toList := by cases z <;> rfl
          obtain ⟨c', h4, h5⟩ := fill_rel (place' := fun i => some (i * n, n)) (fun j x hj => hj) hp (rep_rel (by rw [hlz] at hzr ⊢; exact hzr) len) hc
          simp only [Instr.buildSlice, bind_eq, pure_eq]
          refine SR.und hT hund ?_
          simp only
          refine SR.size hT hn ?_
          rw [if_neg (by have : (16777216 : Nat) = 2 ^ 24 := by decide
                         omega)]
          have key : SR T.P VRel ρ (.new (.cells ⟨c⟩ e) fun r => .ret (.slice (some ⟨r, 0, none⟩) len len)) ((newRow e ⟨c'⟩).bind fun a => Sem.pure (.slice (some a) len len)) := by
            simp only [newRow, bind_eq, pure_eq, newObj, Sem.bind]
            have hcl := h5.length
            refine .new (av := c'.length) (sz := 1) (fun r => ?_) fun ρ' r r' hle hr => ?_
            · refine .cells (by show c.length ≤ c'.length; omega) (by simp) ?_ (fun _ o _ _ h => by omega) (fun _ => rfl) (.inl (Nat.le_refl _))
              simp only [List.drop_zero]
              rw [List.take_of_length_le (by omega)]
              exact h5
            · have := AddrRel.mk (o := 0) hr
              refine .ret (.slice this ?_)
              have : len ≤ len * n := Nat.le_mul_of_pos_right _ (by omega)
              unfold Go.Bel.loose; omega
          by_cases h0 : len * n = 0
          · simp only [h0, if_true, Sem.bind]
            have hc0 : (Array.range 0).map (fun x => (#[] : Array Value)[x % (#[] : Array Value).size]!) = ⟨rep len (lst z)⟩ := by
              have : len = 0 := by
                rcases Nat.mul_eq_zero.1 h0 with h | h
                · exact h
                · omega
              subst this
              simp [rep]
            rw [hc0, h4]
            exact key
          · simp only [h0, if_false]
            refine SR.zero hT hz ?_
            simp only [Sem.bind]
            have hc1 : ((Array.range (len * n)).map (z.cells[· % z.cells.size]!)) = ⟨rep len (lst z)⟩ := by
              rw [hlz]
              have : n = z.cells.size := by rw [← h2, hlz]; rfl
              rw [this]
              exact zeros_eq z.cells len (by omega)
            rw [hc1, h4]
            exact key
        · exact .fail
      · exact .fail
    · exact .fail
  · exact .fail

theorem index_rel (hT : TabOk T) {t : TypeId} {v v' i i' : Value} (hv : VRel ρ v v') (hi : VRel ρ i i') : SR T.P VRel ρ (aIndex T t v i) (Instr.index t v' i') := by
  unfold aIndex
  split
  · rename_i kd ix l n e hund
    split
    · rename_i k z hin hsz
      obtain ⟨rfl, hlt⟩ := inside_eq hin
      cases hi.int
      obtain ⟨l', rfl, hl⟩ := hv.toAgg
      simp only [Instr.index, bind_eq, pure_eq, asIntOf, Sem.bind]
      refine SR.und hT hund ?_
      simp only
      rw [if_pos ⟨by omega, by omega⟩]
      refine SR.size hT hsz ?_
      simp only [Int.toNat_natCast]
      exact part_rel hT hl
    · exact .fail
  · rename_i kd ix s hund
    split
    · rename_i k
      split
      · rename_i b hb
        cases hi.int
        cases hv.string
        rw [nth_eq] at hb
        simp only [Instr.index, bind_eq, pure_eq, asIntOf, Sem.bind]
        refine SR.und hT hund ?_
        have hlt : k < s.size := (List.getElem?_eq_some_iff.1 hb).1
        have hget : s[k]? = some b := by
          rw [getElem?_pos s k hlt]
          have := (List.getElem?_eq_some_iff.1 hb).2
          congr 1
        simp only
        rw [if_pos (by exact Int.natCast_nonneg k)]
        have e : (Int.ofNat k).toNat = k := rfl
        rw [e, hget]
        exact .ret (.atom rfl)
      · exact .fail
    · exact .fail
  · exact .fail
end

section
variable {T : Tab} {ρ : Rho}

theorem intEq_eq (a b : Int) : intEq a b = (a == b) := by
  cases a with
  | ofNat a => cases b with
    | ofNat b =>
      show Nat.beq a b = (Int.ofNat a == Int.ofNat b)
      by_cases h : a = b
      · subst h; simp
      · have : Nat.beq a b = false := by
          cases hq : Nat.beq a b
          · rfl
          · exact absurd (Nat.eq_of_beq_eq_true hq) h
        rw [this]; symm; simp; omega
    | negSucc b => rfl
  | negSucc a => cases b with
    | ofNat b => rfl
    | negSucc b =>
      show Nat.beq a b = (Int.negSucc a == Int.negSucc b)
      by_cases h : a = b
      · subst h; simp
      · have : Nat.beq a b = false := by
          cases hq : Nat.beq a b
          · rfl
          · exact absurd (Nat.eq_of_beq_eq_true hq) h
        rw [this]; symm; simp; omega

theorem byteEq_eq : ∀ (a b : List UInt8), byteEq a b = (a == b)
  | [], [] => rfl
  | [], _ :: _ => rfl
  | _ :: _, [] => rfl
  | a :: x, b :: y => by
    simp only [byteEq]
    by_cases h : a = b
    · subst h; simp [byteEq_eq x y]
    · have : Nat.beq a.toNat b.toNat = false := by
        cases hq : Nat.beq a.toNat b.toNat
        · rfl
        · exact absurd (UInt8.toNat_inj.1 (Nat.eq_of_beq_eq_true hq)) h
      rw [this]
      symm; simp [h]

theorem bytesLt_eq : ∀ (a b : List UInt8), bytesLt a b = Op.bytesLess a b
  | [], [] => rfl
  | [], _ :: _ => rfl
  | _ :: _, [] => rfl
  | a :: x, b :: y => by
    simp only [bytesLt, Op.bytesLess]
    by_cases h1 : a.toNat < b.toNat
    · have h2 : Nat.blt a.toNat b.toNat = true := by show Nat.ble _ _ = true; exact Nat.ble_eq_true_of_le h1
      have h3 : a < b := UInt8.lt_iff_toNat_lt.2 h1
      simp [h2, h3]
    · have h2 : Nat.blt a.toNat b.toNat = false := by
        cases hq : Nat.blt a.toNat b.toNat
        · rfl
        · exact absurd (Nat.le_of_ble_eq_true hq) h1
      have h3 : ¬ a < b := fun hh => h1 (UInt8.lt_iff_toNat_lt.1 hh)
      simp only [h2]
      by_cases h4 : a = b
      · subst h4; simp [bytesLt_eq x y]
      · have : Nat.beq a.toNat b.toNat = false := by
          cases hq : Nat.beq a.toNat b.toNat
          · rfl
          · exact absurd (UInt8.toNat_inj.1 (Nat.eq_of_beq_eq_true hq)) h4
        simp [this, h3, h4]

theorem toList_bytes (s : ByteArray) : s.toList = s.data.toList := ByteArray.toList_eq s

theorem ofSem_rel {P : Program} {α : Type} {R : Rho → α → α → Prop} {s : Sem α} (h : ∀ a, s = .pure a → R ρ a a) : SR P R ρ (ofSem s) s := by
  unfold ofSem
  split
  · exact .ret (h _ rfl)
  · exact .fail

theorem eqGuard_other {P : Program} {op : BinOp} {t : TypeId} {x y : Operand} {a b : Value} (h1 : a ≠ .nilIface ∨ b ≠ .nilIface) (h2 : ∀ u v, ¬ (a = .agg u ∧ b = .agg v)) (w : World) :
    (eqGuard op t x y a b).run P w = .ok () w := by
  unfold eqGuard
  cases op
  all_goals simp only [Bool.not_true, Bool.not_false, Bool.false_eq_true, if_true, if_false, bind_eq, pure_eq]
  all_goals first
    | rfl
    | (split
       · rcases h1 with h | h <;> exact absurd rfl h
       · exact absurd ⟨rfl, rfl⟩ (h2 _ _)
       · rfl)

/-- parts of a list of cells -/
theorem partO_rel (hT : TabOk T) {t : TypeId} {cs cs' : List Value} {off : Nat} {v : Value} (hc : VRelL ρ cs cs') (h : partO T t cs off = some v) :
    ∃ v', VRel ρ v v' ∧ ∀ w, (part t ⟨cs'⟩ off).run T.P w = .ok v' w := by
  unfold partO at h
  split at h
  · rename_i n hagg hsize
    split at h
    · rename_i l hcut
      simp only [Option.some.injEq] at h
      subst h
      obtain ⟨h1, h2⟩ := cut_rel hc hcut
      refine ⟨.agg ⟨(cs'.drop off).take n⟩, .agg h1, fun w => ?_⟩
      simp only [part, bind_eq, pure_eq]
      rw [run_bind_of (hT.run_agg hagg)]
      simp only [if_true]
      rw [run_bind_of (hT.run_size hsize)]
      simp [List.extract_eq_take_drop, Sem.run]
    · cases h
  · rename_i hagg
    split at h
    · rename_i x hcut
      simp only [Option.some.injEq] at h
      subst h
      obtain ⟨h1, h2⟩ := cut_eq hcut
      have hv : cs[off]? = some x := by
        have : (List.take 1 (List.drop off cs))[0]? = some x := by rw [← h1]; rfl
        simpa using this
      obtain ⟨v', h3, h4⟩ := hc.nth hv
      refine ⟨v', h4, fun w => ?_⟩
      simp only [part, bind_eq, pure_eq]
      rw [run_bind_of (hT.run_agg hagg)]
      have : (⟨cs'⟩ : Array Value)[off]? = some v' := by simpa using h3
      simp only [Bool.false_eq_true, if_false, this]
      rfl
    · cases h
  · cases h

theorem eqV_rel (hT : TabOk T) : ∀ (d : Nat) {t : TypeId} {x y x' y' : Value} {b : Bool}, VRel ρ x x' → VRel ρ y y' → eqV T d t x y = some b →
    ∀ D, d ≤ D → ∀ w, (Op.equalIn D t x' y').run T.P w = .ok b w := by
  intro d
  induction d with
  | zero => intro t x y x' y' b _ _ h; simp [eqV] at h
  | succ d ih =>
    intro t x y x' y' b hx hy h D hD w
    obtain ⟨D, rfl⟩ : ∃ n, D = n + 1 := ⟨D - 1, by omega⟩
    have hund : ∀ dd, T.und t = some dd → ∀ {β : Type} (f : TypeDesc → Sem β), ((underlying t).bind f).run T.P w = (f dd).run T.P w := fun dd h β f => run_bind_of (hT.run_und h) w
    have slv : ∀ {a : Addr} {n c : Nat} {v : Value}, VRel ρ (.slice (some a) n c) v → ∃ a' c2, v = .slice (some a') n c2 := by
      intro a n c v hv
      cases hv with
      | atom h => cases h
      | slice _ _ => exact ⟨_, _, rfl⟩
      | loose _ _ _ _ _ _ _ => exact ⟨_, _, rfl⟩
    unfold eqV at h
    split at h
    · rename_i fs hu
      split at h
      · rename_i xs ys
        split at h
        · rename_i heqs
          obtain ⟨l', rfl, hl⟩ := hx.toAgg
          obtain ⟨m', rfl, hm⟩ := hy.toAgg
          obtain ⟨h1, h2, h3⟩ := hT.eqs t heqs
          have hf : T.P.fieldsOf t = fs := by simp [Program.fieldsOf, hT.und hu]
          rw [run_equalIn_struct w D t ⟨l'⟩ ⟨m'⟩ (by rw [hf]; exact hT.und hu) h1]
          rw [hf] at h3 ⊢
          have key : ∀ (gs : List Field) (w : World), (∀ f ∈ gs, f.name ≠ "_") → eqL (eqV T d) (partO T) gs xs ys = some b → (Op.eqFields D ⟨l'⟩ ⟨m'⟩ gs).run T.P w = .ok b w := by
            intro gs
            induction gs with
            | nil =>
              intro w _ he
              simp only [eqL, Option.some.injEq] at he
              subst he
              rfl
            | cons g gs ihg =>
              intro w hn he
              simp only [eqL] at he
              split at he
              · rename_i x y hpx hpy
                obtain ⟨x', hx', hrx⟩ := partO_rel hT hl hpx
                obtain ⟨y', hy', hry⟩ := partO_rel hT hm hpy
                simp only [Op.eqFields, ne_eq, hn g (by simp), not_false_eq_true, if_true, bind_eq]
                rw [run_bind_of hrx, run_bind_of hry]
                split at he
                · rename_i hev
                  rw [run_bind_of (ih hx' hy' hev D (by omega))]
                  simp only [Bool.not_true, Bool.false_eq_true, if_false]
                  exact ihg w (fun f hf => hn f (by simp [hf])) he
                · rename_i hev
                  rw [run_bind_of (ih hx' hy' hev D (by omega))]
                  simp only [Option.some.injEq] at he
                  subst he
                  rfl
                · cases he
              · cases he
          exact key fs.toList w h3 h
        · cases h
      · cases h
    · rename_i k hns hu
      simp only [Op.equalIn, bind_eq, pure_eq]
      rw [hund _ hu]
      unfold eqAtom at h
      split at h
      · split at h
        · rename_i a b'
          cases hx.bool; cases hy.bool
          simp only [Option.some.injEq] at h
          subst h
          cases a <;> cases b' <;> rfl
        · cases h
      · cases x with
        | int j a => cases y with
          | int k b' =>
            cases hx.int; cases hy.int
            by_cases hjk : j = k
            · subst hjk
              have h : (match decide (j = j) with | true => some (intEq a b') | false => none) = some b := h
              simp only [decide_true, Option.some.injEq] at h
              subst h
              simp only [if_true, Sem.run, intEq_eq]
            · have h : (match decide (j = k) with | true => some (intEq a b') | false => none) = some b := h
              simp only [hjk, decide_false] at h
              cases h
          | _ => cases h
        | _ => cases h
      · split at h
        · rename_i a b'
          cases hx.string; cases hy.string
          simp only [Option.some.injEq] at h
          subst h
          simp only [Sem.run, byteEq_eq, beq_toListBytes, toList_bytes]
        · cases h
      · split at h
        · rename_i b'
          cases hx.pnil
          simp only [Option.some.injEq] at h
          subst h
          cases b' with
          | none => cases hy.pnil; rfl
          | some a => obtain ⟨a', rfl, _⟩ := hy.toPtr; rfl
        · rename_i a
          cases hy.pnil
          obtain ⟨a', rfl, _⟩ := hx.toPtr
          simp only [Option.some.injEq] at h
          subst h
          rfl
        · cases h
      · split at h
        · rename_i tt v
          cases hx.inil
          obtain ⟨v', rfl, _⟩ := hy.toIface
          simp only [Option.some.injEq] at h
          subst h
          rfl
        · rename_i tt v
          cases hy.inil
          obtain ⟨v', rfl, _⟩ := hx.toIface
          simp only [Option.some.injEq] at h
          subst h
          rfl
        · cases h
      · split at h
        · rename_i n c b' n' c'
          cases hx.snil
          simp only [Option.some.injEq] at h
          subst h
          cases b' with
          | none => cases hy.snil; rfl
          | some a => obtain ⟨a', c2, rfl⟩ := slv hy; rfl
        · rename_i a n c n' c'
          cases hy.snil
          obtain ⟨a', c2, rfl⟩ := slv hx
          simp only [Option.some.injEq] at h
          subst h
          rfl
        · cases h
      · split at h
        · rename_i b'
          cases hx.mnil
          simp only [Option.some.injEq] at h
          subst h
          cases b' with
          | none => cases hy.mnil; rfl
          | some a => obtain ⟨b2, rfl, _⟩ := hy.toMap; rfl
        · rename_i a
          cases hy.mnil
          obtain ⟨b2, rfl, _⟩ := hx.toMap
          simp only [Option.some.injEq] at h
          subst h
          rfl
        · cases h
      · split at h
        · cases hx.fnil; cases hy.fnil
          simp only [Option.some.injEq] at h
          subst h
          rfl
        · rename_i fn a c
          cases hx.fnil
          simp only [Option.some.injEq] at h
          subst h
          obtain ⟨a⟩ := a
          obtain ⟨c⟩ := c
          obtain ⟨fn', a', c', rfl, _⟩ := hy.toFunc
          rfl
        · rename_i fn a c
          cases hy.fnil
          simp only [Option.some.injEq] at h
          subst h
          obtain ⟨a⟩ := a
          obtain ⟨c⟩ := c
          obtain ⟨fn', a', c', rfl, _⟩ := hx.toFunc
          rfl
        · cases h
      · cases h
    · cases h
end

section
variable {T : Tab} {ρ : Rho}

theorem ofSem_atom {P : Program} {s : Sem Value} (h : ∀ a, s = .pure a → atom a = true) : SR P VRel ρ (ofSem s) s := ofSem_rel fun a ha => .atom (h a ha)

theorem shift_atom {op : BinOp} {k yk : IntKind} {a b : Int} : ∀ v, Op.shift op k a yk b = .pure v → atom v = true := by
  intro v h
  unfold Op.shift at h
  split at h
  · simp [runtimePanic, bind_eq, Sem.bind, program] at h
  · cases op <;> first | (cases h; rfl) | (cases h)
theorem arith_atom {op : BinOp} {k : IntKind} {a b : Int} : ∀ v, Op.intArith op k a b = .pure v → atom v = true := by
  intro v h
  cases op <;> first | (cases h; rfl) | (cases h)
theorem bits_atom {op : BinOp} {k : IntKind} {a b : Int} : ∀ v, Op.intBits op k a b = .pure v → atom v = true := by
  intro v h
  cases op <;> first | (cases h; rfl) | (cases h)
theorem cmp_atom {op : BinOp} {a b : Int} : ∀ v, Op.intCmp op a b = .pure v → atom v = true := by
  intro v h
  cases op <;> first | (cases h; rfl) | (cases h)
theorem div_atom {op : BinOp} {k : IntKind} {a b : Int} : ∀ v, Op.intDiv op k a b = .pure v → atom v = true := by
  intro v h
  unfold Op.intDiv at h
  split at h
  · simp [runtimePanic, bind_eq, Sem.bind, program] at h
  · cases op <;> first | (cases h; rfl) | (cases h)

theorem SR.decide_kind {P : Program} {k yk : IntKind} {s : AS Value} {s' : Sem Value} (h : k = yk → SR P VRel ρ s s') : SR P VRel ρ (match decide (k = yk) with | true => s | false => .fail) s' := by
  by_cases hk : k = yk
  · simp only [hk, decide_true]; exact h hk
  · simp only [hk, decide_false]; exact .fail

theorem eqGuard_iface {P : Program} {op : BinOp} {t : TypeId} {x y : Operand} (h : isConstOp x = true ∨ isConstOp y = true) (w : World) : (eqGuard op t x y .nilIface .nilIface).run P w = .ok () w := by
  unfold eqGuard
  rcases h with h | h
  · obtain ⟨v, rfl⟩ : ∃ v, x = .const v := by cases x <;> first | exact ⟨_, rfl⟩ | cases h
    cases op <;> rfl
  · obtain ⟨v, rfl⟩ : ∃ v, y = .const v := by cases y <;> first | exact ⟨_, rfl⟩ | cases h
    cases op <;> cases x <;> rfl

theorem run_equal_nil (hT : TabOk T) {t : TypeId} {ms : Array (String × TypeId)} (hu : T.und t = some (.interface ms)) (D : Nat) (w : World) : (Op.equalIn (D + 1) t .nilIface .nilIface).run T.P w = .ok true w := by
  simp only [Op.equalIn, bind_eq, pure_eq]
  rw [run_bind_of (hT.run_und hu)]
  rfl
theorem run_equal_ptr (hT : TabOk T) {t e : TypeId} {n : Nat} (hu : T.und t = some (.pointer e)) (hsz : T.size e = some (n + 1)) (D : Nat) (b o q : Nat) (w : World) :
    (Op.equalIn (D + 1) t (.pointer (some ⟨b, o, none⟩)) (.pointer (some ⟨b, q, none⟩))).run T.P w = .ok (Nat.beq o q) w := by
  simp only [Op.equalIn, bind_eq, pure_eq]
  rw [run_bind_of (hT.run_und hu)]
  simp only
  rw [run_bind_of (hT.run_size hsz)]
  simp only [ne_eq, Nat.add_one_ne_zero, not_false_eq_true, if_true, sameAddr, beq_self_eq_true, pure_eq, Sem.run]
  congr 1
  by_cases hoq : o = q
  · subst hoq; simp
  · have : Nat.beq o q = false := by
      cases hq : Nat.beq o q
      · rfl
      · exact absurd (Nat.eq_of_beq_eq_true hq) hoq
    rw [this]
    simp only [beq_eq_false_iff_ne, ne_eq, Addr.mk.injEq, true_and, and_true]
    omega
theorem beq_add (c o q : Nat) : Nat.beq (c + o) (c + q) = Nat.beq o q := by
  by_cases h : o = q
  · subst h; simp
  · have h1 : Nat.beq o q = false := by
      cases hq : Nat.beq o q
      · rfl
      · exact absurd (Nat.eq_of_beq_eq_true hq) h
    have h2 : Nat.beq (c + o) (c + q) = false := by
      cases hq : Nat.beq (c + o) (c + q)
      · rfl
      · have := Nat.eq_of_beq_eq_true hq; omega
    rw [h1, h2]
theorem eqAtom_unkL (d : TypeDesc) (r : Nat) (y : Value) : eqAtom d (.chan (some r)) y = none := by cases d <;> rfl
theorem eqAtom_unkR (d : TypeDesc) (r : Nat) (x : Value) : eqAtom d x (.chan (some r)) = none := by
  cases d <;> first | rfl | (cases x <;> first | rfl | (rename_i a; cases a <;> rfl) | (rename_i a _ _; cases a <;> rfl))
theorem eqAtom_agg (d : TypeDesc) (x y : Array Value) : eqAtom d (.agg x) (.agg y) = none := by cases d <;> rfl

theorem eqI_rel (hT : TabOk T) {t : TypeId} {x y x' y' : Value} {b : Bool} (hx : VRel ρ x x') (hy : VRel ρ y y') (h : eqI T t x y = some b) : ∀ w, (Op.equal t x' y').run T.P w = .ok b w := by
  unfold eqI at h
  split at h
  · rename_i b' hev
    simp only [Option.some.injEq] at h
    subst h
    exact fun w => eqV_rel hT 20 hx hy hev 10000 (by omega) w
  · split at h
    · rename_i ms hu
      split at h
      · cases hx.inil; cases hy.inil
        simp only [Option.some.injEq] at h
        subst h
        intro w
        exact run_equal_nil hT hu 9999 w
      · cases h
    · rename_i e hu
      split at h
      · rename_i a o b2 q hno
        split at h
        · rename_i n hab hsz
          have hab := Nat.eq_of_beq_eq_true hab
          subst hab
          obtain ⟨a', rfl, ha⟩ := hx.toPtr
          obtain ⟨b', rfl, hb⟩ := hy.toPtr
          cases ha with
          | @mk _ _ bi h1 =>
          cases hb with
          | @mk _ _ bi' h2 =>
          rw [h1] at h2; cases h2
          simp only [Option.some.injEq] at h
          intro w
          rw [← h]
          have := run_equal_ptr hT hu hsz 9999 bi.blk (bi.base + o) (bi.base + q) w
          rw [beq_add] at this
          exact this
        · cases h
      · cases h
    · cases h

theorem agg_not {ρ : Rho} {v v' : Value} (h : VRel ρ v v') (hk : known v = true) (hn : ∀ l, v ≠ .agg l) : ∀ u, v' ≠ .agg u := by
  intro u hu
  subst hu
  cases h with
  | unk => exact absurd hk (by decide)
  | atom h => cases h
  | agg h => exact hn _ rfl

/-- the guard ahead of an equality that we decide -/
theorem guard_ok (hT : TabOk T) {op : BinOp} {t : TypeId} {ox oy : Operand} {x y x' y' : Value} {b : Bool} (hx : VRel ρ x x') (hy : VRel ρ y y') (h : eqI T t x y = some b)
    (hc : x = .nilIface → y = .nilIface → isConstOp ox = true ∨ isConstOp oy = true) : ∀ w, (eqGuard op t ox oy x' y').run T.P w = .ok () w := by
  intro w
  have kx : known x = true := by
    cases x <;> first | rfl | skip
    rename_i r
    cases r with
    | none => rfl
    | some r =>
      exfalso
      unfold eqI eqV at h
      cases hu : T.und t with
      | none => rw [hu] at h; cases h
      | some d =>
        rw [hu] at h
        cases d <;> simp only [eqAtom_unkL] at h <;> cases h
  have ky : known y = true := by
    cases y <;> first | rfl | skip
    rename_i r
    cases r with
    | none => rfl
    | some r =>
      exfalso
      unfold eqI eqV at h
      cases hu : T.und t with
      | none => rw [hu] at h; cases h
      | some d =>
        rw [hu] at h
        cases d <;> simp only [eqAtom_unkR] at h <;> cases x <;> first | (cases h; done) | (rename_i a; cases a <;> cases h)
  by_cases hagg : ∃ l m, x = .agg l ∧ y = .agg m
  · obtain ⟨l, m, rfl, rfl⟩ := hagg
    obtain ⟨l⟩ := l
    obtain ⟨m⟩ := m
    obtain ⟨l', rfl, _⟩ := hx.toAgg
    obtain ⟨m', rfl, _⟩ := hy.toAgg
    have heq : T.eqs t = true := by
      unfold eqI eqV at h
      cases hu : T.und t with
      | none => rw [hu] at h; cases h
      | some d =>
        rw [hu] at h
        cases d
        case struct fs =>
          cases he : T.eqs t with
          | true => rfl
          | false => simp only [he] at h; cases h
        all_goals (simp only [eqAtom_agg] at h; cases h)
    exact run_eqGuard_agg w op t ox oy ⟨l'⟩ ⟨m'⟩ (hT.eqs t heq).2.1
  · by_cases hnil : x' = .nilIface ∧ y' = .nilIface
    · obtain ⟨rfl, rfl⟩ := hnil
      have h1 : x = .nilIface := by
        cases hx with
        | unk => exact absurd kx (by decide)
        | atom h => rfl
      have h2 : y = .nilIface := by
        cases hy with
        | unk => exact absurd ky (by decide)
        | atom h => rfl
      exact eqGuard_iface (hc h1 h2) w
    · refine eqGuard_other ?_ ?_ w
      · by_cases h1 : x' = .nilIface
        · right; intro h2; exact hnil ⟨h1, h2⟩
        · exact .inl h1
      · rintro u v ⟨h1, h2⟩
        by_cases ha : ∃ l, x = .agg l
        · obtain ⟨l, ha⟩ := ha
          exact agg_not hy ky (fun m hm => hagg ⟨l, m, ha, hm⟩) v h2
        · exact agg_not hx kx (fun m hm => ha ⟨m, hm⟩) u h1
end

section
variable {T : Tab} {ρ : Rho}

theorem binInt_rel {P : Program} {op : BinOp} {t : TypeId} {k yk : IntKind} {a b : Int} : SR P VRel ρ (aBinInt op k a yk b) (binOp op t (.int k a) (.int yk b)) := by
  cases op
  case add => exact SR.decide_kind fun h => by subst h; have := ofSem_atom (P := P) (ρ := ρ) (arith_atom (op := .add) (k := k) (a := a) (b := b)); simpa [binOp] using this
  case sub => exact SR.decide_kind fun h => by subst h; have := ofSem_atom (P := P) (ρ := ρ) (arith_atom (op := .sub) (k := k) (a := a) (b := b)); simpa [binOp] using this
  case mul => exact SR.decide_kind fun h => by subst h; have := ofSem_atom (P := P) (ρ := ρ) (arith_atom (op := .mul) (k := k) (a := a) (b := b)); simpa [binOp] using this
  case quo => exact SR.decide_kind fun h => by subst h; have := ofSem_atom (P := P) (ρ := ρ) (div_atom (op := .quo) (k := k) (a := a) (b := b)); simpa [binOp] using this
  case rem => exact SR.decide_kind fun h => by subst h; have := ofSem_atom (P := P) (ρ := ρ) (div_atom (op := .rem) (k := k) (a := a) (b := b)); simpa [binOp] using this
  case and => exact SR.decide_kind fun h => by subst h; have := ofSem_atom (P := P) (ρ := ρ) (bits_atom (op := .and) (k := k) (a := a) (b := b)); simpa [binOp] using this
  case or => exact SR.decide_kind fun h => by subst h; have := ofSem_atom (P := P) (ρ := ρ) (bits_atom (op := .or) (k := k) (a := a) (b := b)); simpa [binOp] using this
  case xor => exact SR.decide_kind fun h => by subst h; have := ofSem_atom (P := P) (ρ := ρ) (bits_atom (op := .xor) (k := k) (a := a) (b := b)); simpa [binOp] using this
  case andNot => exact SR.decide_kind fun h => by subst h; have := ofSem_atom (P := P) (ρ := ρ) (bits_atom (op := .andNot) (k := k) (a := a) (b := b)); simpa [binOp] using this
  case shl => have := ofSem_atom (P := P) (ρ := ρ) (shift_atom (op := .shl) (k := k) (yk := yk) (a := a) (b := b)); simpa [binOp, aBinInt] using this
  case shr => have := ofSem_atom (P := P) (ρ := ρ) (shift_atom (op := .shr) (k := k) (yk := yk) (a := a) (b := b)); simpa [binOp, aBinInt] using this
  case eql =>
    refine SR.decide_kind fun h => ?_
    subst h
    refine .of_run (b := .bool (intEq a b)) (fun w => ?_) (.atom rfl)
    simp [binOp, Op.intCmp, intEq_eq, pure_eq]
  case neq =>
    refine SR.decide_kind fun h => ?_
    subst h
    refine .of_run (b := .bool (!(intEq a b))) (fun w => ?_) (.atom rfl)
    simp [binOp, Op.intCmp, intEq_eq, pure_eq, bne]
  case lss => exact SR.decide_kind fun h => by subst h; have := ofSem_atom (P := P) (ρ := ρ) (cmp_atom (op := .lss) (a := a) (b := b)); simpa [binOp] using this
  case leq => exact SR.decide_kind fun h => by subst h; have := ofSem_atom (P := P) (ρ := ρ) (cmp_atom (op := .leq) (a := a) (b := b)); simpa [binOp] using this
  case gtr => exact SR.decide_kind fun h => by subst h; have := ofSem_atom (P := P) (ρ := ρ) (cmp_atom (op := .gtr) (a := a) (b := b)); simpa [binOp] using this
  case geq => exact SR.decide_kind fun h => by subst h; have := ofSem_atom (P := P) (ρ := ρ) (cmp_atom (op := .geq) (a := a) (b := b)); simpa [binOp] using this

theorem bytes_append (a b : ByteArray) : (a ++ b) = ⟨⟨a.data.toList ++ b.data.toList⟩⟩ := by
  have h : (a ++ b).data = a.data ++ b.data := by simp
  cases hab : a ++ b with
  | mk d =>
    rw [hab] at h
    simp only at h
    subst h
    congr 1
    apply Array.ext'
    simp
theorem binStr_rel {P : Program} {op : BinOp} {t : TypeId} {a b : ByteArray} : SR P VRel ρ (aBinStr op a.data.toList b.data.toList) (binOp op t (.string a) (.string b)) := by
  have hs : ∀ op, binOp op t (.string a) (.string b) = Op.stringOp op a b := by intro op; cases op <;> rfl
  rw [hs]
  cases op
  case add =>
    simp only [aBinStr]
    split
    · rename_i hlt
      have hlt : a.data.toList.length + b.data.toList.length < 9223372036854775808 := Nat.le_of_ble_eq_true hlt
      refine .of_run (b := .string (a ++ b)) (fun w => ?_) ?_
      · unfold Op.stringOp
        simp only
        rw [if_neg]
        · rfl
        · have h1 : a.size = a.data.toList.length := rfl
          have h2 : b.size = b.data.toList.length := rfl
          have h3 : IntKind.i64.max = 9223372036854775807 := by decide
          rw [h3]
          omega
      · rw [bytes_append]
        exact .atom rfl
    · exact .fail
  all_goals first
    | exact .fail
    | (refine .of_run (fun w => rfl) ?_
       simp only [toList_bytes, byteEq_eq, bytesLt_eq]
       exact .atom rfl)

theorem eqAtom_float (d : TypeDesc) (k : FloatKind) (n : Nat) (y : Value) : eqAtom d (.float k n) y = none := by cases d <;> rfl
theorem eqAtom_complex (d : TypeDesc) (k : FloatKind) (n m : Nat) (y : Value) : eqAtom d (.complex k n m) y = none := by cases d <;> rfl
theorem eqV_none {d : Nat} {t : TypeId} {x y : Value} (h : ∀ k, eqAtom k x y = none) (hx : ∀ l, x ≠ .agg l) : eqV T (d + 1) t x y = none := by
  show (match T.und t with
    | some (.struct fs) => (match x, y with
      | .agg ⟨xs⟩, .agg ⟨ys⟩ => match T.eqs t with
        | true => eqL (eqV T d) (partO T) fs.toList xs ys
        | false => none
      | _, _ => none)
    | some k => eqAtom k x y
    | none => none) = none
  split
  · split
    · exact absurd rfl (hx _)
    · rfl
  · exact h _
  · rfl
theorem eqI_none {t : TypeId} {x y : Value} (h : ∀ d, eqAtom d x y = none) (hx : (∃ k n, x = .float k n) ∨ (∃ k n m, x = .complex k n m) ∨ (∃ r, x = .chan r)) : eqI T t x y = none := by
  unfold eqI
  rw [eqV_none h (by rcases hx with ⟨k, n, rfl⟩ | ⟨k, n, m, rfl⟩ | ⟨r, rfl⟩ <;> simp)]
  simp only
  cases T.und t with
  | none => rfl
  | some d => rcases hx with ⟨k, n, rfl⟩ | ⟨k, n, m, rfl⟩ | ⟨r, rfl⟩ <;> cases d <;> rfl
theorem binEq_run {t : TypeId} {x y : Value} (op : BinOp) (hop : op = .eql ∨ op = .neq) (hx : (∀ k n, x ≠ .int k n) ∧ (∀ s, x ≠ .string s) ∧ (∀ k n, x ≠ .float k n) ∧ (∀ k n m, x ≠ .complex k n m)) :
    binOp op t x y = (Op.equal t x y).bind fun b => .pure (.bool (if op = .eql then b else !b)) := by
  obtain ⟨h1, h2, h3, h4⟩ := hx
  rcases hop with rfl | rfl
  · cases x <;> first
      | exact absurd rfl (h1 _ _)
      | exact absurd rfl (h2 _)
      | exact absurd rfl (h3 _ _)
      | exact absurd rfl (h4 _ _ _)
      | (cases y <;> rfl)
  · cases x <;> first
      | exact absurd rfl (h1 _ _)
      | exact absurd rfl (h2 _)
      | exact absurd rfl (h3 _ _)
      | exact absurd rfl (h4 _ _ _)
      | (cases y <;> rfl)

theorem binEq_rel (hT : TabOk T) {op : BinOp} {t : TypeId} {ox oy : Operand} {x y x' y' : Value} (hx : VRel ρ x x') (hy : VRel ρ y y')
    (hi : ∀ k n, x ≠ .int k n) (hs : ∀ s, x ≠ .string s) (ht : ∀ n, x ≠ .chan (some (n + 1))) (hc : x = .nilIface → y = .nilIface → isConstOp ox = true ∨ isConstOp oy = true) :
    SR T.P VRel ρ (aBinEq T op t x y) ((eqGuard op t ox oy x' y').bind fun _ => binOp op t x' y') := by
  have key : ∀ b, eqI T t x y = some b → (∀ k n, x' ≠ .int k n) ∧ (∀ s, x' ≠ .string s) ∧ (∀ k n, x' ≠ .float k n) ∧ (∀ k n m, x' ≠ .complex k n m) := by
    intro b hb
    have hu : x ≠ unk := by rintro rfl; rw [show eqI T t unk y = none from eqI_none (x := unk) (fun d => eqAtom_unkL d 0 y) (.inr (.inr ⟨_, rfl⟩))] at hb; cases hb
    refine ⟨?_, ?_, ?_, ?_⟩
    · rintro k n rfl
      cases hx with
      | unk => exact hu rfl
      | atom _ => exact hi _ _ rfl
      | shortI _ => exact ht 2 rfl
      | longI _ => exact ht 3 rfl
      | anyI => exact ht 4 rfl
      | @geI c n _ => exact ht (c + 5) rfl
    · rintro s rfl
      cases hx with
      | unk => exact hu rfl
      | atom _ => exact hs _ rfl
    · rintro k n rfl
      cases hx with
      | unk => exact hu rfl
      | atom _ => rw [eqI_none (fun d => eqAtom_float d k n y) (.inl ⟨_, _, rfl⟩)] at hb; cases hb
    · rintro k n m rfl
      cases hx with
      | unk => exact hu rfl
      | atom _ => rw [eqI_none (fun d => eqAtom_complex d k n m y) (.inr (.inl ⟨_, _, _, rfl⟩))] at hb; cases hb
  unfold aBinEq
  split
  · split
    · rename_i b hb
      refine SR.step (guard_ok hT hx hy hb hc) ?_
      refine .of_run (b := .bool b) (fun w => ?_) (.atom rfl)
      rw [binEq_run .eql (.inl rfl) (key b hb), run_bind_ok (eqI_rel hT hx hy hb w)]
      rfl
    · exact .fail
  · split
    · rename_i b hb
      refine SR.step (guard_ok hT hx hy hb hc) ?_
      refine .of_run (b := .bool (!b)) (fun w => ?_) (.atom rfl)
      rw [binEq_run .neq (.inr rfl) (key b hb), run_bind_ok (eqI_rel hT hx hy hb w)]
      rfl
    · exact .fail
  · exact .fail

theorem bin_rel (hT : TabOk T) {op : BinOp} {t : TypeId} {ox oy : Operand} {x y x' y' : Value} (hx : VRel ρ x x') (hy : VRel ρ y y')
    (hc : x = .nilIface → y = .nilIface → isConstOp ox = true ∨ isConstOp oy = true) :
    SR T.P VRel ρ (aBin T op t x y) ((eqGuard op t ox oy x' y').bind fun _ => binOp op t x' y') := by
  unfold aBin
  cases x
  case int k a =>
    cases y
    case int yk b =>
      cases hx.int; cases hy.int
      refine SR.step (fun w => eqGuard_other (.inl (by simp)) (by simp) w) ?_
      exact binInt_rel
    case chan r =>
      cases r with
      | none => exact .fail
      | some n =>
        dsimp only
        split
        · rename_i hn
          have hn := Nat.le_of_ble_eq_true hn
          obtain ⟨c, rfl⟩ : ∃ c, n = c + 6 := ⟨n - 6, by omega⟩
          have hc : c + 6 - 6 = c := by omega
          rw [hc]
          unfold aGe
          split
          · rename_i m
            split
            · rename_i hm
              have hm := Nat.le_of_ble_eq_true hm
              cases hx.int
              cases hy with
              | atom h => cases h
              | @geI _ n hcn =>
              refine SR.step (fun w => eqGuard_other (.inl (by simp)) (by simp) w) ?_
              have : binOp .gtr t (.int .i64 (Int.ofNat m)) (.int .i64 (n : Int)) = .pure (.bool false) := by
                have h1 : ¬ (Int.ofNat m > (n : Int)) := by show ¬ ((n : Int) < (m : Int)); omega
                simp only [binOp, Op.intCmp, ne_eq, not_true_eq_false, if_false, pure_eq]
                simp only [h1, decide_false]
              rw [this]
              exact .ret (.atom rfl)
            · exact .fail
          · exact .fail
        · exact .fail
    all_goals exact .fail
  case string a =>
    cases y
    case string b =>
      cases hx.string; cases hy.string
      refine SR.step (fun w => eqGuard_other (.inl (by simp)) (by simp) w) ?_
      exact binStr_rel
    all_goals exact .fail
  case chan r =>
    cases r with
    | none => exact binEq_rel hT hx hy (by simp) (by simp) (by simp) hc
    | some n =>
      cases n with
      | zero => exact binEq_rel hT hx hy (by simp) (by simp) (by simp) hc
      | succ n =>
        dsimp only
        split
        · cases hx with
          | atom h => cases h
          | @shortI n h =>
          cases hy.int
          refine SR.step (fun w => eqGuard_other (.inl (by simp)) (by simp) w) ?_
          have : binOp .gtr t (.int .i64 (n : Int)) (.int .i64 (Int.ofNat 400)) = .pure (.bool false) := by
            have h1 : ¬ ((n : Int) > Int.ofNat 400) := by show ¬ ((400 : Int) < (n : Int)); omega
            simp only [binOp, Op.intCmp, ne_eq, not_true_eq_false, if_false, pure_eq]
            simp only [h1, decide_false]
          rw [this]
          exact .ret (.atom rfl)
        · cases hx with
          | atom h => cases h
          | @longI n h =>
          cases hy.int
          refine SR.step (fun w => eqGuard_other (.inl (by simp)) (by simp) w) ?_
          have : binOp .gtr t (.int .i64 (n : Int)) (.int .i64 (Int.ofNat 400)) = .pure (.bool true) := by
            have h1 : ((n : Int) > Int.ofNat 400) := by show ((400 : Int) < (n : Int)); omega
            simp only [binOp, Op.intCmp, ne_eq, not_true_eq_false, if_false, pure_eq]
            simp only [h1, decide_true]
          rw [this]
          exact .ret (.atom rfl)
        · exact .fail
  all_goals exact binEq_rel hT hx hy (by simp) (by simp) (by simp) hc

theorem un_rel {P : Program} {op : UnOp} {x x' : Value} (hx : VRel ρ x x') : SR P VRel ρ (ofSem (Op.unary op x)) (Op.unary op x') := by
  by_cases ha : atom x = true
  · have : x' = x := by
      cases hx with
      | atom _ => rfl
      | unk => exact absurd ha (by decide)
      | _ => cases ha
    subst this
    refine ofSem_atom fun a h => ?_
    cases op <;> cases x' <;> first | (cases h; done) | (cases h; rfl) | (rename_i p; cases p <;> first | (cases h; done) | (cases h; rfl))
  · have : ∀ a, Op.unary op x ≠ .pure a := by
      intro a h
      cases x <;> first | exact absurd rfl ha | skip
      all_goals cases op <;> first | (cases h; done) | (rename_i p; cases p <;> first | exact absurd rfl ha | (cases h; done))
    have : ofSem (Op.unary op x) = .fail := by
      unfold ofSem
      split
      · rename_i a h; exact absurd h (this a)
      · rfl
    rw [this]
    exact .fail
end

end Go.Bel
