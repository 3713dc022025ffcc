/- Regions that draw their order: what commutes. -/
import Derived.Test.YtojahfdjfacgaaaHkQ15
import Derived.Still
set_option linter.unusedSimpArgs false
namespace Go.Hk

inductive Ef where
  | p | r | t | a | w
  deriving DecidableEq

/-- What an operation does to the abstract memory: nothing; it reads blocks; it appends by a token; it lays a block; more. -/
def eff (Γ : Gam) (mu : Bool) (op : Op) : Ef :=
  match op with
  | .move _ | .assign _ | .pick _ _ _ | .build _ _ | .nilCheck _ | .binOp _ _ _ _ _ | .unOp _ _ _ | .convert _ _ _ | .makeInterface _ _ | .makeFunc _ _ _ | .slice _ _ _ _ _ | .fieldAddr _ _ _ | .field _ _ _
  | .indexAddr _ _ _ | .index _ _ _ | .extract _ _ => .p
  | .load _ _ => .r
  | .buildSlice _ n _ => if mu && decide (1 < n) then .a else .p
  | .makeSlice _ _ _ => if mu then .a else .p
  | .alloc _ | .box _ _ => .a
  | .call c => (match c.callee with
    | .builtin b => (match b with | .len => .r | .max => .p | .min => .p | .cap => .p | .unsafeString => .p | .unsafeSliceData => .t | .append => if mu then .w else .t | _ => .w)
    | .value x => (match x with
      | .func f => (match Γ f with | .pure _ => .r | .ext _ => .t | _ => .w)
      | _ => if Γ.dy = true then .w else .r)
    | .invoke _ _ => .w)
  | _ => .w

/-- May what stands ahead come behind? -/
def cm : Ef → Ef → Bool
  | .p, _ => true
  | _, .p => true
  | .r, .r => true
  | .r, .t => true
  | .t, .r => true
  | .r, .a => true
  | .t, .a => true
  | _, _ => false

def HExt (m m2 : AMem) : Prop := ∃ x, m2.H = m.H ++ x

theorem HExt.get {m m2 : AMem} (h : HExt m m2) {b : Nat} {x : ABlk} (hb : m.H[b]? = some x) : m2.H[b]? = some x := by
  obtain ⟨y, hy⟩ := h
  rw [hy, List.getElem?_append_left (List.getElem?_eq_some_iff.1 hb).1]
  exact hb

theorem optMap_mono {f g : AVal → Option AVal} (h : ∀ v u, f v = some u → g v = some u) : ∀ (l r : List AVal), optMap f l = some r → optMap g l = some r
  | [], r, hr => hr
  | v :: l, r, hr => by
    simp only [optMap] at hr ⊢
    split at hr
    · rename_i x y hx hy
      rw [h _ _ hx, optMap_mono h l y hy]
      exact hr
    · cases hr

theorem view_ext {m m2 : AMem} (he : HExt m m2) : ∀ (n : Nat) (v u : AVal), view n m v = some u → view n m2 v = some u := by
  intro n
  induction n with
  | zero => intro v u h; exact h
  | succ n ih =>
    intro v u h
    unfold view at h ⊢
    cases hs : strip v with
    | some z => simp only [hs] at h ⊢; exact h
    | none =>
      simp only [hs] at h ⊢
      cases v <;> simp only [reduceCtorEq] at h ⊢
      case ptr b e o =>
        split at h
        · rename_i e' cs hb
          rw [he.get hb]
          simp only
          split at h
          · rename_i hee
            rw [if_pos hee]
            split at h
            · rename_i ds hds
              rw [optMap_mono ih _ _ hds]; exact h
            · cases h
          · cases h
        · cases h
      case msl b e o k l =>
        split at h
        · rename_i e' cs hb
          rw [he.get hb]
          simp only
          split at h
          · rename_i hee
            rw [if_pos hee]
            split at h
            · rename_i ds hds
              rw [optMap_mono ih _ _ hds]; exact h
            · cases h
          · cases h
        · cases h
      case sl r k cs =>
        split at h
        · rename_i ds hds
          rw [optMap_mono ih _ _ hds]; exact h
        · cases h
      case agg cs =>
        split at h
        · rename_i ds hds
          rw [optMap_mono ih _ _ hds]; exact h
        · cases h
      case tup a cs =>
        split at h
        · rename_i x y hx hy
          rw [ih _ _ hx, optMap_mono ih _ _ hy]; exact h
        · cases h
      case fn f x y =>
        split at h
        · rename_i u w hu hw
          rw [optMap_mono ih _ _ hu, optMap_mono ih _ _ hw]; exact h
        · cases h

theorem callPure_ext {imp : List AVal → Option AVal} {m m' : AMem} {args : List AVal} {r : AVal} (h : callPure imp m args = some (r, m')) : m' = m ∧ ∀ m2, HExt m m2 → callPure imp m2 args = some (r, m2) := by
  unfold callPure at h ⊢
  split at h
  · split at h
    · rename_i x hx
      simp only [Option.some.injEq, Prod.mk.injEq] at h
      obtain ⟨rfl, rfl⟩ := h
      exact ⟨rfl, fun m2 _ => by simp⟩
    · cases h
  · split at h
    · rename_i ars has
      split at h
      · rename_i x hx
        split at h
        · rename_i hf
          simp only [Option.some.injEq, Prod.mk.injEq] at h
          obtain ⟨rfl, rfl⟩ := h
          exact ⟨rfl, fun m2 he => by rw [optMap_mono (view_ext he 8) _ _ has]; simp [hx, hf]⟩
        · cases h
      · cases h
    · cases h

theorem map_mem {r : Option AVal} {m m' : AMem} {v : AVal} (h : r.map (·, m) = some (v, m')) : m' = m ∧ r = some v := by
  obtain ⟨x, hx, hxm⟩ := Option.map_eq_some_iff.1 h
  cases hxm
  exact ⟨rfl, hx⟩

section
variable {P : Program} {Γ : Gam} {mu : Bool} {ρ : Operand → AVal} {m m' : AMem} {op : Op} {v : AVal}

theorem eff_p (he : eff Γ mu op = .p) (h : aexec P Γ mu m ρ op = some (v, m')) : m' = m ∧ ∀ m2, aexec P Γ mu m2 ρ op = some (v, m2) := by
  have viaMap : ∀ {r : Option AVal}, r.map (·, m) = some (v, m') → m' = m ∧ ∀ m2 : AMem, r.map (·, m2) = some (v, m2) := fun hm => by
    obtain ⟨h1, h2⟩ := map_mem hm
    exact ⟨h1, fun m2 => by rw [h2]; rfl⟩
  cases op <;> simp only [eff, reduceCtorEq] at he <;> simp only [aexec, aop] at h ⊢
  case call c =>
    cases hc : c.callee with
    | builtin b =>
      simp only [hc] at he h ⊢
      cases mu <;> cases b <;> simp only [reduceCtorEq, if_true, if_false, Bool.false_eq_true] at he <;> simp only [abuiltin, if_false, Bool.false_eq_true] at h ⊢
      all_goals
        split at h
        · first
            | (simp only [Option.some.injEq, Prod.mk.injEq] at h; obtain ⟨rfl, rfl⟩ := h; exact ⟨rfl, fun _ => rfl⟩)
            | exact viaMap h
        · cases h
    | value x =>
      simp only [hc] at he
      cases x <;> simp only [] at he <;> (split at he <;> cases he)
    | invoke a b => simp [hc] at he
  case move => cases h; exact ⟨rfl, fun _ => rfl⟩
  case assign => cases h; exact ⟨rfl, fun _ => rfl⟩
  case pick =>
    split at h
    · cases h; exact ⟨rfl, fun _ => rfl⟩
    · cases h
  case makeInterface =>
    split at h
    · split at h <;> first | (cases h; done) | (cases h; exact ⟨rfl, fun _ => rfl⟩)
    · cases h
  case makeFunc fn a b =>
    cases fn <;> simp only [reduceCtorEq] at h ⊢
    cases h; exact ⟨rfl, fun _ => rfl⟩
  case buildSlice t n ps =>
    cases hmu : (mu && decide (1 < n)) with
    | true => simp [hmu] at he
    | false =>
      unfold abuildSlice at h ⊢
      split at h
      · split at h
        · split at h
          · split at h
            · split at h
              · rename_i hcond
                simp only [if_pos hcond]
                split at h
                · simp only [hmu, Bool.false_eq_true, if_false, Option.some.injEq, Prod.mk.injEq] at h ⊢
                  obtain ⟨rfl, rfl⟩ := h
                  exact ⟨rfl, fun _ => ⟨rfl, trivial⟩⟩
                · cases h
              · cases h
            · cases h
          · cases h
        · cases h
      · cases h
  case makeSlice t l c =>
    cases mu with
    | true => simp at he
    | false =>
      unfold amakeSlice at h ⊢
      split at h
      · split at h
        · split at h
          · split at h
            · split at h
              · split at h
                · split at h
                  · rename_i hcond
                    simp only [if_pos hcond]
                    simp only [Bool.false_eq_true, if_false, Option.some.injEq, Prod.mk.injEq] at h ⊢
                    obtain ⟨rfl, rfl⟩ := h
                    exact ⟨rfl, fun _ => ⟨rfl, trivial⟩⟩
                  · cases h
                · cases h
              · cases h
            · cases h
          · cases h
        · cases h
      · cases h
  all_goals exact viaMap h

theorem alen_ext {t : TypeId} {x : AVal} {m2 : AMem} (he : HExt m m2) (h : alen P t m x = some v) : alen P t m2 x = some v := by
  unfold alen at h ⊢
  split at h
  · split at h
    · exact h
    · exact h
    · exact h
    · split at h
      · exact h
      · split at h
        · rename_i hb
          rw [he.get hb]; exact h
        · cases h
      · cases h
    · cases h
  · cases h

theorem eff_r (he : eff Γ mu op = .r) (h : aexec P Γ mu m ρ op = some (v, m')) : m' = m ∧ ∀ m2, HExt m m2 → aexec P Γ mu m2 ρ op = some (v, m2) := by
  cases op <;> simp only [eff, reduceCtorEq] at he <;> simp only [aexec, aop] at h ⊢
  case call c =>
    cases hc : c.callee with
    | builtin b =>
      simp only [hc] at he h ⊢
      cases mu <;> cases b <;> simp only [reduceCtorEq, if_true, if_false, Bool.false_eq_true] at he <;> simp only [abuiltin, if_false, Bool.false_eq_true] at h ⊢
      all_goals
       split at h
       · obtain ⟨h1, h2⟩ := map_mem h
         exact ⟨h1, fun m2 hx => by rw [alen_ext hx h2]; rfl⟩
       · cases h
    | value x =>
      simp only [hc] at he h ⊢
      have dyn : (if Γ.dy = true then Ef.w else Ef.r) = Ef.r → (match ρ x with
          | .fn f first caps => acallP Γ m f (first ++ c.args.toList.map ρ ++ caps)
          | .yld b => if Γ.dy = true then Γ.yl b (c.args.toList.map ρ) m else none
          | _ => none) = some (v, m') → m' = m ∧ ∀ m2, HExt m m2 → (match ρ x with
          | .fn f first caps => acallP Γ m2 f (first ++ c.args.toList.map ρ ++ caps)
          | .yld b => if Γ.dy = true then Γ.yl b (c.args.toList.map ρ) m2 else none
          | _ => none) = some (v, m2) := by
        intro hdy h
        have hdy : Γ.dy = false := by cases hd : Γ.dy with
          | false => rfl
          | true => rw [hd] at hdy; cases hdy
        simp only [hdy, Bool.false_eq_true, if_false] at h ⊢
        split at h
        · unfold acallP at h ⊢
          split at h
          · obtain ⟨h1, h2⟩ := callPure_ext h
            exact ⟨h1, h2⟩
          · simp only [hdy, Bool.false_eq_true, if_false] at h
            cases h
          · cases h
        · cases h
        · cases h
      cases x with
      | func f =>
        simp only at he h ⊢
        unfold acall at h ⊢
        cases hg : Γ f with
        | pure imp =>
          simp only [hg] at h ⊢
          exact callPure_ext h
        | raw imp => simp [hg] at he
        | ext imp => simp [hg] at he
        | lib imp => simp [hg] at he
        | non => simp [hg] at he
      | tmp t => exact dyn he h
      | const k => exact dyn he h
      | global g => exact dyn he h
    | invoke a b => simp [hc] at he
  case load t x =>
    obtain ⟨h1, h2⟩ := map_mem h
    refine ⟨h1, fun m2 hx => ?_⟩
    have : aload P t m2 (ρ x) = some v := by
      unfold aload at h2 ⊢
      split at h2
      · split at h2
        · rename_i hb
          rw [hx.get hb]; exact h2
        · cases h2
      · exact h2
      · split at h2
        · rename_i hb
          rw [hx.get hb]; exact h2
        · cases h2
      · cases h2
    rw [this]; rfl
  case buildSlice => split at he <;> cases he
  case makeSlice => cases mu <;> simp at he

theorem alist_ext {x : AVal} {m2 : AMem} {z : Nat × List AVal} (he : HExt m m2) (h : alist m x = some z) : alist m2 x = some z := by
  unfold alist at h ⊢
  split at h
  · exact h
  · exact h
  · split at h
    · rename_i hb
      rw [he.get hb]; exact h
    · cases h
  · cases h

theorem eff_t (he : eff Γ mu op = .t) (h : aexec P Γ mu m ρ op = some (v, m')) : m'.H = m.H ∧ ∀ m2, HExt m m2 → m2.T = m.T → aexec P Γ mu m2 ρ op = some (v, ⟨m2.H, m'.T⟩) := by
  cases op <;> simp only [eff, reduceCtorEq] at he <;> simp only [aexec, aop] at h ⊢
  case call c =>
    cases hc : c.callee with
    | builtin b =>
      simp only [hc] at he h ⊢
      cases mu <;> cases b <;> simp only [reduceCtorEq, if_true, if_false, Bool.false_eq_true] at he <;> simp only [abuiltin, if_false, Bool.false_eq_true] at h ⊢
      case unsafeSliceData =>
        split at h
        · obtain ⟨rfl, h2⟩ := map_mem h
          refine ⟨rfl, fun m2 _ hT => ?_⟩
          have : ∀ x, adata m2 x = adata m' x := fun x => by unfold adata; rw [hT]
          rw [this, h2, ← hT]; rfl
        · cases h
      case unsafeSliceData =>
        split at h
        · obtain ⟨rfl, h2⟩ := map_mem h
          refine ⟨rfl, fun m2 _ hT => ?_⟩
          have : ∀ x, adata m2 x = adata m' x := fun x => by unfold adata; rw [hT]
          rw [this, h2, ← hT]; rfl
        · cases h
      split at h
      · unfold aappend at h ⊢
        split at h
        · split at h
          · rename_i k ds hal
            split at h
            · split at h
              · rename_i hcond
                simp only [Option.some.injEq, Prod.mk.injEq] at h
                obtain ⟨rfl, rfl⟩ := h
                refine ⟨rfl, fun m2 hx hT => ?_⟩
                rw [alist_ext hx hal]
                simp only [hT]
                rw [if_pos hcond]
              · cases h
            · cases h
          · cases h
        · cases h
      · cases h
    | value x =>
      simp only [hc] at he h ⊢
      cases x <;> simp only [] at he
      case tmp => split at he <;> cases he
      case const => split at he <;> cases he
      case global => split at he <;> cases he
      simp only at h ⊢
      split at he
      · cases he
      · rename_i imp hg
        unfold acall at h ⊢
        simp only [hg] at h ⊢
        split at h
        · rename_i r T' hx
          cases h
          refine ⟨rfl, fun m2 _ hT => ?_⟩
          rw [hT, hx]
        · cases h
      · cases he
    | invoke a b => simp [hc] at he
  case buildSlice => split at he <;> cases he
  case makeSlice => cases mu <;> simp at he

theorem eff_a (he : eff Γ mu op = .a) (h : aexec P Γ mu m ρ op = some (v, m')) : ∃ x, m' = ⟨m.H ++ [x], m.T⟩ ∧ ∀ m2, m2.H = m.H → aexec P Γ mu m2 ρ op = some (v, ⟨m.H ++ [x], m2.T⟩) := by
  cases op <;> simp only [eff, reduceCtorEq] at he <;> simp only [aexec, aop] at h ⊢
  case call c =>
    cases hc : c.callee with
    | builtin b =>
      simp only [hc] at he
      cases mu <;> cases b <;> simp only [reduceCtorEq, if_true, if_false, Bool.false_eq_true] at he
    | value x =>
      simp only [hc] at he
      cases x <;> simp only [] at he <;> (split at he <;> cases he)
    | invoke a b => simp [hc] at he
  case alloc e =>
    split at h
    · split at h
      · simp only [anew, Option.some.injEq, Prod.mk.injEq] at h ⊢
        obtain ⟨rfl, rfl⟩ := h
        exact ⟨_, rfl, fun m2 hH => ⟨by rw [hH], by rw [hH]⟩⟩
      · cases h
    · cases h
  case box e x =>
    split at h
    · cases hb : bldZ (tiOf P e) <;> simp only [hb, boxO, if_true, Bool.false_eq_true, if_false, anew, apush, Option.some.injEq, Prod.mk.injEq] at h ⊢ <;>
        (obtain ⟨rfl, rfl⟩ := h; exact ⟨_, rfl, fun m2 hH => ⟨by rw [hH], by rw [hH]⟩⟩)
    · cases h
  case buildSlice t n ps =>
    cases hmu : (mu && decide (1 < n)) with
    | false => simp [hmu] at he
    | true =>
      unfold abuildSlice at h ⊢
      split at h
      · split at h
        · split at h
          · split at h
            · split at h
              · rename_i hcond
                simp only [if_pos hcond]
                split at h
                · simp only [hmu, if_true, Option.some.injEq, Prod.mk.injEq] at h ⊢
                  obtain ⟨rfl, rfl⟩ := h
                  exact ⟨_, rfl, fun m2 hH => ⟨by rw [hH], by rw [hH]⟩⟩
                · cases h
              · cases h
            · cases h
          · cases h
        · cases h
      · cases h
  case makeSlice t l c =>
    cases mu with
    | false => simp at he
    | true =>
      unfold amakeSlice at h ⊢
      split at h
      · split at h
        · split at h
          · split at h
            · split at h
              · split at h
                · split at h
                  · rename_i hcond
                    simp only [if_pos hcond]
                    simp only [if_true, Option.some.injEq, Prod.mk.injEq] at h ⊢
                    obtain ⟨rfl, rfl⟩ := h
                    exact ⟨_, rfl, fun m2 hH => ⟨by rw [hH], by rw [hH]⟩⟩
                  · cases h
                · cases h
              · cases h
            · cases h
          · cases h
        · cases h
      · cases h

end

/-! ### Two operations that may be exchanged -/

theorem aexec_congr {P : Program} {Γ : Gam} {mu : Bool} {m : AMem} {ρ ρ' : Operand → AVal} {op : Op} (h : ∀ x ∈ op.operands, ρ x = ρ' x) : aexec P Γ mu m ρ op = aexec P Γ mu m ρ' op := by
  have pairs : ∀ ps : Array (Nat × Operand), (∀ x ∈ ps.map (·.2), ρ x = ρ' x) → (ps.toList.map fun p => (p.1, ρ p.2)) = (ps.toList.map fun p => (p.1, ρ' p.2)) := fun ps hp =>
    List.map_congr_left fun p hm => by
      obtain ⟨i, x⟩ := p
      simp only [hp x (Array.mem_map.2 ⟨(i, x), Array.mem_toList_iff.1 hm, rfl⟩)]
  cases op <;> simp only [Op.operands] at h <;> simp only [aexec, aop]
  case build t ps => rw [pairs ps fun x hx => h x (by simpa using hx)]
  case buildSlice t n ps => rw [pairs ps fun x hx => h x (by simpa using hx)]
  case makeMap t r => cases r <;> rfl
  case makeFunc fn first captured =>
    cases fn <;> simp only
    rw [List.map_congr_left (l := first.toList) fun x hx => h x (by simp [Array.mem_toList_iff.1 hx]), List.map_congr_left (l := captured.toList) fun x hx => h x (by simp [Array.mem_toList_iff.1 hx])]
  case call c =>
    have hargs : c.args.toList.map ρ = c.args.toList.map ρ' := List.map_congr_left fun x hx => h x (by simp [Call.operands, Array.mem_toList_iff.1 hx])
    rw [hargs]
    cases hc : c.callee with
    | builtin b => rfl
    | invoke r mm => rfl
    | value x =>
      have hx : ρ x = ρ' x := h x (by simp [Call.operands, hc])
      cases x <;> simp only <;> rw [hx]
  case slice t x lo hi mx => cases lo <;> cases hi <;> cases mx <;> simp_all
  all_goals (first | rfl | (simp_all; done))

def Eqv (s s' : St) : Prop := s.m = s'.m ∧ ∀ t, lk s.env t = lk s'.env t

theorem Eqv.refl (s : St) : Eqv s s := ⟨rfl, fun _ => rfl⟩
theorem Eqv.trans {a b c : St} (h : Eqv a b) (k : Eqv b c) : Eqv a c := ⟨h.1.trans k.1, fun t => (h.2 t).trans (k.2 t)⟩

theorem lk_put (env : List (Nat × AVal)) (d : Option Nat) (v : AVal) (t : Nat) : lk (put env d v) t = if d = some t then v else lk env t := by
  cases d with
  | none => simp [put]
  | some d => simp only [put, lk, Option.some.injEq]

theorem ev_congr {env env' : List (Nat × AVal)} (h : ∀ t, lk env t = lk env' t) : ev env = ev env' := by
  funext x
  cases x with
  | tmp t => exact h t
  | _ => rfl

theorem aguard_congr {ops : Array Oper} {env env' : List (Nat × AVal)} {o : Oper} (h : ∀ g w, o.guard = some (g, w) → ∀ d, (ops[g]?).bind (·.dst) = some d → lk env d = lk env' d) : aguard ops env o = aguard ops env' o := by
  unfold aguard
  cases hg : o.guard with
  | none => rfl
  | some gw =>
    obtain ⟨g, w⟩ := gw
    simp only
    cases hd : (ops[g]?).bind (·.dst) with
    | none => rfl
    | some d => simp only [h g w hg d hd]

theorem astep_congr {P : Program} {Γ : Gam} {mu : Bool} {ops : Array Oper} {o : Oper} {s s' s1 : St} (he : Eqv s s') (h : astep P Γ mu ops o s = some s1) : ∃ s1', astep P Γ mu ops o s' = some s1' ∧ Eqv s1 s1' := by
  obtain ⟨env, m⟩ := s
  obtain ⟨env', m'⟩ := s'
  obtain ⟨h1, h2⟩ := he
  simp only at h1 h2
  subst h1
  unfold astep at h ⊢
  simp only at h ⊢
  rw [← aguard_congr (env := env) (env' := env') (fun _ _ _ d _ => h2 d), ← ev_congr h2]
  split at h
  · split at h
    · rename_i hg
      simp only [hg, if_true]
      split at h
      · simp only [Option.some.injEq] at h; subst h
        exact ⟨_, rfl, rfl, fun t => by simp only [lk_put, h2]⟩
      · cases h
    · rename_i hg
      simp only [hg, Bool.false_eq_true, if_false]
      simp only [Option.some.injEq] at h; subst h
      exact ⟨_, rfl, rfl, fun t => by simp only [lk_put, h2]⟩
  · cases h

/-- What one step gives, the environment left aside. -/
def aR (P : Program) (Γ : Gam) (mu : Bool) (ops : Array Oper) (o : Oper) (env : List (Nat × AVal)) (m : AMem) : Option (AVal × AMem) :=
  match aguard ops env o with
  | some g => if g = true then aexec P Γ mu m (ev env) o.op else some (.undef, m)
  | none => none

theorem astep_eq {P : Program} {Γ : Gam} {mu : Bool} {ops : Array Oper} {o : Oper} {s : St} : astep P Γ mu ops o s = (aR P Γ mu ops o s.env s.m).map fun p => ⟨put s.env o.dst p.1, p.2⟩ := by
  unfold astep aR
  cases aguard ops s.env o with
  | none => rfl
  | some g =>
    simp only
    split
    · cases aexec P Γ mu s.m (ev s.env) o.op <;> rfl
    · rfl

section
variable {P : Program} {Γ : Gam} {mu : Bool} {ops : Array Oper} {o : Oper} {env : List (Nat × AVal)} {m m' : AMem} {v : AVal}

theorem aR_p (he : eff Γ mu o.op = .p) (h : aR P Γ mu ops o env m = some (v, m')) : m' = m ∧ ∀ m2, aR P Γ mu ops o env m2 = some (v, m2) := by
  unfold aR at h ⊢
  split at h
  · split at h
    · rename_i hg; simp only [hg, if_true]; exact eff_p he h
    · rename_i hg
      simp only [hg]
      simp only [Option.some.injEq, Prod.mk.injEq] at h
      obtain ⟨rfl, rfl⟩ := h
      exact ⟨rfl, fun _ => rfl⟩
  · cases h
theorem aR_r (he : eff Γ mu o.op = .r) (h : aR P Γ mu ops o env m = some (v, m')) : m' = m ∧ ∀ m2, HExt m m2 → aR P Γ mu ops o env m2 = some (v, m2) := by
  unfold aR at h ⊢
  split at h
  · split at h
    · rename_i hg; simp only [hg, if_true]; exact eff_r he h
    · rename_i hg
      simp only [hg]
      simp only [Option.some.injEq, Prod.mk.injEq] at h
      obtain ⟨rfl, rfl⟩ := h
      exact ⟨rfl, fun _ _ => rfl⟩
  · cases h
theorem aR_t (he : eff Γ mu o.op = .t) (h : aR P Γ mu ops o env m = some (v, m')) : m'.H = m.H ∧ ∀ m2, HExt m m2 → m2.T = m.T → aR P Γ mu ops o env m2 = some (v, ⟨m2.H, m'.T⟩) := by
  unfold aR at h ⊢
  split at h
  · split at h
    · rename_i hg; simp only [hg, if_true]; exact eff_t he h
    · rename_i hg
      simp only [hg]
      simp only [Option.some.injEq, Prod.mk.injEq] at h
      obtain ⟨rfl, rfl⟩ := h
      exact ⟨rfl, fun m2 _ hT => by rw [← hT]; rfl⟩
  · cases h
theorem aR_a (he : eff Γ mu o.op = .a) (h : aR P Γ mu ops o env m = some (v, m')) : m' = m ∧ (∀ m2, aR P Γ mu ops o env m2 = some (v, m2)) ∨ ∃ x, m' = ⟨m.H ++ [x], m.T⟩ ∧ ∀ m2, m2.H = m.H → aR P Γ mu ops o env m2 = some (v, ⟨m.H ++ [x], m2.T⟩) := by
  unfold aR at h ⊢
  split at h
  · split at h
    · rename_i hg; simp only [hg, if_true]; exact .inr (eff_a he h)
    · rename_i hg
      simp only [hg]
      simp only [Option.some.injEq, Prod.mk.injEq] at h
      obtain ⟨rfl, rfl⟩ := h
      exact .inl ⟨rfl, fun _ => rfl⟩
  · cases h

theorem HExt.refl (m : AMem) : HExt m m := ⟨[], by simp⟩

/-- Two steps' doings to the memory, exchanged. -/
theorem comm_mem {oi oj : Oper} {envj : List (Nat × AVal)} (hcm : cm (eff Γ mu oi.op) (eff Γ mu oj.op) = true) {m m1 m12 : AMem} {vi vj : AVal} (h1 : aR P Γ mu ops oi env m = some (vi, m1)) (h2 : aR P Γ mu ops oj envj m1 = some (vj, m12)) :
    ∃ m2, aR P Γ mu ops oj envj m = some (vj, m2) ∧ aR P Γ mu ops oi env m2 = some (vi, m12) := by
  cases hi : eff Γ mu oi.op with
  | p =>
    obtain ⟨rfl, k⟩ := aR_p hi h1
    exact ⟨m12, h2, k _⟩
  | r =>
    obtain ⟨rfl, k⟩ := aR_r hi h1
    cases hj : eff Γ mu oj.op with
    | p => obtain ⟨rfl, l⟩ := aR_p hj h2; exact ⟨_, h2, h1⟩
    | r => obtain ⟨rfl, l⟩ := aR_r hj h2; exact ⟨_, h2, h1⟩
    | t => obtain ⟨l1, l2⟩ := aR_t hj h2; exact ⟨m12, h2, k _ ⟨[], by simp [l1]⟩⟩
    | a =>
      rcases aR_a hj h2 with ⟨rfl, l⟩ | ⟨x, rfl, l⟩
      · exact ⟨_, h2, h1⟩
      · exact ⟨_, h2, k _ ⟨[x], rfl⟩⟩
    | w => rw [hi, hj] at hcm; cases hcm
  | t =>
    obtain ⟨k1, k⟩ := aR_t hi h1
    cases hj : eff Γ mu oj.op with
    | p => obtain ⟨rfl, l⟩ := aR_p hj h2; exact ⟨m, l m, h1⟩
    | r => obtain ⟨rfl, l⟩ := aR_r hj h2; exact ⟨m, l m ⟨[], by simp [k1]⟩, h1⟩
    | t => rw [hi, hj] at hcm; cases hcm
    | a =>
      rcases aR_a hj h2 with ⟨rfl, l⟩ | ⟨x, rfl, l⟩
      · exact ⟨m, l m, h1⟩
      · refine ⟨⟨m1.H ++ [x], m.T⟩, l m k1.symm, ?_⟩
        have := k ⟨m1.H ++ [x], m.T⟩ ⟨[x], by simp [k1]⟩ rfl
        simpa using this
    | w => rw [hi, hj] at hcm; cases hcm
  | a =>
    cases hj : eff Γ mu oj.op with
    | p => obtain ⟨rfl, l⟩ := aR_p hj h2; exact ⟨m, l m, h1⟩
    | r => rw [hi, hj] at hcm; cases hcm
    | t => rw [hi, hj] at hcm; cases hcm
    | a => rw [hi, hj] at hcm; cases hcm
    | w => rw [hi, hj] at hcm; cases hcm
  | w =>
    cases hj : eff Γ mu oj.op with
    | p => obtain ⟨rfl, l⟩ := aR_p hj h2; exact ⟨m, l m, h1⟩
    | r => rw [hi, hj] at hcm; cases hcm
    | t => rw [hi, hj] at hcm; cases hcm
    | a => rw [hi, hj] at hcm; cases hcm
    | w => rw [hi, hj] at hcm; cases hcm

theorem aR_put {oi oj : Oper} {u : AVal} (h : ∀ d, oi.dst = some d → d ∉ oj.looksAt ops) : aR P Γ mu ops oj (put env oi.dst u) m = aR P Γ mu ops oj env m := by
  unfold aR
  have hg : aguard ops (put env oi.dst u) oj = aguard ops env oj := aguard_congr fun g w hgw d hd => by
    rw [lk_put, if_neg]
    intro hdd
    refine h d hdd ?_
    simp [Oper.looksAt, hgw, hd]
  have hx : ∀ m, aexec P Γ mu m (ev (put env oi.dst u)) oj.op = aexec P Γ mu m (ev env) oj.op := fun m => aexec_congr fun x hx => by
    cases x with
    | tmp t =>
      simp only [ev, lk_put]
      rw [if_neg]
      intro hdd
      exact h t hdd (List.mem_append_left _ (List.mem_filterMap.2 ⟨.tmp t, by simpa using hx, rfl⟩))
    | _ => rfl
  rw [hg]
  simp only [hx]

theorem comm_step {oi oj : Oper} (hap : oi.apart ops oj = true) (hcm : cm (eff Γ mu oi.op) (eff Γ mu oj.op) = true) {s s1 s12 : St} (h1 : astep P Γ mu ops oi s = some s1) (h2 : astep P Γ mu ops oj s1 = some s12) :
    ∃ s2 s21, astep P Γ mu ops oj s = some s2 ∧ astep P Γ mu ops oi s2 = some s21 ∧ Eqv s12 s21 := by
  obtain ⟨a1, a2, a3⟩ := Oper.apart_spec hap
  rw [astep_eq] at h1 h2
  obtain ⟨⟨vi, m1⟩, e1, rfl⟩ := Option.map_eq_some_iff.1 h1
  obtain ⟨⟨vj, m12⟩, e2, rfl⟩ := Option.map_eq_some_iff.1 h2
  simp only at e2
  rw [aR_put a1] at e2
  obtain ⟨m2, k1, k2⟩ := comm_mem hcm e1 e2
  refine ⟨⟨put s.env oj.dst vj, m2⟩, ⟨put (put s.env oj.dst vj) oi.dst vi, m12⟩, by rw [astep_eq, k1]; rfl, by rw [astep_eq]; simp only; rw [aR_put a3, k2]; rfl, rfl, fun t => ?_⟩
  simp only [lk_put]
  by_cases hi : oi.dst = some t
  · rw [if_pos hi]
    have : oj.dst ≠ some t := a2 t hi
    rw [if_neg this, if_pos hi]
  · rw [if_neg hi, if_neg hi]
end

/-! ### Whatever order -/

def befStep (acc : List Nat) (o : Oper) : Nat := o.after.toList.foldl (fun s e => if Region.binds .any e then s ||| 2 ^ e.on ||| acc.getD e.on 0 else s) 0

/-- For each operation those that stand ahead of it, ars a number's bits. -/
def befs : List Oper → List Nat → List Nat
  | [], acc => acc
  | o :: r, acc => befs r (acc ++ [befStep acc o])

theorem befs_get : ∀ (l : List Oper) (acc : List Nat) (j : Nat), j < acc.length → (befs l acc)[j]? = acc[j]?
  | [], acc, j, _ => rfl
  | o :: l, acc, j, h => by
    rw [befs, befs_get l _ j (by simp; omega), List.getElem?_append_left h]

theorem befStep_spec {acc : List Nat} {i : Nat} : ∀ (es : List Edge) (s : Nat), (es.foldl (fun s e => if Region.binds .any e then s ||| 2 ^ e.on ||| acc.getD e.on 0 else s) s).testBit i = true →
    s.testBit i = true ∨ ∃ e ∈ es, Region.binds .any e = true ∧ (i = e.on ∨ (acc.getD e.on 0).testBit i = true)
  | [], s, h => .inl h
  | e :: es, s, h => by
    rcases befStep_spec es _ h with h | ⟨e', he, h1, h2⟩
    · dsimp only at h
      split at h
      · rename_i hb
        simp only [Nat.testBit_or, Bool.or_eq_true] at h
        rcases h with (h | h) | h
        · exact .inl h
        · exact .inr ⟨e, by simp, hb, .inl (by
            rw [Nat.testBit_two_pow] at h
            simpa using (of_decide_eq_true h).symm)⟩
        · exact .inr ⟨e, by simp, hb, .inr h⟩
      · exact .inl h
    · exact .inr ⟨e', by simp [he], h1, h2⟩

theorem befs_spec : ∀ (l : List Oper) (acc : List Nat) (j : Nat) (o : Oper), l[j]? = some o → ∀ i, ((befs l acc).getD (acc.length + j) 0).testBit i = true →
    ∃ e ∈ o.after.toList, Region.binds .any e = true ∧ (i = e.on ∨ (((befs l acc).take (acc.length + j)).getD e.on 0).testBit i = true)
  | [], acc, j, o, h => by simp at h
  | p :: l, acc, 0, o, h => by
    intro i hi
    simp only [List.getElem?_cons_zero, Option.some.injEq] at h; subst h
    have hg : (befs (p :: l) acc)[acc.length]? = some (befStep acc p) := by
      rw [befs, befs_get l _ _ (by simp)]; simp
    have ht : (befs (p :: l) acc).take acc.length = acc := by
      have : ∀ (l : List Oper) (a : List Nat), (befs l a).take a.length = a := by
        intro l
        induction l with
        | nil => intro a; simp [befs]
        | cons q l ih =>
          intro a
          have := ih (a ++ [befStep a q])
          rw [befs]
          have h2 := congrArg (List.take a.length) this
          simpa [List.take_take] using h2
      exact this _ _
    simp only [Nat.add_zero, List.getD_eq_getElem?_getD, hg, Option.getD_some] at hi
    rcases befStep_spec _ _ hi with h | ⟨e, he, h1, h2⟩
    · simp at h
    · exact ⟨e, he, h1, by simpa [ht] using h2⟩
  | p :: l, acc, j + 1, o, h => by
    intro i hi
    have := befs_spec l (acc ++ [befStep acc p]) j o (by simpa using h) i
    simp only [List.length_append, List.length_cons, List.length_nil] at this
    rw [show acc.length + (0 + 1) + j = acc.length + (j + 1) by omega] at this
    exact this hi

/-- May this region be walked in the order of the text? -/
def drawOK (Γ : Gam) (mu : Bool) (ops : Array Oper) : Bool :=
  let l := ops.toList
  let bs := befs l []
  (List.range l.length).all fun j => match l[j]? with
    | some oj => (oj.after.all fun e => !Region.binds .any e || decide (e.on < j)) && (List.range j).all fun i => (bs.getD j 0).testBit i || (match l[i]? with
      | some oi => oi.apart ops oj && cm (eff Γ mu oi.op) (eff Γ mu oj.op)
      | none => true)
    | none => true

section
variable {P : Program} {Γ : Gam} {mu : Bool} {ops : Array Oper}

theorem drawOK_spec (h : drawOK Γ mu ops = true) {j : Nat} {oj : Oper} (hj : ops[j]? = some oj) : (∀ e ∈ oj.after, Region.binds .any e = true → e.on < j) ∧
    ∀ i oi, i < j → ops[i]? = some oi → ((befs ops.toList []).getD j 0).testBit i = true ∨ (oi.apart ops oj = true ∧ cm (eff Γ mu oi.op) (eff Γ mu oj.op) = true) := by
  have hlt : j < ops.toList.length := by
    have := Array.getElem?_eq_some_iff.1 hj
    simpa using this.1
  have := List.all_eq_true.1 h j (by simpa using hlt)
  have hj' : ops.toList[j]? = some oj := by simpa using hj
  rw [hj'] at this
  simp only [Bool.and_eq_true] at this
  refine ⟨fun e he hb => ?_, fun i oi hij hi => ?_⟩
  · have := Array.all_eq_true_iff_forall_mem.1 this.1 e he
    simpa [hb] using this
  · have := List.all_eq_true.1 this.2 i (by simpa using hij)
    have hi' : ops.toList[i]? = some oi := by simpa using hi
    rw [hi'] at this
    simpa using this

def Closed (ops : Array Oper) (listed : Array Bool) : Prop := ∀ k i, listed.getD k false = true → ((befs ops.toList []).getD k 0).testBit i = true → listed.getD i false = true

theorem ready_closed {listed : Array Bool} (hc : Closed ops listed) {j : Nat} (hj : j ∈ Region.ready .any ops listed) {i : Nat} (hi : ((befs ops.toList []).getD j 0).testBit i = true) : listed.getD i false = true := by
  obtain ⟨_, o, ho, hall⟩ := mem_ready.1 hj
  have ho' : ops.toList[j]? = some o := by simpa using ho
  have := befs_spec ops.toList [] j o ho' i (by simpa using hi)
  obtain ⟨e, he, hb, h⟩ := this
  have hl := hall e (Array.mem_toList_iff.1 he) hb
  rcases h with rfl | h
  · exact hl
  · refine hc e.on i hl ?_
    simp only [List.length_nil, Nat.zero_add, List.getD_eq_getElem?_getD, List.getElem?_take] at h ⊢
    split at h
    · exact h
    · simp at h

theorem closed_set {listed : Array Bool} (hc : Closed ops listed) {j : Nat} (hj : j ∈ Region.ready .any ops listed) : Closed ops (listed.setIfInBounds j true) := by
  intro k i hk hi
  by_cases hkj : j = k
  · subst hkj
    exact getD_set_true (ready_closed hc hj hi)
  · rw [getD_set_ne false hkj] at hk
    exact getD_set_true (hc k i hk hi)

def anyOK (P : Program) (Γ : Gam) (mu : Bool) (ops : Array Oper) (Q : St → Prop) : Nat → Array Bool → St → Prop
  | 0, listed, s => Region.ready .any ops listed = [] ∧ Q s
  | fuel + 1, listed, s => (Region.ready .any ops listed = [] → Q s) ∧ ∀ i ∈ Region.ready .any ops listed, ∃ o s', ops[i]? = some o ∧ astep P Γ mu ops o s = some s' ∧ anyOK P Γ mu ops Q fuel (listed.setIfInBounds i true) s'

theorem anyOK_congr {Q : St → Prop} (hQ : ∀ s s', Eqv s s' → Q s → Q s') : ∀ (fuel : Nat) (listed : Array Bool) (s s' : St), Eqv s s' → anyOK P Γ mu ops Q fuel listed s → anyOK P Γ mu ops Q fuel listed s'
  | 0, _, s, s', he, h => ⟨h.1, hQ s s' he h.2⟩
  | fuel + 1, listed, s, s', he, h => ⟨fun h0 => hQ s s' he (h.1 h0), fun i hi => by
      obtain ⟨o, s1, ho, hs, hr⟩ := h.2 i hi
      obtain ⟨s1', hs', he'⟩ := astep_congr he hs
      exact ⟨o, s1', ho, hs', anyOK_congr hQ fuel _ s1 s1' he' hr⟩⟩

theorem any_first {Q : St → Prop} (hQ : ∀ s s', Eqv s s' → Q s → Q s') (hd : drawOK Γ mu ops = true) {i : Nat} {oi : Oper} (hi : ops[i]? = some oi) : ∀ (fuel : Nat) (listed : Array Bool) (s s1 : St), Closed ops listed → i ∈ Region.ready .any ops listed →
    (∀ j, j ≠ i → listed.getD j true = false → i < j) → astep P Γ mu ops oi s = some s1 → anyOK P Γ mu ops Q fuel (listed.setIfInBounds i true) s1 → anyOK P Γ mu ops Q (fuel + 1) listed s := by
  intro fuel
  induction fuel with
  | zero =>
    intro listed s s1 hc hr hmin hs H
    refine ⟨fun h => (by rw [h] at hr; cases hr), fun j hj => ?_⟩
    by_cases hji : j = i
    · subst hji; exact ⟨oi, s1, hi, hs, H⟩
    · have := ready_mono (i := i) hj hji
      rw [H.1] at this
      cases this
  | succ fuel ih =>
    intro listed s s1 hc hr hmin hs H
    refine ⟨fun h => (by rw [h] at hr; cases hr), fun j hj => ?_⟩
    by_cases hji : j = i
    · subst hji; exact ⟨oi, s1, hi, hs, H⟩
    · obtain ⟨oj, s12, hoj, hs12, hr12⟩ := H.2 j (ready_mono hj hji)
      have hjl := (mem_ready.1 hj).1
      have hij := hmin j hji hjl
      have hnb : ¬ ((befs ops.toList []).getD j 0).testBit i = true := fun hb => by
        have h1 := ready_closed hc hj hb
        have h0 := (mem_ready.1 hr).1
        rcases Nat.lt_or_ge i listed.size with h' | h'
        · simp [h'] at h0 h1; rw [h0] at h1; cases h1
        · simp [Array.getElem?_eq_none h'] at h1
      obtain ⟨hap, hcm⟩ := ((drawOK_spec hd hoj).2 i oi hij hi).resolve_left hnb
      obtain ⟨s2, s21, k1, k2, k3⟩ := comm_step hap hcm hs hs12
      refine ⟨oj, s2, hoj, k1, ih (listed.setIfInBounds j true) s2 s21 (closed_set hc hj) (ready_mono hr (Ne.symm hji)) (fun k hki hun => hmin k hki ?_) k2 ?_⟩
      · by_cases hjk : j = k
        · subst hjk; exact hjl
        · rw [getD_set_ne true hjk] at hun; exact hun
      · rw [Array.setIfInBounds_comm _ _ hji]
        exact anyOK_congr hQ fuel _ _ _ k3 hr12

theorem wpAny_of_anyOK (hΓ : Sound P Γ) {n : Nat} (hdst : ∀ o ∈ ops.toList, ∀ x, o.dst = some x → x < n) {ro : Option Nat} {Q : St → Prop} {Q' : Exit → Act → World → Prop} : ∀ (fuel : Nat) (listed : Array Bool) (γ : Ghost) (s : St) (a : Act), Holds n γ s a →
    (∀ γ' s' a', Ext γ γ' → Holds n γ' s' a' → a'.defers = a.defers → Q s' → Q' .normal a' γ'.w) → anyOK P Γ mu ops Q fuel listed s → wpAnyIn (wfen ro) 0 P .any ops Q' fuel listed a γ.w
  | 0, listed, γ, s, a, hh, hQ, h => ⟨h.1, hQ γ s a (Ext.refl γ) hh rfl h.2⟩
  | fuel + 1, listed, γ, s, a, hh, hQ, h => ⟨fun h0 => hQ γ s a (Ext.refl γ) hh rfl (h.1 h0), fun i hi => by
      obtain ⟨o, s', ho, hs, hr⟩ := h.2 i hi
      unfold wpOpIn
      rw [ho]
      exact astep_sound hΓ hh (hdst o (by simpa using Array.mem_of_getElem? ho)) hs fun a' γ' hh' he hdf => wpAny_of_anyOK hΓ hdst fuel _ γ' s' a' hh' (fun γ'' s'' a'' he' hh'' hdf' => hQ γ'' s'' a'' (he.trans he') hh'' (hdf'.trans hdf)) hr⟩

theorem any_lex {sf : St} (hd : drawOK Γ mu ops = true) : ∀ (l : List Oper) (k : Nat) (listed : Array Bool) (s : St), (∀ j, l[j]? = ops[k + j]?) → listed.size = ops.size → (∀ j, j < listed.size → listed.getD j false = decide (j < k)) → Closed ops listed →
    aops P Γ mu ops l s = some sf → anyOK P Γ mu ops (Eqv sf) l.length listed s
  | [], k, listed, s, hl, hsz, hls, _, h => by
    simp only [aops, Option.some.injEq] at h; subst h
    refine ⟨?_, Eqv.refl _⟩
    cases hr : Region.ready .any ops listed with
    | nil => rfl
    | cons x xs =>
      exfalso
      have hx : x ∈ Region.ready .any ops listed := by rw [hr]; simp
      obtain ⟨h0, o, ho, _⟩ := mem_ready.1 hx
      have hlt : x < ops.size := (Array.getElem?_eq_some_iff.1 ho).1
      have hk : ops.size ≤ k := by
        have := hl 0
        simp only [List.getElem?_nil, Nat.add_zero] at this
        have := Array.getElem?_eq_none_iff.1 this.symm
        exact this
      have := hls x (by omega)
      rw [decide_eq_true (by omega : x < k)] at this
      have hlx : x < listed.size := by omega
      simp [Array.getD, hlx] at this h0
      rw [this] at h0
      cases h0
  | o :: l, k, listed, s, hl, hsz, hls, hc, h => by
    have h0 : ops[k]? = some o := by simpa using (hl 0).symm
    have hlt : k < ops.size := (Array.getElem?_eq_some_iff.1 h0).1
    simp only [aops] at h
    obtain ⟨s1, h1, h2⟩ := Option.bind_eq_some_iff.1 h
    have hready : k ∈ Region.ready .any ops listed := by
      refine mem_ready.2 ⟨?_, o, h0, fun e he hb => ?_⟩
      · have := hls k (by omega)
        rw [decide_eq_false (by omega)] at this
        have hk : k < listed.size := by omega
        simpa [Array.getD, hk] using this
      · have he' := (drawOK_spec hd h0).1 e he hb
        rw [hls e.on (by omega)]
        exact decide_eq_true he'
    refine any_first (fun s s' he hq => hq.trans he) hd h0 l.length listed s s1 hc hready (fun j hjk hjl => ?_) h1 ?_
    · rcases Nat.lt_or_ge j listed.size with h | h
      · have := hls j h
        simp [Array.getD, h] at this hjl
        rw [hjl] at this
        have : ¬ j < k := by simpa using this.symm
        omega
      · simp [Array.getD, Nat.not_lt.2 h] at hjl
    · refine any_lex hd l (k + 1) _ s1 (fun j => by have := hl (j + 1); simpa [Nat.add_assoc, Nat.add_comm 1 j] using this) (by simpa using hsz) (fun j hj => ?_) (closed_set hc hready) h2
      by_cases hjk : k = j
      · subst hjk
        have hk : k < listed.size := by omega
        simp [Array.getD, hk]
      · rw [getD_set_ne false hjk, hls j (by simpa using hj)]
        by_cases hlt : j < k
        · rw [decide_eq_true hlt, decide_eq_true (by omega)]
        · rw [decide_eq_false hlt, decide_eq_false (by omega)]

theorem AWp.drawn (hΓ : Sound P Γ) (hm : P.follows .mixedOrders = true) {n hk tk id : Nat} {Q : Exit → St → Prop} {s s' : St} (hd : dstOK n ops.toList = true) (hdr : drawOK Γ mu ops = true) (he : aops P Γ mu ops ops.toList s = some s') (h : ∀ s'', Eqv s' s'' → Q .normal s'') :
    AWp P n hk tk (.region id ops true) Q s := fun ro z γ a _ hh hmk => by
  refine wpIn_region_any hm ?_
  have hany := any_lex (sf := s') hdr ops.toList 0 (Array.replicate ops.size false) s (by simp) (by simp) (fun j hj => by simp at hj; simp [Array.getD, hj]) (fun k i hk _ => by
    have : (Array.replicate ops.size false).getD k false = false := by
      by_cases h : k < ops.size <;> simp [Array.getD, h]
    rw [this] at hk; cases hk) he
  have hg : Grow γ.w γ.w.drew := Grow.drew γ.w
  have hh' : Holds n { γ with w := γ.w.drew } s a := ⟨rl_grow hh.rl hg, hh.m, hh.er.mono (ext_grow hg).le, hh.size⟩
  have := wpAny_of_anyOK (ro := ro) (Q' := AQ z hk tk γ n Q) hΓ (dstOK_spec hd) _ _ _ s a hh' (fun γ' s'' a' hext hh'' hdf hq => ⟨γ', s'', rfl, ((ext_grow hg).trans hext).toN, ⟨hh'', by rw [hdf]; exact hmk.ext (((ext_grow hg).trans hext).toN (hk := 0) (tk := 0))⟩, h s'' hq⟩) hany
  simpa using this
/-- The same, of one that may stand ahead of all that are left. -/
theorem any_first2 {Q : St → Prop} (hQ : ∀ s s', Eqv s s' → Q s → Q s') {i : Nat} {oi : Oper} (hi : ops[i]? = some oi) : ∀ (fuel : Nat) (listed : Array Bool) (s s1 : St), Closed ops listed → i ∈ Region.ready .any ops listed →
    (∀ j oj, j ≠ i → listed.getD j true = false → ops[j]? = some oj → ((befs ops.toList []).getD j 0).testBit i = true ∨ (oi.apart ops oj = true ∧ cm (eff Γ mu oi.op) (eff Γ mu oj.op) = true)) →
    astep P Γ mu ops oi s = some s1 → anyOK P Γ mu ops Q fuel (listed.setIfInBounds i true) s1 → anyOK P Γ mu ops Q (fuel + 1) listed s := by
  intro fuel
  induction fuel with
  | zero =>
    intro listed s s1 hc hr hmin hs H
    refine ⟨fun h => (by rw [h] at hr; cases hr), fun j hj => ?_⟩
    by_cases hji : j = i
    · subst hji; exact ⟨oi, s1, hi, hs, H⟩
    · have := ready_mono (i := i) hj hji
      rw [H.1] at this
      cases this
  | succ fuel ih =>
    intro listed s s1 hc hr hmin hs H
    refine ⟨fun h => (by rw [h] at hr; cases hr), fun j hj => ?_⟩
    by_cases hji : j = i
    · subst hji; exact ⟨oi, s1, hi, hs, H⟩
    · obtain ⟨oj, s12, hoj, hs12, hr12⟩ := H.2 j (ready_mono hj hji)
      have hjl := (mem_ready.1 hj).1
      have hnb : ¬ ((befs ops.toList []).getD j 0).testBit i = true := fun hb => by
        have h1 := ready_closed hc hj hb
        have h0 := (mem_ready.1 hr).1
        rcases Nat.lt_or_ge i listed.size with h' | h'
        · simp [h'] at h0 h1; rw [h0] at h1; cases h1
        · simp [Array.getElem?_eq_none h'] at h1
      obtain ⟨hap, hcm⟩ := (hmin j oj hji hjl hoj).resolve_left hnb
      obtain ⟨s2, s21, k1, k2, k3⟩ := comm_step hap hcm hs hs12
      refine ⟨oj, s2, hoj, k1, ih (listed.setIfInBounds j true) s2 s21 (closed_set hc hj) (ready_mono hr (Ne.symm hji)) (fun k ok hki hun hok => hmin k ok hki ?_ hok) k2 ?_⟩
      · by_cases hjk : j = k
        · subst hjk; exact hjl
        · rw [getD_set_ne true hjk] at hun; exact hun
      · rw [Array.setIfInBounds_comm _ _ hji]
        exact anyOK_congr hQ fuel _ _ _ k3 hr12
end
def OT.depth : OT → Nat
  | .done => 0
  | .step _ t => t.depth + 1
  | .fork _ _ a b => max a.depth b.depth + 1
/-- May these orders stand for all? -/
def otOK (Γ : Gam) (mu : Bool) (ops : Array Oper) : OT → Array Bool → Bool
  | .done, listed => (Region.ready .any ops listed).isEmpty
  | .step i t, listed => (Region.ready .any ops listed).contains i && (List.range ops.size).all (fun j => j == i || listed.getD j true || ((befs ops.toList []).getD j 0).testBit i ||
      (match ops[i]?, ops[j]? with | some oi, some oj => oi.apart ops oj && cm (eff Γ mu oi.op) (eff Γ mu oj.op) | _, _ => false)) && otOK Γ mu ops t (listed.setIfInBounds i true)
  | .fork i j a b, listed => (Region.ready .any ops listed).all (fun k => k == i || k == j) && (Region.ready .any ops listed).contains i && otOK Γ mu ops a (listed.setIfInBounds i true) && otOK Γ mu ops b (listed.setIfInBounds j true)
/-- The orders, each walked. -/
def otW (P : Program) (Γ : Gam) (mu : Bool) (ops : Array Oper) (Q : St → Prop) : OT → St → Prop
  | .done, s => Q s
  | .step i t, s => ∃ o s', ops[i]? = some o ∧ astep P Γ mu ops o s = some s' ∧ otW P Γ mu ops Q t s'
  | .fork i j a b, s => (∃ o s', ops[i]? = some o ∧ astep P Γ mu ops o s = some s' ∧ otW P Γ mu ops Q a s') ∧ ∃ o s', ops[j]? = some o ∧ astep P Γ mu ops o s = some s' ∧ otW P Γ mu ops Q b s'
section
variable {P : Program} {Γ : Gam} {mu : Bool} {ops : Array Oper}
theorem otW_any {Q : St → Prop} (hQ : ∀ s s', Eqv s s' → Q s → Q s') : ∀ (t : OT) (listed : Array Bool) (s : St) (fuel : Nat), otOK Γ mu ops t listed = true → Closed ops listed → t.depth ≤ fuel → otW P Γ mu ops Q t s → anyOK P Γ mu ops Q fuel listed s := by
  intro t
  induction t with
  | done =>
    intro listed s fuel ho hc hf hw
    simp only [otOK, List.isEmpty_iff] at ho
    cases fuel with
    | zero => exact ⟨ho, hw⟩
    | succ k => exact ⟨fun _ => hw, fun i hi => by rw [ho] at hi; cases hi⟩
  | step i t ih =>
    intro listed s fuel ho hc hf hw
    simp only [otOK, Bool.and_eq_true, List.contains_iff_mem, List.all_eq_true] at ho
    obtain ⟨⟨hr, hall⟩, ht⟩ := ho
    obtain ⟨o, s', h1, h2, h3⟩ := hw
    cases fuel with
    | zero => simp [OT.depth] at hf
    | succ k =>
      refine any_first2 hQ h1 k listed s s' hc hr (fun j oj hji hun hoj => ?_) h2 (ih _ s' k ht (closed_set hc hr) (by simpa [OT.depth] using hf) h3)
      have hj : j < ops.size := by
        rcases Nat.lt_or_ge j ops.size with h | h
        · exact h
        · rw [Array.getElem?_eq_none h] at hoj; cases hoj
      have := hall j (List.mem_range.2 hj)
      rw [h1, hoj, hun] at this
      simp only [Bool.or_eq_true, beq_iff_eq, Bool.and_eq_true, Bool.false_eq_true, or_false] at this
      rcases this with (h | h) | h
      · exact absurd h hji
      · exact .inl h
      · exact .inr h
  | fork i j a b iha ihb =>
    intro listed s fuel ho hc hf hw
    simp only [otOK, Bool.and_eq_true, List.contains_iff_mem, List.all_eq_true, Bool.or_eq_true, beq_iff_eq] at ho
    obtain ⟨⟨⟨hall, hr⟩, ha⟩, hb⟩ := ho
    obtain ⟨⟨o, s', h1, h2, h3⟩, o', s'', k1, k2, k3⟩ := hw
    cases fuel with
    | zero => simp [OT.depth] at hf
    | succ k =>
      have hfa : a.depth ≤ k ∧ b.depth ≤ k := by simp only [OT.depth] at hf; omega
      refine ⟨fun h => (by rw [h] at hr; cases hr), fun x hx => ?_⟩
      by_cases hxi : x = i
      · subst hxi
        exact ⟨o, s', h1, h2, iha _ s' k ha (closed_set hc hx) hfa.1 h3⟩
      · have hxj : x = j := (hall x hx).resolve_left hxi
        subst hxj
        exact ⟨o', s'', k1, k2, ihb _ s'' k hb (closed_set hc hx) hfa.2 k3⟩
theorem AWp.orders (hΓ : Sound P Γ) (hm : P.follows .mixedOrders = true) {n hk tk id : Nat} {Q : Exit → St → Prop} {s : St} {t : OT} (hd : dstOK n ops.toList = true) (ho : otOK Γ mu ops t (Array.replicate ops.size false) = true) (hdp : t.depth ≤ ops.size)
    (h : otW P Γ mu ops (fun s' => ∃ s1, Eqv s1 s' ∧ Q .normal s1) t s) : AWp P n hk tk (.region id ops true) (fun e s'' => ∃ s1, Eqv s1 s'' ∧ Q e s1) s := fun ro z γ a _ hh hmk => by
  refine wpIn_region_any hm ?_
  have hany := otW_any (fun s s' he hq => by obtain ⟨s1, e1, q1⟩ := hq; exact ⟨s1, e1.trans he, q1⟩) t (Array.replicate ops.size false) s ops.size ho (fun k i hk _ => by
    have : (Array.replicate ops.size false).getD k false = false := by
      by_cases h : k < ops.size <;> simp [Array.getD, h]
    rw [this] at hk; cases hk) hdp h
  have hg : Grow γ.w γ.w.drew := Grow.drew γ.w
  have hh' : Holds n { γ with w := γ.w.drew } s a := ⟨rl_grow hh.rl hg, hh.m, hh.er.mono (ext_grow hg).le, hh.size⟩
  exact wpAny_of_anyOK (ro := ro) (Q' := AQ z hk tk γ n fun e s'' => ∃ s1, Eqv s1 s'' ∧ Q e s1) hΓ (dstOK_spec hd) _ _ _ s a hh' (fun γ' s'' a' hext hh'' hdf hq => ⟨γ', s'', rfl, ((ext_grow hg).trans hext).toN, ⟨hh'', by rw [hdf]; exact hmk.ext (((ext_grow hg).trans hext).toN (hk := 0) (tk := 0))⟩, hq⟩) hany
end

end Go.Hk
