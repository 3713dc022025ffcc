/- What a piece of code must be asked, so that behind it something holds: with loops. -/
import Derived.Test.YtojahfdjfacgaaaHkQ19
set_option linter.unusedSimpArgs false
namespace Go.Hk

def regW (r : Option St) (Q : Exit → St → Prop) : Prop :=
  match r with
  | some s => Q .normal s
  | none => False

/-- The temporaries that a piece of code writes. -/
def mods : Code → List Nat
  | .region _ ops _ => ops.toList.filterMap (·.dst)
  | .seq a b => mods a ++ mods b
  | .cond _ a b => mods a ++ mods b
  | .block _ a => mods a
  | .loop a => mods a
  | _ => []

/-- Less is known of some temporaries, and what nobody names is let go. -/
structure Wk (hk tk : Nat) (ms : List Nat) (s0 s : St) : Prop where
  wm : Wm s0 s
  keep : ∀ t, t ∉ ms → lk s0.env t = lk s.env t
  hk : hk ≤ s0.m.H.length
  tk : tk ≤ s0.m.T.length

def W0 (P : Program) (Γ : Gam) (mu : Bool) (hk tk : Nat) : Code → (Exit → St → Prop) → St → Prop
  | .skip, Q, s => Q .normal s
  | .ret, Q, s => Q .ret s
  | .exit i, Q, s => Q (.exit i) s
  | .label _, Q, s => Q .normal s
  | .seq a b, Q, s => W0 P Γ mu hk tk a (seqQ (W0 P Γ mu hk tk b Q) Q) s
  | .block id a, Q, s => W0 P Γ mu hk tk a (blockQ id Q) s
  | .cond c a b, Q, s => (match ev s.env c with
    | .bool t => if t = true then W0 P Γ mu hk tk a Q s else W0 P Γ mu hk tk b Q s
    | _ => False)
  | .region id ops _, Q, s => if Γ.nx id = true then (match isNext ops.toList with
    | some (dst, it, rest) => nextW P Γ mu ops dst it rest Q s
    | none => False) else (match Γ.ex id with | some t => otW P Γ mu ops (Q .normal) t s | none => regW (aops P Γ mu ops ops.toList s) Q)
  | .loop c, Q, s => ∃ (I : Nat → St → Prop) (k : Nat), I k s ∧ ∀ k s, I k s → ∃ s0, Wk hk tk (mods c) s0 s ∧ W0 P Γ mu hk tk c (seqQ (fun s' => ∃ k', k' < k ∧ I k' s') Q) s0
  | .rangeFunc g ps asg body, Q, s => ∃ f first caps r m2 st pend, ev s.env g = .fn f first caps ∧
    RCall P f (first ++ [.yld s.m.H.length] ++ caps) ⟨s.m.H ++ [.loop .ready none ps asg body s.env Γ.nt], s.m.T⟩ r m2 ∧
    m2.H[s.m.H.length]? = some (.loop st pend ps asg body s.env Γ.nt) ∧ st ≠ .busy ∧
    pendQ Q pend ⟨s.env, { m2 with H := m2.H.set s.m.H.length (.loop .exhausted pend ps asg body s.env Γ.nt) }⟩
  | _, _, _ => False

theorem nextW.mono {P : Program} {Γ : Gam} {mu : Bool} {ops : Array Oper} {dst : Option Nat} {it : Operand} {rest : List Oper} {Q Q' : Exit → St → Prop} {s : St} (hq : ∀ s', Q .normal s' → Q' .normal s') (h : nextW P Γ mu ops dst it rest Q s) : nextW P Γ mu ops dst it rest Q' s := by
  obtain ⟨b, mb, left, cur, e1, e2, e3, e4⟩ := h
  exact ⟨b, mb, left, cur, e1, e2, fun h0 => let ⟨s', h1, h2⟩ := e3 h0; ⟨s', h1, hq _ h2⟩, fun i hi => let ⟨s', h1, h2⟩ := e4 i hi; ⟨s', h1, hq _ h2⟩⟩
theorem otW_mono {P : Program} {Γ : Gam} {mu : Bool} {ops : Array Oper} {Q Q' : St → Prop} (hq : ∀ s, Q s → Q' s) : ∀ (t : OT) (s : St), otW P Γ mu ops Q t s → otW P Γ mu ops Q' t s
  | .done, _, h => hq _ h
  | .step _ t, _, h => by
    obtain ⟨o, s', h1, h2, h3⟩ := h
    exact ⟨o, s', h1, h2, otW_mono hq t s' h3⟩
  | .fork _ _ a b, _, h => by
    obtain ⟨⟨o, s', h1, h2, h3⟩, o', s'', k1, k2, k3⟩ := h
    exact ⟨⟨o, s', h1, h2, otW_mono hq a s' h3⟩, o', s'', k1, k2, otW_mono hq b s'' k3⟩
theorem W0.mono {P : Program} {Γ : Gam} {mu : Bool} {hk tk : Nat} : ∀ {c : Code} {Q Q' : Exit → St → Prop} {s : St}, W0 P Γ mu hk tk c Q s → (∀ e s, Q e s → Q' e s) → W0 P Γ mu hk tk c Q' s := by
  intro c
  induction c with
  | skip => exact fun h hq => hq _ _ h
  | ret => exact fun h hq => hq _ _ h
  | exit i => exact fun h hq => hq _ _ h
  | label i => exact fun h hq => hq _ _ h
  | seq a b iha ihb =>
    intro Q Q' s h hq
    refine iha (Q := seqQ (W0 P Γ mu hk tk b Q) Q) h fun e s' h' => ?_
    cases e <;> first | exact hq _ _ h' | exact ihb h' hq
  | block id a iha =>
    intro Q Q' s h hq
    refine iha (Q := blockQ id Q) h fun e s' h' => ?_
    cases e <;> simp only [blockQ] at h' ⊢ <;> first | exact hq _ _ h' | (split at h' <;> rename_i hi <;> simp only [hi, if_true, if_false] <;> exact hq _ _ h')
  | cond c a b iha ihb =>
    intro Q Q' s h hq
    simp only [W0] at h ⊢
    split at h
    · rename_i t ht
      cases t
      · exact ihb h hq
      · exact iha h hq
    · exact h.elim
  | rangeFunc g ps asg body =>
    intro Q Q' s h hq
    obtain ⟨f, first, caps, r, m2, st, pend, h1, h2, h3, h4, h5⟩ := h
    exact ⟨f, first, caps, r, m2, st, pend, h1, h2, h3, h4, h5.mono hq⟩
  | region id ops d =>
    intro Q Q' s h hq
    simp only [W0] at h ⊢
    split at h
    · rename_i hnx
      rw [if_pos hnx]
      split at h
      · rename_i he
        exact nextW.mono (fun s' => hq _ s') h
      · exact h.elim
    rename_i hnx
    rw [if_neg hnx]
    cases hx : Γ.ex id with
    | some t => rw [hx] at h; exact otW_mono (fun s => hq _ s) t s h
    | none =>
      rw [hx] at h
      simp only [regW] at h ⊢
      split at h
      · exact hq _ _ h
      · exact h.elim
  | loop c ih =>
    intro Q Q' s h hq
    obtain ⟨I, k, hI, hr⟩ := h
    refine ⟨I, k, hI, fun k s hk => ?_⟩
    obtain ⟨s0, hw, hc⟩ := hr k s hk
    refine ⟨s0, hw, ih hc fun e s' h' => ?_⟩
    cases e <;> first | exact hq _ _ h' | exact h'
  | _ => exact fun h => h.elim

theorem aops_keep {P : Program} {Γ : Gam} {mu : Bool} {ops : Array Oper} : ∀ (l : List Oper) (s s' : St), aops P Γ mu ops l s = some s' → ∀ t, t ∉ l.filterMap (·.dst) → lk s'.env t = lk s.env t
  | [], s, s', h, t, _ => by simp only [aops, Option.some.injEq] at h; rw [h]
  | o :: l, s, s', h, t, ht => by
    simp only [aops, Option.bind_eq_some_iff] at h
    obtain ⟨s1, h1, h2⟩ := h
    have hl : t ∉ l.filterMap (·.dst) := fun hm => ht (by
      rw [List.filterMap_cons]; cases o.dst <;> simp [hm])
    rw [aops_keep l s1 s' h2 t hl]
    rw [astep_eq] at h1
    simp only [Option.map_eq_some_iff] at h1
    obtain ⟨p, _, rfl⟩ := h1
    rw [lk_put]
    split
    · rename_i hd
      exact absurd (by rw [List.filterMap_cons, hd]; simp) ht
    · rfl

theorem astep_keep {P : Program} {Γ : Gam} {mu : Bool} {ops : Array Oper} {o : Oper} {s s' : St} (h : astep P Γ mu ops o s = some s') {t : Nat} (ht : o.dst ≠ some t) : lk s'.env t = lk s.env t := by
  rw [astep_eq] at h
  simp only [Option.map_eq_some_iff] at h
  obtain ⟨p, _, rfl⟩ := h
  rw [lk_put, if_neg ht]
theorem otW_keep {P : Program} {Γ : Gam} {mu : Bool} {ops : Array Oper} {Q : St → Prop} : ∀ (t : OT) (s : St), otW P Γ mu ops Q t s → otW P Γ mu ops (fun s' => Q s' ∧ ∀ t, t ∉ ops.toList.filterMap (·.dst) → lk s'.env t = lk s.env t) t s := by
  have key : ∀ {i : Nat} {o : Oper} {s s' : St} {t : Nat}, ops[i]? = some o → astep P Γ mu ops o s = some s' → t ∉ ops.toList.filterMap (·.dst) → lk s'.env t = lk s.env t := fun {i o s s' t} h1 h2 ht =>
    astep_keep h2 fun hd => ht (List.mem_filterMap.2 ⟨o, by
      have := Array.mem_of_getElem? h1
      exact Array.mem_toList_iff.2 this, hd⟩)
  intro t
  induction t with
  | done => exact fun s h => ⟨h, fun _ _ => rfl⟩
  | step i t ih =>
    rintro s ⟨o, s', h1, h2, h3⟩
    exact ⟨o, s', h1, h2, otW_mono (fun s'' h => ⟨h.1, fun t ht => by rw [h.2 t ht, key h1 h2 ht]⟩) t s' (ih s' h3)⟩
  | fork i j a b iha ihb =>
    rintro s ⟨⟨o, s', h1, h2, h3⟩, o', s'', k1, k2, k3⟩
    exact ⟨⟨o, s', h1, h2, otW_mono (fun s'' h => ⟨h.1, fun t ht => by rw [h.2 t ht, key h1 h2 ht]⟩) a s' (iha s' h3)⟩, o', s'', k1, k2, otW_mono (fun s'' h => ⟨h.1, fun t ht => by rw [h.2 t ht, key k1 k2 ht]⟩) b s'' (ihb s'' k3)⟩
/-- What a piece of code does not write stays. -/
theorem W0.frame {P : Program} {Γ : Gam} {mu : Bool} {hk tk : Nat} : ∀ {c : Code} {Q : Exit → St → Prop} {s : St}, W0 P Γ mu hk tk c Q s → W0 P Γ mu hk tk c (fun e s' => Q e s' ∧ ∀ t, t ∉ mods c → lk s'.env t = lk s.env t) s := by
  intro c
  induction c with
  | skip => exact fun h => ⟨h, fun _ _ => rfl⟩
  | ret => exact fun h => ⟨h, fun _ _ => rfl⟩
  | exit i => exact fun h => ⟨h, fun _ _ => rfl⟩
  | label i => exact fun h => ⟨h, fun _ _ => rfl⟩
  | seq a b iha ihb =>
    intro Q s h
    show W0 P Γ mu hk tk a (seqQ (W0 P Γ mu hk tk b (fun e s' => Q e s' ∧ ∀ t, t ∉ mods (.seq a b) → lk s'.env t = lk s.env t)) (fun e s' => Q e s' ∧ ∀ t, t ∉ mods (.seq a b) → lk s'.env t = lk s.env t)) s
    refine W0.mono (iha (Q := seqQ (W0 P Γ mu hk tk b Q) Q) h) fun e s' h' => ?_
    obtain ⟨h', hf⟩ := h'
    cases e
    case normal =>
      refine W0.mono (ihb (Q := Q) h') fun e s'' h'' => ⟨h''.1, fun t ht => ?_⟩
      simp only [mods, List.mem_append, not_or] at ht
      rw [h''.2 t ht.2, hf t ht.1]
    all_goals
      refine ⟨h', fun t ht => ?_⟩
      simp only [mods, List.mem_append, not_or] at ht
      exact hf t ht.1
  | block id a iha =>
    intro Q s h
    show W0 P Γ mu hk tk a (blockQ id (fun e s' => Q e s' ∧ ∀ t, t ∉ mods (.block id a) → lk s'.env t = lk s.env t)) s
    refine W0.mono (iha (Q := blockQ id Q) h) fun e s' h' => ?_
    obtain ⟨h', hf⟩ := h'
    cases e <;> simp only [blockQ] at h' ⊢ <;> first | exact ⟨h', hf⟩ | (split at h' <;> rename_i hi <;> simp only [hi, if_true, if_false] <;> exact ⟨h', hf⟩)
  | cond c a b iha ihb =>
    intro Q s h
    simp only [W0] at h ⊢
    split at h
    · rename_i t ht
      cases t
      · exact W0.mono (ihb h) fun e s' h' => ⟨h'.1, fun t ht => h'.2 t fun hm => ht (by simp [mods, hm])⟩
      · exact W0.mono (iha h) fun e s' h' => ⟨h'.1, fun t ht => h'.2 t fun hm => ht (by simp [mods, hm])⟩
    · exact h.elim
  | rangeFunc g ps asg body =>
    intro Q s h
    obtain ⟨f, first, caps, r, m2, st, pend, h1, h2, h3, h4, h5⟩ := h
    refine ⟨f, first, caps, r, m2, st, pend, h1, h2, h3, h4, ?_⟩
    unfold pendQ at h5 ⊢
    split at h5 <;> first | exact ⟨h5, fun _ _ => rfl⟩ | exact h5.elim
  | region id ops d =>
    intro Q s h
    simp only [W0] at h ⊢
    split at h
    · rename_i hnx
      rw [if_pos hnx]
      split at h
      · rename_i dst it rest he
        unfold isNext at he
        split at he
        case h_2 => cases he
        rename_i d0 i0 ty pos af rest0 hops
        cases he
        obtain ⟨b, mb, left, cur, e1, e2, e3, e4⟩ := h
        have key : ∀ v s' m1, aops P Γ mu ops rest ⟨put s.env dst v, m1⟩ = some s' → ∀ t, t ∉ mods (.region id ops d) → lk s'.env t = lk s.env t := fun v s' m1 hs t ht => by
          simp only [mods, hops, List.filterMap_cons] at ht
          have ht2 : t ∉ rest.filterMap (·.dst) := fun hm => ht (by cases dst <;> simp [hm])
          rw [aops_keep rest _ s' hs t ht2, lk_put]
          split
          · rename_i hd
            exact absurd (by rw [hd]; simp) ht
          · rfl
        exact ⟨b, mb, left, cur, e1, e2, fun h0 => let ⟨s', h1, h2⟩ := e3 h0; ⟨s', h1, h2, key _ s' _ h1⟩, fun i hi => let ⟨s', h1, h2⟩ := e4 i hi; ⟨s', h1, h2, key _ s' _ h1⟩⟩
      · exact h.elim
    rename_i hnx
    rw [if_neg hnx]
    cases hx : Γ.ex id with
    | some t =>
      rw [hx] at h
      exact otW_mono (fun s' h' => ⟨h'.1, h'.2⟩) t s (otW_keep t s h)
    | none =>
      rw [hx] at h
      simp only [regW] at h ⊢
      cases hs : aops P Γ mu ops ops.toList s with
      | none => rw [hs] at h; exact h.elim
      | some s' => rw [hs] at h; exact ⟨h, fun t ht => aops_keep _ _ _ hs t ht⟩
  | loop c ih =>
    intro Q s h
    obtain ⟨I, k, hI, hr⟩ := h
    refine ⟨fun k s' => I k s' ∧ ∀ t, t ∉ mods c → lk s'.env t = lk s.env t, k, ⟨hI, fun _ _ => rfl⟩, fun k s' hk => ?_⟩
    obtain ⟨s0, hw, hc⟩ := hr k s' hk.1
    refine ⟨s0, hw, W0.mono (ih hc) fun e s'' h' => ?_⟩
    obtain ⟨h', hf⟩ := h'
    have hfr : ∀ t, t ∉ mods c → lk s''.env t = lk s.env t := fun t ht => by rw [hf t ht, hw.keep t ht, hk.2 t ht]
    cases e
    case normal =>
      obtain ⟨k', h1, h2⟩ := h'
      exact ⟨k', h1, h2, hfr⟩
    all_goals exact ⟨h', fun t ht => hfr t (by simpa [mods] using ht)⟩
  | _ => exact fun h => h.elim

theorem AWp.weaken {P : Program} {n hk tk : Nat} {c : Code} {Q : Exit → St → Prop} {ms : List Nat} {s0 s : St} (hw : Wk hk tk ms s0 s) (h : AWp P n hk tk c Q s0) : AWp P n hk tk c Q s := fun ro z γ a hro hh hmk => by
  obtain ⟨γ', hγ, hext, hh'⟩ := hh.less hw.wm hw.hk hw.tk
  rw [← hγ]
  exact wpIn_mono (h ro z γ' a hro hh' (hmk.ext hext)) fun _ _ _ k => AQ.trans hext k

/-- The same, ars something that no evaluation unfolds. -/
structure W (P : Program) (Γ : Gam) (mu : Bool) (hk tk : Nat) (c : Code) (Q : Exit → St → Prop) (s : St) : Prop where
  out : W0 P Γ mu hk tk c Q s
theorem W_eq {P : Program} {Γ : Gam} {mu : Bool} {hk tk : Nat} {c : Code} {Q : Exit → St → Prop} : W P Γ mu hk tk c Q = W0 P Γ mu hk tk c Q := by
  funext s
  exact propext ⟨fun h => h.out, fun h => ⟨h⟩⟩

section
variable {P : Program} {Γ : Gam} {mu : Bool} {n hk tk : Nat}
theorem W_loop {a : Code} {Q : Exit → St → Prop} {s : St} : W P Γ mu hk tk (.loop a) Q s = ∃ (I : Nat → St → Prop) (k : Nat), I k s ∧ ∀ k s, I k s → ∃ s0, Wk hk tk (mods a) s0 s ∧ W P Γ mu hk tk a (seqQ (fun s' => ∃ k', k' < k ∧ I k' s') Q) s0 := by
  simp only [W_eq, W0]
theorem W.frame {c : Code} {Q : Exit → St → Prop} {s : St} (h : W P Γ mu hk tk c Q s) : W P Γ mu hk tk c (fun e s' => Q e s' ∧ ∀ t, t ∉ mods c → lk s'.env t = lk s.env t) s := ⟨W0.frame h.out⟩
theorem W.mono {c : Code} {Q Q' : Exit → St → Prop} {s : St} (h : W P Γ mu hk tk c Q s) (hq : ∀ e s, Q e s → Q' e s) : W P Γ mu hk tk c Q' s := ⟨W0.mono h.out hq⟩

theorem AWp.w0 (hΓ : Sound P Γ) (hm : P.follows .mixedOrders = true) : ∀ (c : Code) (Q : Exit → St → Prop) (s : St), codeOKx Γ mu n c = true → W0 P Γ mu hk tk c Q s → AWp P n hk tk c Q s := by
  intro c
  induction c with
  | skip => exact fun Q s _ h => AWp.skip h
  | ret => exact fun Q s _ h => AWp.ret h
  | exit i => exact fun Q s _ h => AWp.exit h
  | label i => exact fun Q s _ h => AWp.label h
  | seq a b iha ihb =>
    intro Q s ho h
    simp only [codeOKx, Bool.and_eq_true] at ho
    refine AWp.seq (AWp.mono (iha _ _ ho.1 h) fun e s' hq => ?_)
    cases e <;> first | exact hq | exact ihb _ _ ho.2 hq
  | block id a iha => exact fun Q s ho h => AWp.block (iha _ _ ho h)
  | cond c a b iha ihb =>
    intro Q s ho h
    simp only [codeOKx, Bool.and_eq_true] at ho
    simp only [W0] at h
    split at h
    · rename_i t ht
      refine AWp.cond ht ?_
      cases t
      · exact ihb _ _ ho.2 h
      · exact iha _ _ ho.1 h
    · exact h.elim
  | rangeFunc g ps asg body =>
    intro Q s ho h
    simp only [codeOKx, decide_eq_true_eq] at ho
    obtain ⟨f, first, caps, r, m2, st, pend, h1, h2, h3, h4, h5⟩ := h
    subst ho
    exact awp_rangeFunc h1 h2 h3 h4 h5
  | region id ops d =>
    intro Q s ho h
    simp only [codeOKx, Bool.and_eq_true] at ho
    simp only [W0] at h
    obtain ⟨hdo, ho⟩ := ho
    split at h
    · rename_i hnx
      rw [if_pos hnx] at ho
      simp only [Bool.and_eq_true, Bool.not_eq_true'] at ho
      obtain ⟨rfl, _⟩ := ho
      split at h
      · rename_i dst it rest he
        exact awp_next hΓ hdo he h
      · exact h.elim
    rename_i hnx
    rw [if_neg hnx] at ho
    cases hx : Γ.ex id with
    | some t =>
      rw [hx] at h ho
      simp only [Bool.and_eq_true, decide_eq_true_eq] at ho
      obtain ⟨⟨rfl, ho⟩, hdp⟩ := ho
      rw [List.toArray_replicate] at ho
      intro ro z γ a hro hh hmk
      refine wpIn_mono (AWp.orders (hk := hk) (tk := tk) (Q := Q) hΓ hm hdo ho hdp (otW_mono (fun s' h' => ⟨s', Eqv.refl s', h'⟩) t s h) ro z γ a (fun h => by cases h) hh hmk) fun e a' w' hq => ?_
      obtain ⟨γ', s'', rfl, k2, k3, s1, k4, k5⟩ := hq
      exact ⟨γ', s1, rfl, k2, ⟨k3.1.eqv k4.symm, k3.2⟩, k5⟩
    | none =>
      rw [hx] at h ho
      simp only [regW] at h
      split at h
      · rename_i s' hs
        exact AWp.reg hΓ hm hdo ho hs h
      · exact h.elim
  | loop c ih =>
    intro Q s ho h
    obtain ⟨I, k, hI, hr⟩ := h
    refine AWp.loop I (fun k s hk => ?_) hI
    obtain ⟨s0, hw, hc⟩ := hr k s hk
    exact AWp.weaken hw (ih _ _ ho hc)
  | _ => exact fun Q s _ h => h.elim

theorem AWp.w (hΓ : Sound P Γ) (hm : P.follows .mixedOrders = true) (c : Code) (Q : Exit → St → Prop) (s : St) (hok : codeOKx Γ mu n c = true) (h : W P Γ mu hk tk c Q s) : AWp P n hk tk c Q s := AWp.w0 hΓ hm c Q s hok h.out

/-- The entry of a function. -/
theorem PCall.of_w {f : FuncId} {fn : Func} {c : Code} {args : List AVal} {r : AVal} (hΓ : Sound P Γ) (hm : P.follows .mixedOrders = true) (hf : P.funcs[f]? = some fn) (hb : fn.body = some c) (hen : enterable P f = true) (hn : args.length ≤ fn.ntmps) (hok : codeOKx Γ mu fn.ntmps c = true)
    (h : W P Γ mu 0 0 c (FnQ P fn.results.toList fun r0 s => view 8 s.m r0 = some r) ⟨envFrom 0 args, ⟨[], []⟩⟩) : PCall P f args r :=
  PCall.of_body hf hb hen hn (AWp.w hΓ hm c _ _ hok h)

/-- The entry of a function that writes what its caller may write. -/
theorem RCall.of_w {f : FuncId} {fn : Func} {c : Code} {args : List AVal} {r : AVal} {m m' : AMem} (hH : m.H.length ≤ m'.H.length) (hT : m.T.length ≤ m'.T.length) (hΓ : Sound P Γ) (hm : P.follows .mixedOrders = true) (hf : P.funcs[f]? = some fn) (hb : fn.body = some c) (hen : enterable P f = true) (hn : args.length ≤ fn.ntmps) (hok : codeOKx Γ mu fn.ntmps c = true)
    (h : W P Γ mu m.H.length m.T.length c (FnQ P fn.results.toList fun r0 s => r0 = r ∧ Left r m' s.m) ⟨envFrom 0 args, m⟩) : RCall P f args m r m' :=
  RCall.of_body hf hb hen hn hH hT (AWp.w hΓ hm c _ _ hok h)
theorem RCall.of_ws {f : FuncId} {fn : Func} {c : Code} {args : List AVal} {r : AVal} {m m' : AMem} (hH : m.H.length ≤ m'.H.length) (hT : m.T.length ≤ m'.T.length) (hΓ : Sound P Γ) (hm : P.follows .mixedOrders = true) (hf : P.funcs[f]? = some fn) (hb : fn.body = some c) (hen : enterable P f = true) (hn : args.length ≤ fn.ntmps) (hok : codeOKx Γ mu fn.ntmps c = true)
    (h : W P Γ mu m.H.length m.T.length c (FnQ P fn.results.toList fun r0 s => strip r0 = some r ∧ LeftM m' s.m) ⟨envFrom 0 args, m⟩) : RCall P f args m r m' :=
  RCall.of_body_s hf hb hen hn hH hT (AWp.w hΓ hm c _ _ hok h)

/-! ### Rules -/

variable {a b : Code} {Q R : Exit → St → Prop} {s : St} {k : St → Prop} {e : List (Nat × AVal)} {m : AMem} {c : Prop} [Decidable c] {l : List Oper}

theorem e_w_seq : W P Γ mu hk tk (.seq a b) Q ⟨e, m⟩ = W P Γ mu hk tk a (seqQ (W P Γ mu hk tk b Q) Q) ⟨e, m⟩ := by simp only [W_eq, W0]
theorem e_w_block {id : Nat} : W P Γ mu hk tk (.block id a) Q ⟨e, m⟩ = W P Γ mu hk tk a (blockQ id Q) ⟨e, m⟩ := by simp only [W_eq, W0]
theorem e_w_skip : W P Γ mu hk tk .skip Q ⟨e, m⟩ = Q .normal ⟨e, m⟩ := by simp only [W_eq, W0]
theorem e_w_ret : W P Γ mu hk tk .ret Q ⟨e, m⟩ = Q .ret ⟨e, m⟩ := by simp only [W_eq, W0]
theorem e_w_exit {i : Nat} : W P Γ mu hk tk (.exit i) Q ⟨e, m⟩ = Q (.exit i) ⟨e, m⟩ := by simp only [W_eq, W0]
theorem e_w_label {i : Nat} : W P Γ mu hk tk (.label i) Q ⟨e, m⟩ = Q .normal ⟨e, m⟩ := by simp only [W_eq, W0]
def condW (P : Program) (Γ : Gam) (mu : Bool) (hk tk : Nat) (v : AVal) (a b : Code) (Q : Exit → St → Prop) (s : St) : Prop :=
  match v with
  | .bool t => if t = true then W P Γ mu hk tk a Q s else W P Γ mu hk tk b Q s
  | _ => False
theorem e_w_cond {x : Operand} : W P Γ mu hk tk (.cond x a b) Q ⟨e, m⟩ = condW P Γ mu hk tk (ev e x) a b Q ⟨e, m⟩ := by simp only [W_eq, W0, condW]
theorem e_w_true : condW P Γ mu hk tk (.bool true) a b Q s = W P Γ mu hk tk a Q s := nr rfl
theorem e_w_false : condW P Γ mu hk tk (.bool false) a b Q s = W P Γ mu hk tk b Q s := nr rfl
theorem e_w_bool {t : Bool} : condW P Γ mu hk tk (.bool t) a b Q s = if t = true then W P Γ mu hk tk a Q s else W P Γ mu hk tk b Q s := nr rfl
theorem e_w_region0 {id : Nat} (hx : Γ.ex id = none) (hn : Γ.nx id = false) {d : Bool} : W P Γ mu hk tk (.region id l.toArray d) Q ⟨e, m⟩ = regW (opsO P Γ mu (prep l l) (some ⟨e, m⟩)) Q := by
  simp only [W_eq, W0, hx, hn, Bool.false_eq_true, if_false]
  rw [← aops_opsO]
theorem e_w_region {L : List (FuncId × Con)} {id : Nat} {d : Bool} : W P (gam L) mu hk tk (.region id l.toArray d) Q ⟨e, m⟩ = regW (opsO P (gam L) mu (prep l l) (some ⟨e, m⟩)) Q := e_w_region0 rfl rfl
theorem e_w_regionx {k : Nat} {t : OT} {L : List (FuncId × Con)} {id : Nat} {d : Bool} (h : ¬ id = k) : W P (gamx [(k, t)] L) mu hk tk (.region id l.toArray d) Q ⟨e, m⟩ = regW (opsO P (gamx [(k, t)] L) mu (prep l l) (some ⟨e, m⟩)) Q := e_w_region0 (by
  have : (k == id) = false := beq_eq_false_iff_ne.2 fun h' => h h'.symm
  simp only [gamx, List.find?, this]; rfl) rfl
theorem e_w_regiong0 {dy : Bool} {yl : Nat → List AVal → AMem → Option (AVal × AMem)} {n : Nat} {L : List (FuncId × Con)} {id : Nat} {d : Bool} : W P (gamg [] dy yl n L) mu hk tk (.region id l.toArray d) Q ⟨e, m⟩ = regW (opsO P (gamg [] dy yl n L) mu (prep l l) (some ⟨e, m⟩)) Q := e_w_region0 rfl rfl
theorem e_w_regiong {k : Nat} {dy : Bool} {yl : Nat → List AVal → AMem → Option (AVal × AMem)} {n : Nat} {L : List (FuncId × Con)} {id : Nat} {d : Bool} (h : ¬ id = k) : W P (gamg [k] dy yl n L) mu hk tk (.region id l.toArray d) Q ⟨e, m⟩ = regW (opsO P (gamg [k] dy yl n L) mu (prep l l) (some ⟨e, m⟩)) Q := e_w_region0 rfl (by simp [gamg, h])
/-- All orders that a region is to be walked in. -/
def orders : OT → List (List Nat)
  | .done => [[]]
  | .step i t => (orders t).map (i :: ·)
  | .fork i j a b => (orders a).map (i :: ·) ++ (orders b).map (j :: ·)
theorem e_regW : regW (some s) Q = Q .normal s := nr rfl
theorem e_regW_ite {x y : Option St} : regW (if c then x else y) Q = if c then regW x Q else regW y Q := by split <;> rfl
/-! Truths that are not known: the walk parts. -/
theorem w_cond_cases {t : Bool} (h1 : t = true → W P Γ mu hk tk a Q s) (h2 : t = false → W P Γ mu hk tk b Q s) : condW P Γ mu hk tk (.bool t) a b Q s := by
  cases t
  · exact h2 rfl
  · exact h1 rfl
theorem w_go_cases {t : Bool} {o : GOp} {g : List GOp} (h1 : t = true → regW (opsO P Γ mu g (goO P Γ mu (some true) o s)) Q) (h2 : t = false → regW (opsO P Γ mu g (goO P Γ mu (some false) o s)) Q) : regW (opsO P Γ mu g (goO P Γ mu (some t) o s)) Q := by
  cases t
  · exact h2 rfl
  · exact h1 rfl
theorem w_pick_cases {t : Bool} {g : List GOp} {x y : AVal} {d : Option Nat} (h1 : t = true → regW (opsO P Γ mu g (finO (some (x, m)) e d)) Q) (h2 : t = false → regW (opsO P Γ mu g (finO (some (y, m)) e d)) Q) : regW (opsO P Γ mu g (finO (pickO (.bool t) x y m) e d)) Q := by
  cases t
  · exact h2 rfl
  · exact h1 rfl
theorem e_q_seq : seqQ k Q .normal s = k s := nr rfl
theorem e_q_seq_ret : seqQ k Q .ret s = Q .ret s := nr rfl
theorem e_q_seq_exit {i : Nat} : seqQ k Q (.exit i) s = Q (.exit i) s := nr rfl
theorem e_q_block {i : Nat} : blockQ i Q .normal s = Q .normal s := nr rfl
theorem e_q_block_ret {i : Nat} : blockQ i Q .ret s = Q .ret s := nr rfl
theorem e_q_block_exit {i j : Nat} : blockQ i Q (.exit j) s = if j = i then Q .normal s else Q (.exit j) s := nr rfl
theorem e_fn_ret {rs : List ResultVar} {R : AVal → St → Prop} : FnQ P rs R .ret s = ∃ r, ares P rs s = some r ∧ R r s := nr rfl
theorem e_fn_normal {rs : List ResultVar} {R : AVal → St → Prop} : FnQ P rs R .normal s = ∃ r, ares P rs s = some r ∧ R r s := nr rfl

def viewO (r : Option AVal) (m : AMem) (v : AVal) : Option AVal :=
  match r with
  | some u => some u
  | none => view 8 m v
theorem e_view {v : AVal} : view 8 m v = viewO (strip v) m v := by
  cases h : strip v with
  | none => rfl
  | some u => simp only [viewO]; exact v_strip h
theorem e_view_some {u v : AVal} : viewO (some u) m v = some u := rfl

/-! ### Loops -/

def HasE (E : List (Nat × AVal)) : List (Nat × AVal) → Prop
  | [] => True
  | (k, v) :: r => lk E k = v ∧ HasE E r

/-- One round on. -/
def Nxt {σ : Type} (μ : σ → Nat) (H : σ → Prop) (M : σ → AMem) (L : σ → List (Nat × AVal)) (x : σ) (s : St) : Prop :=
  ∃ y, μ y < μ x ∧ H y ∧ s.m = M y ∧ HasE s.env (L y)
theorem HasE.get {E : List (Nat × AVal)} : ∀ {l : List (Nat × AVal)} {t : Nat} {r : List (Nat × AVal)}, HasE E l → t ∈ l.map (·.1) → lk (l ++ r) t = lk E t
  | (k, v) :: l, t, r, h, ht => by
    simp only [List.cons_append, lk]
    by_cases hk : k = t
    · rw [if_pos hk, ← hk]; exact h.1.symm
    · rw [if_neg hk]
      refine HasE.get h.2 ?_
      simp only [List.map_cons, List.mem_cons] at ht
      rcases ht with ht | ht
      · exact absurd ht.symm hk
      · exact ht
theorem lk_skip {r : List (Nat × AVal)} : ∀ {l : List (Nat × AVal)} {t : Nat}, t ∉ l.map (·.1) → lk (l ++ r) t = lk r t
  | [], t, _ => rfl
  | (k, v) :: l, t, h => by
    simp only [List.map_cons, List.mem_cons, not_or] at h
    simp only [List.cons_append, lk]
    rw [if_neg (fun hk => h.1 hk.symm)]
    exact lk_skip h.2
theorem lk_none {l : List (Nat × AVal)} {t : Nat} (h : t ∉ l.map (·.1)) : lk l t = .dead := by
  have := lk_skip (r := []) h
  simpa [lk] using this
def kills (ks : List Nat) : List (Nat × AVal) := ks.map fun t => (t, .dead)
theorem kills_fst (ks : List Nat) : (kills ks).map (·.1) = ks := by simp [kills, Function.comp_def]
theorem kills_nil {r : List (Nat × AVal)} : kills [] ++ r = r := rfl
theorem kills_cons {k : Nat} {ks : List Nat} {r : List (Nat × AVal)} : kills (k :: ks) ++ r = (k, .dead) :: (kills ks ++ r) := rfl
theorem kills_lk {r : List (Nat × AVal)} : ∀ {ks : List Nat} {t : Nat}, t ∈ ks → lk (kills ks ++ r) t = .dead
  | k :: ks, t, h => by
    simp only [kills, List.map_cons, List.cons_append, lk]
    by_cases hk : k = t
    · rw [if_pos hk]
    · rw [if_neg hk]
      rcases List.mem_cons.1 h with h | h
      · exact absurd h.symm hk
      · exact kills_lk h
/-- What a loop's head is told: ds has a value, of ks nothing is known, all else stays. -/
def loopOK (ms ds ks : List Nat) (e : List (Nat × AVal)) : Bool :=
  ds.all (ms.contains ·) && ks.all (ms.contains ·) && e.all fun p => !ms.contains p.1 || ds.contains p.1 || ks.contains p.1
/-- No entry names what goes. -/
def cloE (h t : Nat) : List (Nat × AVal) → Bool
  | [] => true
  | p :: r => clo h t p.2 && cloE h t r
theorem cloE_lk {h t : Nat} : ∀ {E : List (Nat × AVal)}, cloE h t E = true → ∀ i, clo h t (lk E i) = true
  | [], _, i => rfl
  | (k, v) :: E, hc, i => by
    simp only [cloE, Bool.and_eq_true] at hc
    simp only [lk]
    split
    · exact hc.1
    · exact cloE_lk hc.2 i
theorem cloE_append {h t : Nat} : ∀ {E F : List (Nat × AVal)}, cloE h t E = true → cloE h t F = true → cloE h t (E ++ F) = true
  | [], F, _, h2 => h2
  | p :: E, F, h1, h2 => by
    simp only [cloE, Bool.and_eq_true] at h1
    simp only [List.cons_append, cloE, Bool.and_eq_true]
    exact ⟨h1.1, cloE_append h1.2 h2⟩
theorem cloE_kills {h t : Nat} : ∀ {ks : List Nat}, cloE h t (kills ks) = true
  | [] => rfl
  | k :: ks => by
    show (clo h t .dead && cloE h t (kills ks)) = true
    rw [cloE_kills]; rfl

theorem w_loopG {σ : Type} {R : σ → St → Prop} (ks ds : List Nat) (μ : σ → Nat) (H : σ → Prop) (M : σ → AMem) (L : σ → List (Nat × AVal)) (x0 : σ) (hds : ∀ x, (L x).map (·.1) = ds) (hok : loopOK (mods a) ds ks e = true) (h0 : H x0) (hm : R x0 ⟨e, m⟩) (hl : HasE e (L x0))
    (hb : ∀ x, H x → hk ≤ (M x).H.length ∧ tk ≤ (M x).T.length)
    (hR : ∀ x E mm, H x → R x ⟨E, mm⟩ → M x = mm ∨ (∃ G X, mm = ⟨(M x).H ++ G, (M x).T ++ X⟩) ∧ (M x).H.all (cloB (M x).H.length (M x).T.length) = true ∧ cloE (M x).H.length (M x).T.length (L x) = true ∧ cloE (M x).H.length (M x).T.length e = true)
    (h : ∀ x, H x → W P Γ mu hk tk a (seqQ (fun s => ∃ y, μ y < μ x ∧ H y ∧ R y s ∧ HasE s.env (L y)) Q) ⟨L x ++ (kills ks ++ e), M x⟩) : W P Γ mu hk tk (.loop a) Q ⟨e, m⟩ := by
  simp only [loopOK, Bool.and_eq_true, List.all_eq_true, List.contains_iff_mem, Bool.or_eq_true, Bool.not_eq_true'] at hok
  obtain ⟨⟨ok1, ok2⟩, ok3⟩ := hok
  rw [W_loop]
  refine ⟨fun k s => ∃ x, k = μ x ∧ H x ∧ R x s ∧ HasE s.env (L x) ∧ ∀ t, t ∉ mods a → lk s.env t = lk e t, μ x0, ⟨x0, rfl, h0, hm, hl, fun _ _ => rfl⟩, ?_⟩
  rintro k ⟨E, mm⟩ ⟨x, rfl, h1, h2, h3, h4⟩
  simp only at h3 h4
  have keep : ∀ t, t ∉ mods a → lk (L x ++ (kills ks ++ e)) t = lk e t := fun t ht => by
    rw [lk_skip (by rw [hds]; exact fun h => ht (ok1 t h)), lk_skip (by rw [kills_fst]; exact fun h => ht (ok2 t h))]
  refine ⟨⟨L x ++ (kills ks ++ e), M x⟩, ⟨⟨?_, fun t => ?_⟩, fun t ht => by simp only; rw [keep t ht, h4 t ht], (hb x h1).1, (hb x h1).2⟩, ?_⟩
  · rcases hR x E mm h1 h2 with h | ⟨k1, k2, k3, k4⟩
    · exact .inl h
    · exact .inr ⟨k1, k2, cloE_lk (cloE_append k3 (cloE_append cloE_kills k4))⟩
  · simp only
    by_cases hd : t ∈ ds
    · exact .inl (HasE.get h3 (by rw [hds]; exact hd))
    · rw [lk_skip (by rw [hds]; exact hd)]
      by_cases hk : t ∈ ks
      · exact .inr (kills_lk hk)
      · rw [lk_skip (by rw [kills_fst]; exact hk)]
        by_cases hm : t ∈ mods a
        · refine .inr (lk_none fun hc => ?_)
          obtain ⟨p, hp, rfl⟩ := List.mem_map.1 hc
          rcases ok3 p hp with (h | h) | h
          · have : (mods a).contains p.1 = true := List.contains_iff_mem.2 hm
            rw [this] at h; cases h
          · exact hd h
          · exact hk h
        · exact .inl (h4 t hm).symm
  · refine W.mono (W.frame (h x h1)) fun e' s' h' => ?_
    obtain ⟨h', hf⟩ := h'
    cases e'
    case normal =>
      obtain ⟨y, g1, g2, g3, g4⟩ := h'
      exact ⟨μ y, g1, y, rfl, g2, g3, g4, fun t ht => by rw [hf t ht]; exact keep t ht⟩
    all_goals exact h'

/-- A loop: of what it writes L is known at its head, of ks nothing; the rest stays. -/
theorem w_loop {σ : Type} (ks ds : List Nat) (μ : σ → Nat) (H : σ → Prop) (M : σ → AMem) (L : σ → List (Nat × AVal)) (x0 : σ) (hds : ∀ x, (L x).map (·.1) = ds) (hok : loopOK (mods a) ds ks e = true) (h0 : H x0) (hm : m = M x0) (hl : HasE e (L x0))
    (h : ∀ x, H x → W P Γ mu hk tk a (seqQ (Nxt μ H M L x) Q) ⟨L x ++ (kills ks ++ e), M x⟩)
    (hb : ∀ x, H x → hk ≤ (M x).H.length ∧ tk ≤ (M x).T.length := by intros; first | exact ⟨Nat.zero_le _, Nat.zero_le _⟩ | (constructor <;> simp <;> omega)) : W P Γ mu hk tk (.loop a) Q ⟨e, m⟩ :=
  w_loopG (R := fun x s => s.m = M x) ks ds μ H M L x0 hds hok h0 hm hl hb (fun _ _ _ _ h => .inl h.symm) h

end
end Go.Hk
