/- Panics: calls that panic, functions that defer a closure that recovers. -/
import Derived.Test.YtojahfdjfacgaaaHkQ21
import Derived.Recover
set_option linter.unusedSimpArgs false
set_option linter.unusedVariables false
namespace Go.Hk

/-- A call that panics, with a value that names no memory. -/
def XCall (P : Program) (f : FuncId) (args : List AVal) (m : AMem) (x : Value) (m' : AMem) : Prop :=
  enterable P f = true ∧ ∀ γ vals, Rl γ → γ.S = m → VRs γ.cx args vals →
    Calls P f vals γ.w fun e w' => ∃ γ', e = .panicked [{ v := x, recovered := false }] ∧ γ'.w = w' ∧ γ'.S = m' ∧ Ext γ γ' ∧ Rl γ'

section
variable {P : Program} {Γ : Gam} {mu : Bool} {n hk tk : Nat}

/-- Operations, one behind the other; then others. -/
theorem aops_app (hΓ : Sound P Γ) {ops : Array Oper} {ro : Option Nat} {Q : Exit → Act → World → Prop} {rest : List Oper} : ∀ (l : List Oper) (γ : Ghost) (a : Act) (s s' : St), (∀ o ∈ l, ∀ x, o.dst = some x → x < n) → Holds n γ s a → aops P Γ mu ops l s = some s' →
    (∀ a' γ', Holds n γ' s' a' → Ext γ γ' → a'.defers = a.defers → wpListIn (wfen ro) 0 P ops Q rest a' γ'.w) → wpListIn (wfen ro) 0 P ops Q (l ++ rest) a γ.w
  | [], γ, a, s, s', _, h, hs, hQ => by
    simp only [aops, Option.some.injEq] at hs; subst hs
    exact hQ a γ h (Ext.refl γ) rfl
  | o :: l, γ, a, s, s', hd, h, hs, hQ => by
    simp only [aops] at hs
    obtain ⟨s1, h1, h2⟩ := Option.bind_eq_some_iff.1 hs
    exact astep_sound (ro := ro) (K := wpListIn (wfen ro) 0 P ops Q (l ++ rest)) (Q := Q) hΓ h (hd o (by simp)) h1 (fun a' γ' h' he hdf => aops_app hΓ l γ' a' s1 s' (fun o' ho' => hd o' (by simp [ho'])) h' h2 (fun a'' γ'' h'' he' hdf' => hQ a'' γ'' h'' (he.trans he') (hdf'.trans hdf)))

/-- A region that ends in a panic of its own. -/
theorem AWp.panics (hΓ : Sound P Γ) {id : Nat} {l rest : List Oper} {ops : Array Oper} {o : Oper} {y : Operand} {x : Value} {s s' : St} {Q : Exit → St → Prop} (hops : ops = (l ++ o :: rest).toArray) (hd : dstOK n ops.toList = true) (hs : aops P Γ mu ops l s = some s') (ho : o.op = .panic y) (hg : aguard ops s'.env o = some true)
    (hx : ∀ κ u, VR κ (Hk.ev s'.env y) u → (∃ t v, u = .iface t v) ∧ u = x) (h : Q (.panic [{ v := x, recovered := false }]) s') : AWp P n hk tk (.region id ops false) Q s := fun ro z γ a _ hh hm => by
  subst hops
  have hd' := dstOK_spec hd
  simp only [List.mem_append, List.mem_cons] at hd'
  refine wpIn_region_list (by
    simp only
    refine aops_app hΓ l γ a s s' (fun o' ho' => hd' o' (.inl ho')) hh hs fun a' γ' hh' hext hdf => ?_
    show if Region.wanted o (yielded _ a'.tmps) then o.wpIn _ _ P a' γ'.w _ _ else _
    rw [if_pos (guard_sound hh'.er hg)]
    refine ⟨fun _ _ => trivial, ?_⟩
    rw [Oper.semAt_eq _ _ _ (fun c hc => by rw [ho] at hc; cases hc)]
    have hv := hh'.er.ev y
    obtain ⟨⟨t, v, hu⟩, hux⟩ := hx _ _ hv
    have hrun : (execOp a'.eval o).run P γ'.w = .halt (.panic x) γ'.w := by
      simp only [execOp, ho, hu, Instr.panic]
      rw [← hux, hu]
      simp
    rw [hrun, Oper.uponIn_panic]
    exact ⟨γ', s', rfl, hext.toN, ⟨hh', by rw [hdf]; exact hm.ext hext.toN (hk := 0) (tk := 0)⟩, h⟩)

/-- A region in which a call panics. -/
theorem AWp.panicsC (hΓ : Sound P Γ) {id : Nat} {l rest : List Oper} {ops : Array Oper} {o : Oper} {c : Call} {f : FuncId} {x : Value} {m' : AMem} {s s' : St} {Q : Exit → St → Prop} (hops : ops = (l ++ o :: rest).toArray) (hd : dstOK n ops.toList = true) (hs : aops P Γ mu ops l s = some s') (ho : o.op = .call c) (hc : c.callee = .value (.func f)) (hg : aguard ops s'.env o = some true)
    (hx : XCall P f (c.args.toList.map (Hk.ev s'.env)) s'.m x m') (h : Q (.panic [{ v := x, recovered := false }]) ⟨s'.env, m'⟩) : AWp P n hk tk (.region id ops false) Q s := fun ro z γ a _ hh hm => by
  subst hops
  have hd' := dstOK_spec hd
  simp only [List.mem_append, List.mem_cons] at hd'
  refine wpIn_region_list (by
    simp only
    refine aops_app hΓ l γ a s s' (fun o' ho' => hd' o' (.inl ho')) hh hs fun a' γ' hh' hext hdf => ?_
    show if Region.wanted o (yielded _ a'.tmps) then o.wpIn _ _ P a' γ'.w _ _ else _
    rw [if_pos (guard_sound hh'.er hg)]
    refine ⟨fun _ _ => trivial, ?_⟩
    rw [Oper.semAt_eq _ _ _ (fun c hc => by rw [ho] at hc; cases hc)]
    have hargs := vrs_map (fun x => hh'.er.ev x) c.args
    have hrun : (execOp a'.eval o).run P γ'.w = .ok (.enter f (c.args.map a'.eval)) γ'.w := by
      simp only [execOp, ho, resolve, hc, Act.eval, Deferred.ofValue, invoke, Sem.run_bind, Sem.run_pure, Result.andThen_ok]
      have := run_callFunc hx.1 (c.args.map a'.eval) γ'.w
      simpa using this
    rw [hrun, Oper.uponIn_enter]
    refine ⟨fun h => by simp [wfen, Fence.wide] at h, callsIn_wd ((hx.2 γ' _ hh'.rl hh'.m hargs).mono ?_)⟩
    rintro e w' ⟨γ'', rfl, rfl, hS, he', hrl⟩
    exact ⟨γ'', ⟨s'.env, m'⟩, rfl, (hext.trans he').toN, ⟨⟨hrl, hS, hh'.er.mono he'.le, hh'.size⟩, by rw [hdf]; exact hm.ext (hext.trans he').toN (hk := 0) (tk := 0)⟩, h⟩)

/-- A function that panics, out of its body. -/
theorem XCall.of_body {f : FuncId} {fn : Func} {c : Code} {args : List AVal} {m m' : AMem} {x : Value} (hf : P.funcs[f]? = some fn) (hb : fn.body = some c) (hen : enterable P f = true) (hn : args.length ≤ fn.ntmps)
    (hH : m.H.length ≤ m'.H.length) (hT : m.T.length ≤ m'.T.length)
    (h : AWp P fn.ntmps m.H.length m.T.length c (fun e s => e = .panic [{ v := x, recovered := false }] ∧ LeftM m' s.m) ⟨envFrom 0 args, m⟩) : XCall P f args m x m' := by
  refine ⟨hen, fun γ vals hr hm hv => callsIn_wide.1 (callsIn_of_wp_marks (n := 0) (F := Fence.wide) hf hb trivial (wpIn_mono (h none ⟨γ.w.heap.size, [], true⟩ γ _ (fun _ => ⟨rfl, rfl⟩) (enter_holds hr hm hv hn) (Mk.nil (Nat.le_refl _))) fun e a w hq => ?_))⟩
  obtain ⟨γ', s', rfl, h2, ⟨h3, h4⟩, rfl, hl⟩ := hq
  obtain ⟨_, ⟨Ds, k1, k2, k3⟩, _⟩ := h4
  show LeavesInM _ _ _ _ _ _ _ _ _
  rw [k1]
  refine leaves_marks (by simp) Ds γ' k2 k3 h3 h2 fun γ'' hh'' he'' => ?_
  show ∃ γ' : Ghost, _ ∧ _
  rcases hl with hl | ⟨⟨G, X, hl⟩, hB⟩
  · exact ⟨γ'', rfl, rfl, hh''.m.trans hl, ExtN.full (by rw [hm]; exact he''), hh''.rl⟩
  · have hS : (γ''.cut m'.H.length m'.T.length).S = m' := by
      simp only [Ghost.cut, hh''.m, hl, List.take_left']
    refine ⟨γ''.cut m'.H.length m'.T.length, rfl, rfl, hS, ExtN.full ?_, rl_cut hh''.rl ?_⟩
    · rw [hm]
      exact he''.trans (ext_cut hH hT)
    · rw [hh''.m, hl]
      simpa only [List.take_left'] using hB

end
end Go.Hk
namespace Go.Hk
section
variable {P : Program} {Γ : Gam} {mu : Bool}

theorem aexec_op {m : AMem} {ρ : Operand → AVal} {op : Op} (h : ∀ c, op ≠ .call c) : aexec P Γ mu m ρ op = aop P mu m ρ op := by
  cases op <;> first | rfl | exact absurd rfl (h _)

/-- Operations of a deferred call's frame, none of them a call. -/
theorem opsS {n : Nat} {ops : Array Oper} {cs : List Frame} {Q : Exit → Act → List Frame → World → Prop} : ∀ (l : List Oper) (k : Nat) (γ : Ghost) (a : Act) (s s' : St), (∀ j, l[j]? = ops[k + j]?) → (∀ o ∈ l, ∀ c, o.op ≠ .call c) → (∀ o ∈ l, ∀ x, o.dst = some x → x < n) → Holds n γ s a → aops P Γ mu ops l s = some s' →
    (∀ a' γ', Holds n γ' s' a' → Ext γ γ' → a'.defers = a.defers → Q .normal a' cs γ'.w) → wpOpsS P ops Q (List.range' k l.length) a cs γ.w
  | [], k, γ, a, s, s', _, _, _, h, hs, hQ => by
    simp only [aops, Option.some.injEq] at hs; subst hs
    exact hQ a γ h (Ext.refl γ) rfl
  | o :: l, k, γ, a, s, s', hj, hc, hd, h, hs, hQ => by
    simp only [aops] at hs
    obtain ⟨s1, h1, h2⟩ := Option.bind_eq_some_iff.1 hs
    have h0 : ops[k]? = some o := by simpa using (hj 0).symm
    have hj' : ∀ j, l[j]? = ops[k + 1 + j]? := fun j => by
      have := hj (j + 1)
      rw [show k + (j + 1) = k + 1 + j by omega] at this
      simpa using this
    have hrc : ∀ a' γ', Holds n γ' s1 a' → Ext γ γ' → a'.defers = a.defers → wpOpsS P ops Q (List.range' (k + 1) l.length) a' cs γ'.w := fun a' γ' h' he hdf =>
      opsS l (k + 1) γ' a' s1 s' hj' (fun o' ho' => hc o' (by simp [ho'])) (fun o' ho' => hd o' (by simp [ho'])) h' h2 (fun a'' γ'' h'' he' hdf' => hQ a'' γ'' h'' (he.trans he') (hdf'.trans hdf))
    rw [List.length_cons, List.range'_succ]
    simp only [wpOpsS, h0]
    unfold astep at h1
    cases hg : aguard ops s.env o with
    | none => simp [hg] at h1
    | some g =>
      simp only [hg] at h1
      rw [guard_sound h.er hg]
      cases g with
      | false =>
        simp only [Bool.false_eq_true, if_false, Option.some.injEq] at h1 ⊢
        subst h1
        exact hrc _ γ ⟨h.rl, h.m, h.er.put' (fun x hx => by rw [h.size]; exact hd o (by simp) x hx) .undef, put_size.trans h.size⟩ (Ext.refl γ) put_defers
      | true =>
        simp only [if_true] at h1 ⊢
        split at h1
        case h_2 => cases h1
        rename_i v m1 hx
        simp only [Option.some.injEq] at h1; subst h1
        rw [aexec_op (hc o (by simp)), ← h.m] at hx
        obtain ⟨nx, γ', hrun, hnx, hext, hrl, hS⟩ := aop_sound (P := P) h.rl h.er hx
        rw [hrun]
        have hfin : ∀ u, VR γ'.cx v u → wpOpsS P ops Q (List.range' (k + 1) l.length) (a.put o.dst u) cs γ'.w := fun u hu =>
          hrc _ γ' ⟨hrl, hS, (h.er.mono hext.le).put' (fun x hx => by rw [h.size]; exact hd o (by simp) x hx) hu, put_size.trans h.size⟩ hext put_defers
        cases nx <;> simp only [NX] at hnx
        case value u => exact hfin u hnx
        case skip => subst hnx; exact hfin undef .undef

/-- A deferred call of a closure: what it leaves, and how the frame below goes on. -/
def DCall (P : Program) (g : FuncId) (caps : List AVal) (m : AMem) (u : FrameMode) (m' : AMem) (u' : FrameMode) : Prop :=
  ∀ γ vals, Rl γ → γ.S = m → VRs γ.cx caps vals → CallsDIn Fence.wide 0 P g vals u γ.w fun e u1 w' => ∃ v γ', e = .returned v ∧ u1 = u' ∧ γ'.w = w' ∧ γ'.S = m' ∧ Ext γ γ' ∧ Rl γ'

theorem callsDIn_of_wpS {f : FuncId} {fn : Func} {c : Code} {args : Array Value} {u : FrameMode} {w : World} {R : Ending → FrameMode → World → Prop} (hf : P.funcs[f]? = some fn) (hb : fn.body = some c)
    (h : ∀ (c₀ : Frame) (cs : List Frame), c₀.mode = u → c.wpS P (fun e a cs' w => (e = .normal ∨ e = .ret) ∧ a.defers = [] ∧ ∃ u', cs' = { c₀ with mode := u' } :: cs ∧ ∃ v, (results fn a.tmps).run P w = .ok v w ∧ R (.returned v) u' w) { tmps := args ++ Array.replicate (fn.ntmps - args.size) undef, defers := [] } (c₀ :: cs) w) :
    CallsDIn Fence.wide 0 P f args u w R := by
  refine ⟨trivial, fun c₀ cs hu _ => ?_⟩
  obtain ⟨e, a', cs', w', ⟨he, hd, u', hcs, v, hr, hR⟩, harr⟩ := h c₀ cs hu { (default : Frame) with fn := f, kind := .deferred } [] rfl rfl
  subst hcs
  have henter : Frame.enter P f args .deferred = ({ (default : Frame) with fn := f, kind := .deferred } : Frame).at { tmps := args ++ Array.replicate (fn.ntmps - args.size) undef, defers := [] } [.code c] := by
    simp [Frame.enter, Frame.at, hf, hb]
  rw [← henter] at harr
  rcases he with rfl | rfl
  · exact ⟨.returned v, u', w', _, hR, comesIn_wide.2 (Steps.trans harr (.one step_end)), rfl, rfl, rfl, hd, fn, hf, hr⟩
  · obtain ⟨todo, hs⟩ := harr
    exact ⟨.returned v, u', w', _, hR, comesIn_wide.2 hs, rfl, rfl, rfl, hd, fn, hf, hr⟩

theorem run_recover {ρ : Operand → Value} {o : Oper} {c : Call} {w : World} (ho : o.op = .call c) (hc : c.callee = .builtin .recover) (ha : c.args = #[]) : (execOp ρ o).run P w = .ok .recover w := by
  simp [execOp, ho, resolve, hc, ha, invoke, builtin]

/-- A closure that asks first whether there is something to recover. -/
theorem DCall.of_body (hΓ : Sound P Γ) {g : FuncId} {fn : Func} {id : Nat} {ops : Array Oper} {rest : Code} {o : Oper} {c : Call} {l : List Oper} {d : Nat} {caps : List AVal} {m m' : AMem} {u u' : FrameMode} {v : AVal} {s : St}
    (hf : P.funcs[g]? = some fn) (hb : fn.body = some (.seq (.region id ops false) rest)) (hn : caps.length ≤ fn.ntmps) (hres : fn.results = #[])
    (hops : ops = (o :: l).toArray) (ho : o.op = .call c) (hc : c.callee = .builtin .recover) (ha : c.args = #[]) (hdst : o.dst = some d) (hgd : o.guard = none) (hnc : ∀ o ∈ l, ∀ c, o.op ≠ .call c) (hd : dstOK fn.ntmps ops.toList = true)
    (hH : m.H.length ≤ m'.H.length) (hT : m.T.length ≤ m'.T.length)
    (hu : (u = .returning ∧ u' = .returning ∧ v = .nili) ∨ ∃ x, u = .panicking [{ v := x, recovered := false }] ∧ u' = .panicking [{ v := x, recovered := true }] ∧ ∀ κ, VR κ v x)
    (hs : aops P Γ mu ops l ⟨(d, v) :: envFrom 0 caps, m⟩ = some s)
    (h : AWp P fn.ntmps m.H.length m.T.length rest (fun e s => (e = .normal ∨ e = .ret) ∧ LeftM m' s.m) s) (hrf : rf rest = false) : DCall P g caps m u m' u' := by
  intro γ vals hr hm hv
  refine callsDIn_of_wpS hf hb fun c₀ cs hc0 => wpS_seq (wpS_region ?_)
  have hh := enter_holds hr hm hv hn
  have hd' := dstOK_spec hd
  subst hops
  simp only [List.mem_cons] at hd'
  have hdn : d < fn.ntmps := hd' o (.inl rfl) d hdst
  -- what recover gives
  have key : ∃ (w' : Value) (cs' : List Frame), VR γ.cx v w' ∧ cs' = { c₀ with mode := u' } :: cs ∧
      ((recoverD (c₀ :: cs) = some (w', cs')) ∨ (recoverD (c₀ :: cs) = none ∧ w' = .nilIface ∧ cs' = c₀ :: cs)) := by
    rcases hu with ⟨rfl, rfl, rfl⟩ | ⟨x, rfl, rfl, hx⟩
    · refine ⟨.nilIface, c₀ :: cs, .nili, by rw [← hc0], .inr ⟨?_, rfl, rfl⟩⟩
      simp [recoverD, hc0]
    · refine ⟨x, _, hx _, rfl, .inl ?_⟩
      simp [recoverD, hc0]
  obtain ⟨w', cs', hw', hcs', hrec⟩ := key
  have hrun := fun a : Act => run_recover (P := P) (ρ := a.eval) (w := γ.w) ho hc ha
  have fin : wpOpsS P (o :: l).toArray (Exit.thenS (rest.wpS P fun e a cs' w => (e = .normal ∨ e = .ret) ∧ a.defers = [] ∧ ∃ u'_1, cs' = { c₀ with mode := u'_1 } :: cs ∧ ∃ v, (results fn a.tmps).run P w = .ok v w ∧ ∃ v_1 γ', Ending.returned v = .returned v_1 ∧ u'_1 = u' ∧ γ'.w = w ∧ γ'.S = m' ∧ Ext γ γ' ∧ Rl γ')
      fun e a cs' w => (e = .normal ∨ e = .ret) ∧ a.defers = [] ∧ ∃ u'_1, cs' = { c₀ with mode := u'_1 } :: cs ∧ ∃ v, (results fn a.tmps).run P w = .ok v w ∧ ∃ v_1 γ', Ending.returned v = .returned v_1 ∧ u'_1 = u' ∧ γ'.w = w ∧ γ'.S = m' ∧ Ext γ γ' ∧ Rl γ')
      (List.range' 1 l.length) (({ tmps := vals ++ Array.replicate (fn.ntmps - vals.size) undef, defers := [] } : Act).put o.dst w') cs' γ.w := by
    refine opsS (Γ := Γ) (mu := mu) (n := fn.ntmps) l 1 γ _ _ s (fun j => by simp [Nat.add_comm 1 j]) hnc (fun o' ho' => hd' o' (.inr ho')) ?_ hs fun a1 γ1 hh1 he1 hdf1 => ?_
    · refine ⟨hr, hm, ?_, put_size.trans hh.size⟩
      rw [hdst]
      exact hh.er.put (by rw [hh.size]; exact hdn) hw'
    · show rest.wpS P _ a1 cs' γ1.w
      have hd0 : a1.defers = [] := hdf1.trans put_defers
      refine wpS_of_wp (wpIn_wide.1 (wpIn_mono (h none ⟨γ1.w.heap.size, [], false⟩ γ1 a1 (fun h => by rw [hrf] at h; cases h) hh1 (by rw [hd0]; exact Mk.nil (Nat.le_refl _))) fun e a2 w2 hq => ?_))
      obtain ⟨γ2, s2, rfl, he2, ⟨hh2, hm2⟩, he, hl⟩ := hq
      have hd2 : a2.defers = [] := hm2.no rfl
      have hres2 : ∃ v, (results fn a2.tmps).run P γ2.w = .ok v γ2.w := by
        refine ⟨.tuple #[], ?_⟩
        simp [results, hres]
      obtain ⟨v2, hv2⟩ := hres2
      have he12 := he1.toN.trans he2
      refine ⟨he, hd2, u', hcs', v2, hv2, ?_⟩
      rcases hl with hl | ⟨⟨G, X, hl⟩, hB⟩
      · exact ⟨v2, γ2, rfl, rfl, rfl, hh2.m.trans hl, ExtN.full (by rw [hm]; exact he12), hh2.rl⟩
      · have hS : (γ2.cut m'.H.length m'.T.length).S = m' := by
          simp only [Ghost.cut, hh2.m, hl, List.take_left']
        refine ⟨v2, γ2.cut m'.H.length m'.T.length, rfl, rfl, rfl, hS, ExtN.full ?_, rl_cut hh2.rl ?_⟩
        · rw [hm]
          exact he12.trans (ext_cut hH hT)
        · rw [hh2.m, hl]
          simpa only [List.take_left'] using hB
  have hr0 : List.range (o :: l).toArray.size = 0 :: List.range' 1 l.length := by
    simp [List.range_eq_range', List.range'_succ]
  rw [hr0]
  simp only [wpOpsS]
  have hg0 : Region.wanted o (yielded (o :: l).toArray ({ tmps := vals ++ Array.replicate (fn.ntmps - vals.size) undef, defers := [] } : Act).tmps) = true := by
    simp [Region.wanted, hgd]
  simp only [List.getElem?_toArray, List.getElem?_cons_zero, hg0, if_true, hrun]
  rcases hrec with h1 | ⟨h1, rfl, rfl⟩
  · rw [h1]; exact fin
  · rw [h1]; exact fin
end
end Go.Hk
namespace Go.Hk
section
variable {P : Program} {Γ : Gam} {mu : Bool}

/-- What the body behind the defer is asked: however it ends, the deferred call leaves what is told. -/
def DeferQ (P : Program) (g : FuncId) (caps : List AVal) (rs : List ResultVar) (r : AVal) : Exit → St → Prop := fun e s =>
  ∃ u m' u' r0, (((e = .normal ∨ e = .ret) ∧ u = .returning) ∨ ∃ ch, e = .panic ch ∧ u = .panicking ch) ∧ DCall P g caps s.m u m' u' ∧ settle u' = .returning ∧ ares P rs ⟨s.env, m'⟩ = some r0 ∧ view 8 m' r0 = some r

/-- A function that defers a closure first of all. -/
theorem PCall.of_defer (hΓ : Sound P Γ) {f g : FuncId} {fn : Func} {a rest : Code} {id : Nat} {ops : Array Oper} {l : List Oper} {o : Oper} {dc : Call} {y : Operand} {caps args : List AVal} {r : AVal}
    (hf : P.funcs[f]? = some fn) (hb : fn.body = some (.seq a (.seq (.region id ops false) rest))) (hen : enterable P f = true) (hng : enterable P g = true) (hn : args.length ≤ fn.ntmps) (hrfa : rf a = false) (hrf : rf rest = false)
    (hops : ops = (l ++ [o]).toArray) (hd : dstOK fn.ntmps ops.toList = true) (ho : o.op = .defer dc) (hc : dc.callee = .value y) (hargs : dc.args = #[]) (hdst : o.dst = none) (hgd : o.guard = none)
    (ha : AWp P fn.ntmps 0 0 a (fun e s1 => e = .normal ∧ ∃ s2, aops P Γ mu ops l s1 = some s2 ∧ Hk.ev s2.env y = .fn g [] caps ∧ AWp P fn.ntmps s2.m.H.length s2.m.T.length rest (DeferQ P g caps fn.results.toList r) s2) ⟨envFrom 0 args, ⟨[], []⟩⟩) : PCall P f args r := by
  refine ⟨hen, fun γ vals hr hm hv => callsIn_wide.1 (callsIn_of_wp_marks (n := 0) (F := Fence.wide) hf hb trivial ?_)⟩
  have hh := enter_holds hr hm hv hn
  refine wpIn_seq (wpIn_mono (ha none ⟨γ.w.heap.size, [], false⟩ γ _ (fun h => by rw [hrfa] at h; cases h) hh (Mk.nil (Nat.le_refl _))) fun e a1 w1 hq => ?_)
  obtain ⟨γ1, s1', rfl, he1, ⟨hh1, hm1⟩, rfl, s2, hs, hy, h⟩ := hq
  have hd1 : a1.defers = [] := hm1.no rfl
  have hd' := dstOK_spec hd
  subst hops
  simp only [List.mem_append, List.mem_cons, List.not_mem_nil, or_false] at hd'
  have full : ∀ {γa γb : Ghost}, γa.S = s2.m → ExtN s2.m.H.length s2.m.T.length γa γb → Ext γa γb := fun h1 h2 => ExtN.full (by rw [h1]; exact h2)
  show (Code.seq _ rest).wpIn Fence.wide 0 P _ a1 γ1.w
  refine wpIn_seq (wpIn_region_list ?_)
  show wpListIn (wfen none) 0 P _ _ (l ++ [o]) a1 γ1.w
  refine aops_app (mu := mu) hΓ l γ1 a1 s1' s2 (fun o' ho' => hd' o' (.inl ho')) hh1 hs fun a2 γ2 hh2 he2 hdf2 => ?_
  show if Region.wanted o (yielded _ a2.tmps) then o.wpIn _ _ P a2 γ2.w _ _ else _
  rw [if_pos (by simp [Region.wanted, hgd])]
  refine ⟨fun _ _ => trivial, ?_⟩
  rw [show (wfen none).round = none from rfl, Oper.semAt_none]
  have hvy := hh2.er.ev y
  rw [hy] at hvy
  generalize hyv : a2.eval y = yv at hvy
  cases hvy with
  | fn _ _ _ xs ys h1 h2 hx hcap =>
  have hxs : xs = #[] := Array.eq_empty_of_size_eq_zero (by simpa using h1)
  subst hxs
  have hrun : (execOp a2.eval o).run P γ2.w = .ok (.defer { target := .fn (.func g) ys, args := #[] }) γ2.w := by
    simp [execOp, ho, resolve, hc, hargs, hyv, Deferred.ofValue]
  rw [hrun, Oper.uponIn_defer]
  show rest.wpIn Fence.wide 0 P _ _ γ2.w
  have hd2 : a2.defers = [] := hdf2.trans hd1
  rw [hdst, hd2]
  have hh3 : Holds fn.ntmps γ2 s2 { a2 with defers := [{ target := .fn (.func g) ys, args := #[] }] } := ⟨hh2.rl, hh2.m, hh2.er, hh2.size⟩
  refine wpIn_mono (h none ⟨γ2.w.heap.size, [{ target := .fn (.func g) ys, args := #[] }], false⟩ γ2 _ (fun h => by rw [hrf] at h; cases h) hh3 (Mk.nil (Nat.le_refl _))) fun e a3 w3 hq => ?_
  obtain ⟨γ3, s3, rfl, he3, ⟨hh4, hm4⟩, u, m', u', r0, hu, hD, hset, hares, hview⟩ := hq
  have hd4 : a3.defers = [{ target := .fn (.func g) ys, args := #[] }] := hm4.no rfl
  have hE3 := full hh2.m he3
  have hcaps : VRs γ3.cx caps ys := ⟨h2, fun j hj => (hcap j hj).mono hE3.le⟩
  have hune : u ≠ .run := by rcases hu with ⟨_, rfl⟩ | ⟨ch, _, rfl⟩ <;> simp
  have fin : LeavesInM Fence.wide 0 P fn a3.tmps (fun e w' => ∃ v γ', e = .returned v ∧ γ'.w = w' ∧ γ'.S = (⟨[], []⟩ : AMem) ∧ Ext γ γ' ∧ Rl γ' ∧ VR γ'.cx r v) a3.defers u γ3.w := by
    rw [hd4]
    refine ⟨hune, .inr ⟨fun h => by simp [Fence.wide] at h, .func g, ys, g, ys, rfl, ?_, fun _ _ => trivial, ?_⟩⟩
    · have := run_callFunc hng ys γ3.w
      simpa [invoke] using this
    · refine (hD γ3 ys hh4.rl hh4.m hcaps).mono ?_
      rintro e u1 w4 ⟨v, γ4, rfl, rfl, rfl, hS4, hE4, hrl4⟩
      show LeavesInM _ _ _ _ _ _ [] (settle u1) γ4.w
      rw [hset]
      have hh5 : Holds fn.ntmps γ4 ⟨s3.env, m'⟩ a3 := ⟨hrl4, hS4, hh4.er.mono hE4.le, hh4.size⟩
      obtain ⟨uv, hu1, hu2⟩ := ares_sound hh5 hares
      have heT : Ext γ γ4 := by
        refine ExtN.full ?_
        rw [hm]
        exact ((he1.trans he2.toN).trans hE3.toN).trans hE4.toN
      exact ⟨uv, hu1, uv, γ4.drop, rfl, rfl, rfl, ext_drop hm heT, rl_drop hrl4, view_sound hrl4 _ _ _ _ (by rw [hS4]; exact hview) hu2⟩
  rcases hu with ⟨he, rfl⟩ | ⟨ch, rfl, rfl⟩
  · rcases he with rfl | rfl <;> exact fin
  · exact fin
end
end Go.Hk
