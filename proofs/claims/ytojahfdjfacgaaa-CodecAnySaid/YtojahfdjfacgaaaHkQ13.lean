/- Regions: their operations one behind the other, and in whatever order. -/
import Derived.Test.YtojahfdjfacgaaaHkQ12
import Derived.OrdersIn
import Derived.TacticsIn
import Derived.RangeFuncRecord
namespace Go.Hk

/-- What is known of a function. -/
inductive Con where
  | pure (imp : List AVal → Option AVal)
  | raw (imp : List AVal → AMem → Option (AVal × AMem))
  | ext (imp : List AVal → List (Nat × (Nat × Nat)) → Option (AVal × List (Nat × (Nat × Nat))))
  | lib (imp : List AVal → AMem → Option (AVal × AMem))
  | non

/-- Orders in which a region is to be walked: one step; or two, each of both first. -/
inductive OT where
  | done
  | step (i : Nat) (t : OT)
  | fork (i j : Nat) (a b : OT)
  deriving DecidableEq
/-- What is known of functions; and the regions that are walked in more than one order. -/
structure Gam where
  con : FuncId → Con
  ex : Nat → Option OT
  nx : Nat → Bool
  dy : Bool
  yl : Nat → List AVal → AMem → Option (AVal × AMem)
  nt : Nat
instance : CoeFun Gam (fun _ => FuncId → Con) := ⟨Gam.con⟩

/-- What is told of a function holds. -/
def ConOK (P : Program) (f : FuncId) : Con → Prop
  | .pure imp => ∀ ars r, imp ars = some r → PCall P f ars r
  | .raw imp => ∀ args m r m', imp args m = some (r, m') → RCall P f args m r m'
  | .ext imp => ∀ args T r T', imp args T = some (r, T') → ECall P f args T r T'
  | .lib imp => ∀ args m r m', imp args m = some (r, m') → LCall P f args m r m'
  | .non => True
/-- A round of a range over a function, ars yield asks for it. -/
def YCall (P : Program) (b : Nat) (args : List AVal) (m : AMem) (r : AVal) (m' : AMem) : Prop :=
  ∀ γ vals, Rl γ → γ.S = m → VRs γ.cx args vals → ∃ x, m.H[b]? = some x ∧ x.ep = 0 ∧ ∃ f tmps assign body, (Instr.yield (γ.ι.h b) vals).run P γ.w = .ok (.round (γ.ι.h b) f tmps assign body) γ.w ∧
    RoundIn Fence.wide 0 P (γ.ι.h b) f tmps assign body γ.w fun e w' => ∃ v γ', e = .returned v ∧ γ'.w = w' ∧ γ'.S = m' ∧ Ext γ γ' ∧ Rl γ' ∧ VR γ'.cx r v
structure Sound (P : Program) (Γ : Gam) : Prop where
  fn : ∀ f, ConOK P f (Γ f)
  yl : ∀ b args m r m', Γ.yl b args m = some (r, m') → YCall P b args m r m'

def callPure (imp : List AVal → Option AVal) (m : AMem) (args : List AVal) : Option (AVal × AMem) :=
  match stripL args with
  | some ars => (match imp ars with | some r => some (r, m) | none => none)
  | none => (match optMap (view 8 m) args with
    | some ars => (match imp ars with | some r => if flat r = true then some (r, m) else none | none => none)
    | none => none)

def acall (Γ : Gam) (m : AMem) (f : FuncId) (args : List AVal) : Option (AVal × AMem) :=
  match Γ f with
  | .pure imp => callPure imp m args
  | .raw imp => imp args m
  | .ext imp => (match imp args m.T with | some (r, T') => some (r, ⟨m.H, T'⟩) | none => none)
  | .lib imp => imp args m
  | .non => none

def acallP (Γ : Gam) (m : AMem) (f : FuncId) (args : List AVal) : Option (AVal × AMem) :=
  match Γ f with
  | .pure imp => callPure imp m args
  | .raw imp => if Γ.dy = true then imp args m else none
  | _ => none

/-- One operation, calls too. -/
def aexec (P : Program) (Γ : Gam) (mu : Bool) (m : AMem) (ρ : Operand → AVal) (op : Op) : Option (AVal × AMem) :=
  match op with
  | .call c => (match c.callee with
    | .builtin b => abuiltin P mu m b c.argTypes.toList (c.args.toList.map ρ)
    | .value x => (match x with
      | .func f => acall Γ m f (c.args.toList.map ρ)
      | x => (match ρ x with
        | .fn f first caps => acallP Γ m f (first ++ c.args.toList.map ρ ++ caps)
        | .yld b => if Γ.dy = true then Γ.yl b (c.args.toList.map ρ) m else none
        | _ => none))
    | .invoke _ _ => none)
  | op => aop P mu m ρ op

def aguard (ops : Array Oper) (env : List (Nat × AVal)) (o : Oper) : Option Bool :=
  match o.guard with
  | none => some true
  | some (j, want) => (match (ops[j]?).bind (·.dst) with
    | some d => (match lk env d with
      | .bool b => some (b == want)
      | .undef => some false
      | _ => none)
    | none => some false)

def put (env : List (Nat × AVal)) (d : Option Nat) (v : AVal) : List (Nat × AVal) :=
  match d with
  | some d => (d, v) :: env
  | none => env

def astep (P : Program) (Γ : Gam) (mu : Bool) (ops : Array Oper) (o : Oper) (s : St) : Option St :=
  match aguard ops s.env o with
  | some g => if g = true then (match aexec P Γ mu s.m (ev s.env) o.op with
      | some (v, m') => some ⟨put s.env o.dst v, m'⟩
      | none => none) else some ⟨put s.env o.dst .undef, s.m⟩
  | none => none

def aops (P : Program) (Γ : Gam) (mu : Bool) (ops : Array Oper) : List Oper → St → Option St
  | [], s => some s
  | o :: r, s => (astep P Γ mu ops o s).bind (aops P Γ mu ops r)

/-! ### Soundness -/

/-- A frame and a world are what an abstract state says. -/
structure Holds (n : Nat) (γ : Ghost) (s : St) (a : Act) : Prop where
  rl : Rl γ
  m : γ.S = s.m
  er : ER γ.cx s.env a.tmps
  size : a.tmps.size = n

theorem ER.put' {κ : Cx} {env : List (Nat × AVal)} {a : Act} (he : ER κ env a.tmps) {d : Option Nat} (hd : ∀ x, d = some x → x < a.tmps.size) {v : AVal} {u : Value} (hv : VR κ v u) : ER κ (Hk.put env d v) (a.put d u).tmps := by
  cases d with
  | none => exact he
  | some d => exact he.put (hd d rfl) hv

theorem guard_sound {κ : Cx} {ops : Array Oper} {env : List (Nat × AVal)} {a : Act} {o : Oper} {g : Bool} (he : ER κ env a.tmps) (h : aguard ops env o = some g) : Region.wanted o (yielded ops a.tmps) = g := by
  unfold aguard at h
  unfold Region.wanted
  cases hg : o.guard with
  | none => simp only [hg, Option.some.injEq] at h; subst h; rfl
  | some jw =>
    obtain ⟨j, want⟩ := jw
    simp only [hg] at h
    unfold yielded
    cases hd : (ops[j]?).bind (·.dst) with
    | none => simp only [hd, Option.some.injEq] at h; subst h; simp [hd]
    | some d =>
      simp only [hd] at h
      have hv := he d
      simp only [hd, Option.bind_some]
      split at h
      · rename_i b hb
        simp only [Option.some.injEq] at h; subst h
        rw [hb] at hv
        cases hx : a.tmps[d]? with
        | none =>
          rw [Array.getD_eq_getD_getElem?, hx] at hv
          cases hv
        | some u =>
          rw [Array.getD_eq_getD_getElem?, hx] at hv
          simp only [Option.getD_some] at hv
          cases hv
          simp only
          cases b <;> cases want <;> rfl
      · rename_i hb
        simp only [Option.some.injEq] at h; subst h
        rw [hb] at hv
        cases hx : a.tmps[d]? with
        | none => simp
        | some u =>
          rw [Array.getD_eq_getD_getElem?, hx] at hv
          simp only [Option.getD_some] at hv
          cases hv
          simp
      · cases h

theorem callPure_sound {P : Program} {f : FuncId} {imp : List AVal → Option AVal} (hi : ∀ ars r, imp ars = some r → PCall P f ars r) {m m' : AMem} {args : List AVal} {r : AVal} (h : callPure imp m args = some (r, m')) : RCall P f args m r m' := by
  unfold callPure at h
  split at h
  · rename_i ars hs
    split at h
    · rename_i r' hr
      simp only [Option.some.injEq, Prod.mk.injEq] at h
      obtain ⟨rfl, rfl⟩ := h
      exact (hi _ _ hr).stable hs
    · cases h
  · split at h
    · rename_i ars hs
      split at h
      · rename_i r' hr
        split at h
        · rename_i hf
          simp only [Option.some.injEq, Prod.mk.injEq] at h
          obtain ⟨rfl, rfl⟩ := h
          exact (hi _ _ hr).viewed hs hf
        · cases h
      · cases h
    · cases h

theorem acall_sound {P : Program} {Γ : Gam} (hΓ : Sound P Γ) {m m' : AMem} {f : FuncId} {args : List AVal} {r : AVal} (h : acall Γ m f args = some (r, m')) : RCall P f args m r m' ∨ LCall P f args m r m' := by
  have := hΓ.fn f
  unfold acall at h
  split at h
  · rename_i imp hc; rw [hc] at this; exact .inl (callPure_sound this h)
  · rename_i imp hc; rw [hc] at this; exact .inl (this _ _ _ _ h)
  · rename_i imp hc
    rw [hc] at this
    split at h
    · rename_i r' T' hx
      cases h
      refine .inr fun γ vals hr hm hv => ?_
      obtain ⟨v, γ', h1, h2, h3, h4, h5⟩ := this _ _ _ _ hx γ vals hr (by rw [hm]) hv
      exact ⟨v, γ', h1, h2, h3, by rw [h4, hm], h5⟩
    · cases h
  · rename_i imp hc; rw [hc] at this; exact .inr (this _ _ _ _ h)
  · cases h

theorem acallP_sound {P : Program} {Γ : Gam} (hΓ : Sound P Γ) {m m' : AMem} {f : FuncId} {args : List AVal} {r : AVal} (h : acallP Γ m f args = some (r, m')) : RCall P f args m r m' := by
  have := hΓ.fn f
  unfold acallP at h
  split at h
  · rename_i imp hc; rw [hc] at this; exact callPure_sound this h
  · rename_i imp hc
    rw [hc] at this
    split at h
    · exact this _ _ _ _ h
    · cases h
  · cases h

/-- Frames of functions, or of rounds of a loop. -/
def wfen (ro : Option Nat) : Fence := { Fence.wide with round := ro }
theorem callsIn_wd {ro : Option Nat} {n : Nat} {P : Program} {f : FuncId} {args : Array Value} {w : World} {R : Ending → World → Prop} (h : Calls P f args w R) : CallsIn (wfen ro) n P f args w R := callsIn_wide.2 h

/-- An operation's wp, out of what the abstract one says. -/
def StepsTo (P : Program) (n : Nat) (γ : Ghost) (o : Oper) (a : Act) (s' : St) : Prop :=
  ∀ (ro : Option Nat) (K : Act → World → Prop) (Q : Exit → Act → World → Prop), (∀ a' γ', Holds n γ' s' a' → Ext γ γ' → a'.defers = a.defers → K a' γ'.w) → o.wpIn (wfen ro) 0 P a γ.w K Q

theorem put_size {a : Act} {d : Option Nat} {u : Value} : (a.put d u).tmps.size = a.tmps.size := by cases d <;> simp [Act.put]
theorem put_defers {a : Act} {d : Option Nat} {u : Value} : (a.put d u).defers = a.defers := by cases d <;> rfl

theorem stepsTo_did {P : Program} {n : Nat} {γ : Ghost} {o : Oper} {a : Act} {s : St} (hnd : ∀ c, o.op ≠ .defer c) (h : Holds n γ s a) (hd : ∀ x, o.dst = some x → x < n) {v : AVal} {m' : AMem} (hdid : Did P γ (execOp a.eval o) v m') : StepsTo P n γ o a ⟨put s.env o.dst v, m'⟩ := by
  intro ro K Q hK
  obtain ⟨nx, γ', hrun, hnx, hext, hrl, hS⟩ := hdid
  refine ⟨fun _ _ => trivial, ?_⟩
  rw [Oper.semAt_eq _ _ _ hnd, hrun]
  have he' := h.er.mono hext.le
  have hd' : ∀ x, o.dst = some x → x < a.tmps.size := fun x hx => by rw [h.size]; exact hd x hx
  cases nx <;> simp only [NX] at hnx
  · exact hK _ γ' ⟨hrl, hS, he'.put' hd' hnx, put_size.trans h.size⟩ hext put_defers
  · subst hnx
    exact hK _ γ' ⟨hrl, hS, he'.put' hd' .undef, put_size.trans h.size⟩ hext put_defers

theorem run_callFunc {P : Program} {f : FuncId} (h : enterable P f = true) (args : Array Value) (w : World) : (callFunc f args).run P w = .ok (.enter f args) w := by
  unfold enterable at h
  split at h
  · rename_i fn hf
    simp only [Bool.and_eq_true, bne_iff_ne, ne_eq] at h
    have hb : fn.body ≠ none := by cases hb : fn.body <;> simp_all
    simp [callFunc, hf, h.1, hb]
  · cases h

theorem stepsTo_call {P : Program} {n : Nat} {γ : Ghost} {o : Oper} {a : Act} {s : St} (hnd : ∀ c, o.op ≠ .defer c) (h : Holds n γ s a) (hd : ∀ x, o.dst = some x → x < n) {f : FuncId} {args : List AVal} {vals : Array Value} {r : AVal} {m' : AMem}
    (hc : RCall P f args s.m r m') (hv : VRs γ.cx args vals) (hx : (execOp a.eval o).run P γ.w = .ok (.enter f vals) γ.w) : StepsTo P n γ o a ⟨put s.env o.dst r, m'⟩ := by
  intro ro K Q hK
  refine ⟨fun _ _ => trivial, ?_⟩
  rw [Oper.semAt_eq _ _ _ hnd, hx, Oper.uponIn_enter]
  refine ⟨fun h => by simp [wfen, Fence.wide] at h, callsIn_wd ((hc.2 γ vals h.rl h.m hv).mono ?_)⟩
  rintro e w' ⟨v, γ', rfl, rfl, hS, hext, hrl, hvr⟩
  have he' := h.er.mono hext.le
  exact hK _ γ' ⟨hrl, hS, he'.put' (fun x hx => by rw [h.size]; exact hd x hx) hvr, put_size.trans h.size⟩ hext put_defers

theorem stepsTo_yield {P : Program} {n : Nat} {γ : Ghost} {o : Oper} {a : Act} {s : St} (hnd : ∀ c, o.op ≠ .defer c) (h : Holds n γ s a) (hd : ∀ x, o.dst = some x → x < n) {b : Nat} {args : List AVal} {vals : Array Value} {r : AVal} {m' : AMem}
    (hc : YCall P b args s.m r m') (hv : VRs γ.cx args vals) {u : Value} (hu : VR γ.cx (.yld b) u) (hx : ∀ l, u = .func (.yield l) #[] #[] → (execOp a.eval o).run P γ.w = (Instr.yield l vals).run P γ.w) : StepsTo P n γ o a ⟨put s.env o.dst r, m'⟩ := by
  intro ro K Q hK
  refine ⟨fun _ _ => trivial, ?_⟩
  obtain ⟨x, hb, h0, f, tmps, asg, body, hrun, hround⟩ := hc γ vals h.rl h.m hv
  cases hu with
  | yld _ g c hblk =>
    obtain ⟨z, hz, _, hz2⟩ := hblk
    rw [h.m, hb] at hz
    cases hz
    obtain ⟨rfl, _⟩ := hz2 h0.symm
    rw [Oper.semAt_eq _ _ _ hnd, hx _ rfl, hrun, Oper.uponIn_round]
    refine ⟨fun h => by simp [wfen, Fence.wide] at h, RoundIn.mono (F := wfen ro) hround ?_⟩
    rintro e w' ⟨v, γ', rfl, rfl, hS, hext, hrl, hvr⟩
    have he' := h.er.mono hext.le
    exact hK _ γ' ⟨hrl, hS, he'.put' (fun x hx => by rw [h.size]; exact hd x hx) hvr, put_size.trans h.size⟩ hext put_defers

theorem vrs_map {κ : Cx} {ρ : Operand → AVal} {σ : Operand → Value} (h : ∀ x, VR κ (ρ x) (σ x)) (xs : Array Operand) : VRs κ (xs.toList.map ρ) (xs.map σ) := fnvals h xs

theorem VRs.append {κ : Cx} {xs ys : List AVal} {us vs : Array Value} (h : VRs κ xs us) (k : VRs κ ys vs) : VRs κ (xs ++ ys) (us ++ vs) := by
  refine ⟨by simp [h.1, k.1], fun j hj => ?_⟩
  by_cases hjx : j < xs.length
  · rw [List.getElem_append_left hjx]
    have := h.2 j hjx
    simp only [Array.getD_eq_getD_getElem?] at this ⊢
    rw [Array.getElem?_append_left (by rw [h.1]; exact hjx)]
    exact this
  · have hj2 : j - xs.length < ys.length := by simp at hj; omega
    rw [List.getElem_append_right (by omega)]
    have := k.2 _ hj2
    simp only [Array.getD_eq_getD_getElem?] at this ⊢
    rw [Array.getElem?_append_right (by rw [h.1]; omega), h.1]
    exact this

theorem aexec_nodefer {P : Program} {Γ : Gam} {mu : Bool} {m : AMem} {ρ : Operand → AVal} {op : Op} {v : AVal} {m' : AMem} (hx : aexec P Γ mu m ρ op = some (v, m')) : ∀ c, op ≠ .defer c := by
  rintro c rfl
  simp [aexec, aop] at hx

theorem aexec_sound {P : Program} {Γ : Gam} (hΓ : Sound P Γ) {mu : Bool} {n : Nat} {γ : Ghost} {o : Oper} {a : Act} {s : St} (h : Holds n γ s a) (hd : ∀ x, o.dst = some x → x < n) {v : AVal} {m' : AMem}
    (hx : aexec P Γ mu s.m (ev s.env) o.op = some (v, m')) : StepsTo P n γ o a ⟨put s.env o.dst v, m'⟩ := by
  have hE : ∀ x, VR γ.cx (ev s.env x) (a.eval x) := fun x => h.er.ev x
  have hnd := aexec_nodefer hx
  have viaOp : aop P mu s.m (ev s.env) o.op = some (v, m') → StepsTo P n γ o a ⟨put s.env o.dst v, m'⟩ := fun hop =>
    stepsTo_did hnd h hd (aop_sound h.rl h.er (by rw [h.m]; exact hop))
  cases hop : o.op with
  | call c =>
    rw [hop] at hx
    simp only [aexec] at hx
    cases hc : c.callee with
    | builtin b =>
      simp only [hc] at hx
      refine viaOp ?_
      rw [hop]
      simp only [aop, hc]
      exact hx
    | invoke r mm => simp [hc] at hx
    | value x =>
      simp only [hc] at hx
      have dyn : (match ev s.env x with
          | .fn f first caps => acallP Γ s.m f (first ++ c.args.toList.map (ev s.env) ++ caps)
          | .yld b => if Γ.dy = true then Γ.yl b (c.args.toList.map (ev s.env)) s.m else none
          | _ => none) = some (v, m') → StepsTo P n γ o a ⟨put s.env o.dst v, m'⟩ := by
        intro hx
        split at hx
        · rename_i f first caps hfn
          have hv := hE x
          rw [hfn] at hv
          have hrc := acallP_sound hΓ hx
          cases hav : a.eval x <;> rw [hav] at hv <;> cases hv
          rename_i xs ys h1 h2 k1 k2
          have hargs := vrs_map hE c.args
          refine stepsTo_call hnd h hd hrc ((VRs.append ⟨h1, h2⟩ hargs).append ⟨k1, k2⟩) ?_
          simp only [execOp, hop, resolve, hc, hav, Deferred.ofValue, invoke, Sem.run_bind, Sem.run_pure, Result.andThen_ok]
          exact run_callFunc hrc.1 _ _
        · rename_i b hfn
          split at hx
          case isFalse => cases hx
          have hv := hE x
          rw [hfn] at hv
          have hyc := hΓ.yl _ _ _ _ _ hx
          have hargs := vrs_map hE c.args
          refine stepsTo_yield hnd h hd hyc hargs hv fun l hl => ?_
          simp only [execOp, hop, resolve, hc, hl, Deferred.ofValue, invoke, Sem.run_bind, Sem.run_pure, Result.andThen_ok]
          simp
        · cases hx
      cases x with
      | func f =>
        have hargs := vrs_map hE c.args
        rcases acall_sound hΓ hx with hrc | hlc
        case inr =>
          obtain ⟨u, γ', e1, e2, e3, e4, e5⟩ := hlc γ _ h.rl h.m hargs
          refine stepsTo_did hnd h hd ⟨.value u, γ', ?_, e5, e2, e3, e4⟩
          simp only [execOp, hop, resolve, hc, Act.eval, Deferred.ofValue, invoke, Sem.run_bind, Sem.run_pure, Result.andThen_ok]
          simpa using e1
        refine stepsTo_call hnd h hd hrc hargs ?_
        simp only [execOp, hop, resolve, hc, Act.eval, Deferred.ofValue, invoke, Sem.run_bind, Sem.run_pure, Result.andThen_ok]
        have := run_callFunc hrc.1 (c.args.map a.eval) γ.w
        simpa using this
      | tmp t => exact dyn hx
      | const k => exact dyn hx
      | global g => exact dyn hx
  | _ => exact viaOp (by rw [hop] at hx ⊢; exact hx)

/-- One operation of a region, its guard too. -/
theorem astep_sound {P : Program} {Γ : Gam} (hΓ : Sound P Γ) {mu : Bool} {n : Nat} {γ : Ghost} {ops : Array Oper} {o : Oper} {a : Act} {s s' : St} (h : Holds n γ s a) (hd : ∀ x, o.dst = some x → x < n) (hs : astep P Γ mu ops o s = some s')
    {ro : Option Nat} {K : Act → World → Prop} {Q : Exit → Act → World → Prop} (hK : ∀ a' γ', Holds n γ' s' a' → Ext γ γ' → a'.defers = a.defers → K a' γ'.w) :
    if Region.wanted o (yielded ops a.tmps) then o.wpIn (wfen ro) 0 P a γ.w K Q else (∀ f, o.about P γ.w a.eval = some f → (wfen ro).fn f) ∧ K (a.put o.dst undef) γ.w := by
  unfold astep at hs
  cases hg : aguard ops s.env o with
  | none => simp [hg] at hs
  | some g =>
    simp only [hg] at hs
    rw [guard_sound h.er hg]
    cases g with
    | true =>
      simp only [if_true] at hs ⊢
      split at hs
      · rename_i v m' hx
        simp only [Option.some.injEq] at hs; subst hs
        exact aexec_sound hΓ h hd hx ro K Q hK
      · cases hs
    | false =>
      simp only [Bool.false_eq_true, if_false, Option.some.injEq] at hs ⊢
      subst hs
      exact ⟨fun _ _ => trivial, hK _ γ ⟨h.rl, h.m, h.er.put' (fun x hx => by rw [h.size]; exact hd x hx) .undef, put_size.trans h.size⟩ (Ext.refl γ) put_defers⟩

theorem aops_sound {P : Program} {Γ : Gam} (hΓ : Sound P Γ) {mu : Bool} {n : Nat} {ops : Array Oper} {ro : Option Nat} {Q : Exit → Act → World → Prop} : ∀ (l : List Oper) (γ : Ghost) (a : Act) (s s' : St), (∀ o ∈ l, ∀ x, o.dst = some x → x < n) → Holds n γ s a → aops P Γ mu ops l s = some s' →
    (∀ a' γ', Holds n γ' s' a' → Ext γ γ' → a'.defers = a.defers → Q .normal a' γ'.w) → wpListIn (wfen ro) 0 P ops Q l a γ.w
  | [], γ, a, s, s', _, h, hs, hQ => by
    simp only [aops, Option.some.injEq] at hs; subst hs
    exact hQ a γ h (Ext.refl γ) rfl
  | o :: l, γ, a, s, s', hd, h, hs, hQ => by
    simp only [aops] at hs
    obtain ⟨s1, h1, h2⟩ := Option.bind_eq_some_iff.1 hs
    exact astep_sound (ro := ro) (K := wpListIn (wfen ro) 0 P ops Q l) (Q := Q) hΓ h (hd o (by simp)) h1 (fun a' γ' h' he hdf => aops_sound hΓ l γ' a' s1 s' (fun o' ho' => hd o' (by simp [ho'])) h' h2 (fun a'' γ'' h'' he' hdf' => hQ a'' γ'' h'' (he.trans he') (hdf'.trans hdf)))

end Go.Hk
