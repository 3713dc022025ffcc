/- Code: what holds behind it, over abstract states. -/
import Derived.Test.YtbnhflckmfmkoaaDoorHkCut
namespace Go.Hk

/-- Behind a piece of code that began at the ghost γ: some abstract state, of which Q. -/
def AQ (hk tk : Nat) (γ : Ghost) (n : Nat) (Q : Exit → St → Prop) : Exit → Act → World → Prop := fun e a w =>
  ∃ γ' s, γ'.w = w ∧ ExtN hk tk γ γ' ∧ Holds n γ' s a ∧ Q e s

/-- From the abstract state s on, code c ends in a way, and in an abstract state, of which Q. -/
def AWp (P : Program) (n hk tk : Nat) (c : Code) (Q : Exit → St → Prop) (s : St) : Prop :=
  ∀ γ a, Holds n γ s a → c.wp P (AQ hk tk γ n Q) a γ.w

section rules
variable {P : Program} {n hk tk : Nat} {Q : Exit → St → Prop} {s : St}

theorem AQ.trans {γ γ' : Ghost} (h : ExtN hk tk γ γ') {e : Exit} {a : Act} {w : World} (k : AQ hk tk γ' n Q e a w) : AQ hk tk γ n Q e a w := by
  obtain ⟨γ'', s, h1, h2, h3, h4⟩ := k
  exact ⟨γ'', s, h1, h.trans h2, h3, h4⟩

theorem AWp.mono {c : Code} {Q' : Exit → St → Prop} (h : AWp P n hk tk c Q s) (hq : ∀ e s, Q e s → Q' e s) : AWp P n hk tk c Q' s := fun γ a hh =>
  wp_mono (h γ a hh) fun _ _ _ ⟨γ', s', h1, h2, h3, h4⟩ => ⟨γ', s', h1, h2, h3, hq _ _ h4⟩

theorem AWp.skip (h : Q .normal s) : AWp P n hk tk .skip Q s := fun γ _ hh => wp_skip ⟨γ, s, rfl, ExtN.refl γ, hh, h⟩
theorem AWp.ret (h : Q .ret s) : AWp P n hk tk .ret Q s := fun γ _ hh => wp_ret ⟨γ, s, rfl, ExtN.refl γ, hh, h⟩
theorem AWp.exit {id : Nat} (h : Q (.exit id) s) : AWp P n hk tk (.exit id) Q s := fun γ _ hh => wp_exit ⟨γ, s, rfl, ExtN.refl γ, hh, h⟩
theorem AWp.label {l : Nat} (h : Q .normal s) : AWp P n hk tk (.label l) Q s := fun γ _ hh => wp_label ⟨γ, s, rfl, ExtN.refl γ, hh, h⟩

/-- What is asked behind the first of two pieces. -/
def seqQ (next : St → Prop) (Q : Exit → St → Prop) : Exit → St → Prop
  | .normal, s => next s
  | e, s => Q e s

theorem AWp.seq {x y : Code} (h : AWp P n hk tk x (seqQ (AWp P n hk tk y Q) Q) s) : AWp P n hk tk (.seq x y) Q s := fun γ a hh => by
  refine wp_seq (wp_mono (h γ a hh) fun e a' w' hq => ?_)
  obtain ⟨γ', s', rfl, h2, h3, h4⟩ := hq
  cases e <;> simp only [seqQ] at h4
  case normal => exact wp_mono (h4 γ' a' h3) fun _ _ _ k => AQ.trans h2 k
  all_goals exact ⟨γ', s', rfl, h2, h3, h4⟩

theorem AWp.cond {c : Operand} {x y : Code} {t : Bool} (hc : ev s.env c = .bool t) (h : AWp P n hk tk (if t then x else y) Q s) : AWp P n hk tk (.cond c x y) Q s := fun γ a hh => by
  have hv := hh.er.ev c
  rw [hc] at hv
  have : a.eval c = .bool t := by cases hav : a.eval c <;> rw [hav] at hv <;> cases hv; rfl
  exact wp_cond this (h γ a hh)

def blockQ (id : Nat) (Q : Exit → St → Prop) : Exit → St → Prop
  | .exit id', s => if id' = id then Q .normal s else Q (.exit id') s
  | e, s => Q e s

theorem AWp.block {id : Nat} {c : Code} (h : AWp P n hk tk c (blockQ id Q) s) : AWp P n hk tk (.block id c) Q s := fun γ a hh => by
  refine wp_block (wp_mono (h γ a hh) fun e a' w' hq => ?_)
  obtain ⟨γ', s', rfl, h2, h3, h4⟩ := hq
  cases e <;> simp only [blockQ] at h4
  case exit id' =>
    simp only [Exit.inBlock]
    split
    · rename_i hid; rw [if_pos hid] at h4; exact ⟨γ', s', rfl, h2, h3, h4⟩
    · rename_i hid; rw [if_neg hid] at h4; exact ⟨γ', s', rfl, h2, h3, h4⟩
  all_goals exact ⟨γ', s', rfl, h2, h3, h4⟩

/-- A loop, with a number that every round lowers. -/
theorem wp_loop_ghost {c : Code} {Q : Exit → Act → World → Prop} (I : Nat → Act → World → Prop)
    (round : ∀ k a w, I k a w → c.wp P (Exit.then (fun a' w' => ∃ k', k' < k ∧ I k' a' w') Q) a w) : ∀ (k : Nat) (a : Act) (w : World), I k a w → (Code.loop c).wp P Q a w := by
  intro k a w hI b r cs
  have key : ∀ n a w, I n a w → ∃ e a' w', Q e a' w' ∧ Arrives P (lone (b.at a (.code c :: .inLoop c :: r)) cs w) b r cs e a' w' := by
    intro n
    induction n using Nat.strongRecOn with
    | _ n ih =>
      intro a w hI
      obtain ⟨e, a₁, w₁, hq, harr⟩ := round n a w hI b (.inLoop c :: r) cs
      cases e with
      | normal =>
        obtain ⟨k', hlt, hI₁⟩ := hq
        obtain ⟨e₂, a₂, w₂, hq₂, harr₂⟩ := ih k' hlt a₁ w₁ hI₁
        exact ⟨e₂, a₂, w₂, hq₂, .of_steps (Steps.trans harr (.one step_inLoop)) harr₂⟩
      | exit id => exact ⟨_, a₁, w₁, hq, .pass (x := .inLoop c) rfl (fun _ _ => .inl (by simp)) harr⟩
      | goto l => exact ⟨_, a₁, w₁, hq, .pass (x := .inLoop c) rfl (fun _ _ => .inl (by simp)) harr⟩
      | ret => exact ⟨_, a₁, w₁, hq, .pass (x := .inLoop c) rfl (fun _ _ => .inl (by simp)) harr⟩
      | panic ch => exact ⟨_, a₁, w₁, hq, .pass (x := .inLoop c) rfl (fun _ _ => .inl (by simp)) harr⟩
      | outgrown => exact ⟨_, a₁, w₁, hq, .pass (x := .inLoop c) rfl (fun _ _ => .inl (by simp)) harr⟩
  obtain ⟨e, a', w', hq, harr⟩ := key k a w hI
  exact ⟨e, a', w', hq, .of_steps (.one step_loop) harr⟩

/-- A loop: what holds at each round's head, with a number that every round lowers. -/
theorem AWp.loop {c : Code} (I : Nat → St → Prop) (round : ∀ k s, I k s → AWp P n hk tk c (seqQ (fun s' => ∃ k', k' < k ∧ I k' s') Q) s) {k : Nat} (h : I k s) : AWp P n hk tk (.loop c) Q s := fun γ a hh => by
  refine wp_loop_ghost (fun k a w => ∃ γ' s', γ'.w = w ∧ ExtN hk tk γ γ' ∧ Holds n γ' s' a ∧ I k s') (fun k a w hI => ?_) k a γ.w ⟨γ, s, rfl, ExtN.refl γ, hh, h⟩
  obtain ⟨γ', s', rfl, h2, h3, h4⟩ := hI
  refine wp_mono (round k s' h4 γ' a h3) fun e a' w' hq => ?_
  obtain ⟨γ'', s'', rfl, k2, k3, k4⟩ := hq
  cases e <;> simp only [seqQ] at k4
  case normal =>
    obtain ⟨k', hlt, hI'⟩ := k4
    exact ⟨k', hlt, γ'', s'', rfl, h2.trans k2, k3, hI'⟩
  all_goals exact ⟨γ'', s'', rfl, h2.trans k2, k3, k4⟩

/-- Every temporary that is written is there. -/
def dstOK (n : Nat) (ops : List Oper) : Bool := ops.all fun o => match o.dst with | some d => decide (d < n) | none => true

theorem dstOK_spec {n : Nat} {ops : List Oper} (h : dstOK n ops = true) : ∀ o ∈ ops, ∀ x, o.dst = some x → x < n := by
  intro o ho x hx
  have := List.all_eq_true.1 h o ho
  simpa [hx] using this

theorem AWp.region {Γ : Gam} (hΓ : Sound P Γ) {mu : Bool} {id : Nat} {ops : Array Oper} {s' : St} (hd : dstOK n ops.toList = true) (he : aops P Γ mu ops ops.toList s = some s') (h : Q .normal s') : AWp P n hk tk (.region id ops false) Q s := fun γ a hh =>
  wp_region_list (aops_sound hΓ ops.toList γ a s s' (dstOK_spec hd) hh he fun _ γ' hh' hext => ⟨γ', s', rfl, hext.toN, hh', h⟩)

end rules

/-! ### Functions -/

def envFrom : Nat → List AVal → List (Nat × AVal)
  | _, [] => []
  | i, v :: vs => (i, v) :: envFrom (i + 1) vs

theorem lk_envFrom : ∀ (vs : List AVal) (i t : Nat), lk (envFrom i vs) t = if i ≤ t then vs.getD (t - i) .dead else .dead
  | [], i, t => by simp [envFrom, lk]
  | v :: vs, i, t => by
    simp only [envFrom, lk]
    by_cases h : i = t
    · subst h; simp
    · rw [if_neg h, lk_envFrom vs (i + 1) t]
      by_cases h2 : i ≤ t
      · rw [if_pos h2, if_pos (by omega)]
        rw [show t - i = (t - (i + 1)) + 1 by omega]
        simp
      · rw [if_neg h2, if_neg (by omega)]

def aresL (P : Program) (s : St) : List ResultVar → Option (List AVal)
  | [] => some []
  | .tmp t :: r => (match aresL P s r with | some vs => some (lk s.env t :: vs) | none => none)
  | .cell a t :: r => (match aload P t s.m (lk s.env a), aresL P s r with | some v, some vs => some (v :: vs) | _, _ => none)

/-- What a function hands back. -/
def ares (P : Program) (rs : List ResultVar) (s : St) : Option AVal :=
  match aresL P s rs with
  | some [] => some .undef
  | some [v] => some v
  | some (v :: w :: r) => some (.tup v (w :: r))
  | none => none

theorem aresL_sound {P : Program} {n : Nat} {γ : Ghost} {s : St} {a : Act} (h : Holds n γ s a) : ∀ (rs : List ResultVar) (vs : List AVal), aresL P s rs = some vs →
    ∃ us : List Value, (rs.mapM (m := Sem) fun r => match r with | .tmp t => pure (a.tmps.getD t undef) | .cell x t => do loadVar t (← asAddr (a.tmps.getD x undef))).run P γ.w = .ok us γ.w ∧
      us.length = vs.length ∧ ∀ (j : Nat) (h : j < vs.length), VR γ.cx vs[j] (us.getD j undef)
  | [], vs, hv => by
    simp only [aresL, Option.some.injEq] at hv; subst hv
    exact ⟨[], by simp, rfl, fun j h => absurd h (Nat.not_lt_zero j)⟩
  | .tmp t :: r, vs, hv => by
    simp only [aresL] at hv
    split at hv
    · rename_i ws hws
      simp only [Option.some.injEq] at hv; subst hv
      obtain ⟨us, h1, h2, h3⟩ := aresL_sound h r ws hws
      refine ⟨a.tmps.getD t undef :: us, ?_, by simp [h2], fun j hj => ?_⟩
      · rw [List.mapM_cons]
        simp only [Sem.run_bind, Sem.run_pure, Result.andThen_ok, h1]
      · cases j with
        | zero => exact h.er t
        | succ j => exact h3 j (Nat.lt_of_succ_lt_succ hj)
    · cases hv
  | .cell x t :: r, vs, hv => by
    simp only [aresL] at hv
    split at hv
    · rename_i v ws hld hws
      simp only [Option.some.injEq] at hv; subst hv
      obtain ⟨us, h1, h2, h3⟩ := aresL_sound h r ws hws
      rw [← h.m] at hld
      obtain ⟨u, k1, k2⟩ := aload_sound (P := P) h.rl hld (h.er x)
      have hadr : ∃ ad, a.tmps.getD x undef = .pointer (some ad) := by
        have hx := h.er x
        generalize a.tmps.getD x undef = y at hx
        cases hl : lk s.env x <;> rw [hl] at hld <;> simp only [aload, reduceCtorEq] at hld <;> rw [hl] at hx <;> cases hx <;> exact ⟨_, rfl⟩
      obtain ⟨ad, had⟩ := hadr
      rw [had] at k1
      have k1' : (loadVar t ad).run P γ.w = .ok u γ.w := by simpa [Instr.loadAt, Instr.sureAddr] using k1
      refine ⟨u :: us, ?_, by simp [h2], fun j hj => ?_⟩
      · rw [List.mapM_cons]
        have e1 : ((do loadVar t (← asAddr (a.tmps.getD x undef))) : Sem Value).run P γ.w = .ok u γ.w := by simp [had, asAddr, k1']
        rw [Sem.run_bind]
        refine (congrArg (fun r => Result.andThen r _) e1).trans ?_
        simp only [Result.andThen_ok]
        rw [Sem.run_bind]
        exact (congrArg (fun r => Result.andThen r _) h1).trans rfl
      · cases j with
        | zero => exact k2
        | succ j => exact h3 j (Nat.lt_of_succ_lt_succ hj)
    · cases hv

theorem ares_sound {P : Program} {n : Nat} {γ : Ghost} {s : St} {a : Act} (h : Holds n γ s a) {fn : Func} {v : AVal} (hv : ares P fn.results.toList s = some v) : ∃ u, (results fn a.tmps).run P γ.w = .ok u γ.w ∧ VR γ.cx v u := by
  unfold ares at hv
  have key : ∀ vs, aresL P s fn.results.toList = some vs → ∃ us : List Value, us.length = vs.length ∧ (∀ (j : Nat) (h : j < vs.length), VR γ.cx vs[j] (us.getD j undef)) ∧
      (results fn a.tmps).run P γ.w = .ok (if h : us.toArray.size = 1 then us.toArray[0] else .tuple us.toArray) γ.w := by
    intro vs hvs
    obtain ⟨us, h1, h2, h3⟩ := aresL_sound h _ _ hvs
    refine ⟨us, h2, h3, ?_⟩
    have hm : (fn.results.mapM (m := Sem) fun r => match r with | .tmp t => pure (a.tmps.getD t undef) | .cell x t => do loadVar t (← asAddr (a.tmps.getD x undef))).run P γ.w = .ok us.toArray γ.w := by
      rw [← Array.toArray_toList (xs := fn.results), List.mapM_toArray, Sem.run_map, h1]
      rfl
    unfold results
    rw [Sem.run_bind]
    exact (congrArg (fun r => Result.andThen r _) hm).trans rfl
  split at hv
  · rename_i hl
    simp only [Option.some.injEq] at hv; subst hv
    obtain ⟨us, h1, h2, h3⟩ := key _ hl
    have : us = [] := List.eq_nil_of_length_eq_zero (by simpa using h1)
    subst this
    exact ⟨_, h3, by simpa using VR.undef⟩
  · rename_i x hl
    simp only [Option.some.injEq] at hv; subst hv
    obtain ⟨us, h1, h2, h3⟩ := key _ hl
    cases us with
    | nil => simp at h1
    | cons u us =>
      cases us with
      | cons => simp at h1
      | nil => exact ⟨_, h3, by simpa using h2 0 (by simp)⟩
  · rename_i x y r hl
    simp only [Option.some.injEq] at hv; subst hv
    obtain ⟨us, h1, h2, h3⟩ := key _ hl
    refine ⟨_, h3, ?_⟩
    have hne : ¬ (us.toArray.size = 1) := by simp at h1 ⊢; omega
    rw [dif_neg hne]
    exact .tup x (y :: r) us.toArray (by simpa using h1) (fun j hj => by simpa using h2 j hj)
  · cases hv

/-- What a body that began at these arguments is asked. -/
def FnQ (P : Program) (rs : List ResultVar) (R : AVal → St → Prop) : Exit → St → Prop
  | .normal, s | .ret, s => ∃ r, ares P rs s = some r ∧ R r s
  | _, _ => False

theorem ext_drop {γ γ' : Ghost} (h0 : γ.S = ⟨[], []⟩) (h : Ext γ γ') : Ext γ γ'.drop where
  bad := h.bad
  lo := h.lo
  size := h.size
  os := h.os
  tape := h.tape
  output := h.output
  cell := fun g o v hc => drop_cell (h.cell g o v hc)
  blk := fun b e g c ⟨y, hy, _⟩ => by rw [h0] at hy; simp at hy
  tip := fun t len b c ⟨y, z, hy, _⟩ => by rw [h0] at hy; simp at hy
  own := h.own
  frame := h.frame
  owns := fun k hk => by
    rcases hk with ⟨b, hb⟩ | ⟨t, ht⟩
    · exact absurd hb drop_noblk
    · exact absurd ht drop_notok

theorem enter_holds {γ : Ghost} {args : List AVal} {vals : Array Value} {m : AMem} (hr : Rl γ) (hm : γ.S = m) (hv : VRs γ.cx args vals) {n : Nat} (hn : args.length ≤ n) :
    Holds n γ ⟨envFrom 0 args, m⟩ { tmps := vals ++ Array.replicate (n - vals.size) undef, defers := [] } := by
  refine ⟨hr, hm, fun t => ?_, by simp [hv.1]; omega, rfl⟩
  rw [lk_envFrom, if_pos (Nat.zero_le _), Nat.sub_zero]
  by_cases ht : t < args.length
  · have := hv.2 t ht
    simp only [Array.getD_eq_getD_getElem?, List.getD_eq_getElem?_getD, List.getElem?_eq_getElem ht, Option.getD_some] at this ⊢
    rw [Array.getElem?_append_left (by rw [hv.1]; exact ht)]
    exact this
  · rw [List.getD_eq_getElem?_getD, List.getElem?_eq_none (by omega)]
    exact .dead _

/-- A function's contract, out of its body: it looks at nothing but its arguments. -/
theorem PCall.of_body {P : Program} {f : FuncId} {fn : Func} {c : Code} {args : List AVal} {r : AVal} (hf : P.funcs[f]? = some fn) (hb : fn.body = some c) (hen : enterable P f = true) (hn : args.length ≤ fn.ntmps)
    (h : AWp P fn.ntmps 0 0 c (FnQ P fn.results.toList fun r0 s => view 8 s.m r0 = some r) ⟨envFrom 0 args, ⟨[], []⟩⟩) : PCall P f args r := by
  refine ⟨hen, fun γ vals hr hm hv => ?_⟩
  refine calls_of_wp hf hb (wp_mono (h γ _ (by
    have := enter_holds hr hm hv hn
    exact this)) fun e a w hq => ?_)
  obtain ⟨γ', s, rfl, h2, h3, h4⟩ := hq
  have h2 : Ext γ γ' := ExtN.full (by rw [hm]; exact h2)
  cases e <;> simp only [FnQ] at h4
  all_goals
    obtain ⟨r0, k1, k2⟩ := h4
    obtain ⟨u, u1, u2⟩ := ares_sound h3 k1
    rw [← h3.m] at k2
    exact ⟨h3.defers, u, u1, u, γ'.drop, rfl, rfl, rfl, ext_drop hm h2, rl_drop h3.rl, view_sound h3.rl _ _ _ _ k2 u2⟩

/-- What a function leaves: the memory said, and perhaps what nobody names. -/
def Left (r : AVal) (m' m : AMem) : Prop :=
  m = m' ∨ (∃ G X, m = ⟨m'.H ++ G, m'.T ++ X⟩) ∧ m'.H.all (cloB m'.H.length m'.T.length) = true ∧ clo m'.H.length m'.T.length r = true

/-- The same of a function that is handed memory to write. -/
theorem RCall.of_body {P : Program} {f : FuncId} {fn : Func} {c : Code} {args : List AVal} {r : AVal} {m m' : AMem} (hf : P.funcs[f]? = some fn) (hb : fn.body = some c) (hen : enterable P f = true) (hn : args.length ≤ fn.ntmps)
    (hH : m.H.length ≤ m'.H.length) (hT : m.T.length ≤ m'.T.length)
    (h : AWp P fn.ntmps m.H.length m.T.length c (FnQ P fn.results.toList fun r0 s => r0 = r ∧ Left r m' s.m) ⟨envFrom 0 args, m⟩) : RCall P f args m r m' := by
  refine ⟨hen, fun γ vals hr hm hv => ?_⟩
  refine calls_of_wp hf hb (wp_mono (h γ _ (enter_holds hr hm hv hn)) fun e a w hq => ?_)
  obtain ⟨γ', s, rfl, h2, h3, h4⟩ := hq
  have key : ∀ r0, ares P fn.results.toList s = some r0 → r0 = r → Left r m' s.m → a.defers = [] ∧ ∃ u, (results fn a.tmps).run P γ'.w = .ok u γ'.w ∧ ∃ v γ'', Ending.returned u = Ending.returned v ∧ γ''.w = γ'.w ∧ γ''.S = m' ∧ Ext γ γ'' ∧ Rl γ'' ∧ VR γ''.cx r v := by
    rintro r0 k1 rfl k3
    obtain ⟨u, u1, u2⟩ := ares_sound h3 k1
    refine ⟨h3.defers, u, u1, ?_⟩
    rcases k3 with hm' | ⟨⟨G, X, hm'⟩, hB, hc⟩
    · exact ⟨u, γ', rfl, rfl, h3.m.trans hm', ExtN.full (by rw [hm]; exact h2), h3.rl, u2⟩
    · have hS : (γ'.cut m'.H.length m'.T.length).S = m' := by
        have := h3.m
        simp only [Ghost.cut, this, hm', List.take_left']
      refine ⟨u, γ'.cut m'.H.length m'.T.length, rfl, rfl, hS, ExtN.full ?_, rl_cut h3.rl ?_, u2.cut hc⟩
      · rw [hm]
        exact h2.trans (ext_cut hH hT)
      · rw [h3.m, hm']
        simpa only [List.take_left'] using hB
  cases e <;> simp only [FnQ] at h4
  all_goals
    obtain ⟨r0, k1, k2, k3⟩ := h4
    exact key r0 k1 k2 k3

/-- The memory that is left, where what is handed back names nothing. -/
def LeftM (m' m : AMem) : Prop := m = m' ∨ (∃ G X, m = ⟨m'.H ++ G, m'.T ++ X⟩) ∧ m'.H.all (cloB m'.H.length m'.T.length) = true
/-- The same, where what is handed back bears no rights. -/
theorem RCall.of_body_s {P : Program} {f : FuncId} {fn : Func} {c : Code} {args : List AVal} {r : AVal} {m m' : AMem} (hf : P.funcs[f]? = some fn) (hb : fn.body = some c) (hen : enterable P f = true) (hn : args.length ≤ fn.ntmps)
    (hH : m.H.length ≤ m'.H.length) (hT : m.T.length ≤ m'.T.length)
    (h : AWp P fn.ntmps m.H.length m.T.length c (FnQ P fn.results.toList fun r0 s => strip r0 = some r ∧ LeftM m' s.m) ⟨envFrom 0 args, m⟩) : RCall P f args m r m' := by
  refine ⟨hen, fun γ vals hr hm hv => ?_⟩
  refine calls_of_wp hf hb (wp_mono (h γ _ (enter_holds hr hm hv hn)) fun e a w hq => ?_)
  obtain ⟨γ', s, rfl, h2, h3, h4⟩ := hq
  have key : ∀ r0, ares P fn.results.toList s = some r0 → strip r0 = some r → LeftM m' s.m → a.defers = [] ∧ ∃ u, (results fn a.tmps).run P γ'.w = .ok u γ'.w ∧ ∃ v γ'', Ending.returned u = Ending.returned v ∧ γ''.w = γ'.w ∧ γ''.S = m' ∧ Ext γ γ'' ∧ Rl γ'' ∧ VR γ''.cx r v := by
    rintro r0 k1 k2 k3
    obtain ⟨u, u1, u2⟩ := ares_sound h3 k1
    refine ⟨h3.defers, u, u1, ?_⟩
    rcases k3 with hm' | ⟨⟨G, X, hm'⟩, hB⟩
    · exact ⟨u, γ', rfl, rfl, h3.m.trans hm', ExtN.full (by rw [hm]; exact h2), h3.rl, strip_sound (fun _ _ _ h => h) u2 _ k2⟩
    · have hS : (γ'.cut m'.H.length m'.T.length).S = m' := by
        have := h3.m
        simp only [Ghost.cut, this, hm', List.take_left']
      refine ⟨u, γ'.cut m'.H.length m'.T.length, rfl, rfl, hS, ExtN.full ?_, rl_cut h3.rl ?_, (strip_sound (fun _ _ _ h => h) u2 _ k2).cut (clo_strip _ _ k2)⟩
      · rw [hm]
        exact h2.trans (ext_cut hH hT)
      · rw [h3.m, hm']
        simpa only [List.take_left'] using hB
  cases e <;> simp only [FnQ] at h4
  all_goals
    obtain ⟨r0, k1, k2, k3⟩ := h4
    exact key r0 k1 k2 k3

end Go.Hk
