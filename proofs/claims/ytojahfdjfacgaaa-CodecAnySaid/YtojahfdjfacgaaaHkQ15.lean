/- Code: what holds behind it, over abstract states. -/
import Derived.Test.YtojahfdjfacgaaaHkQ14
namespace Go.Hk

/-- Marks that rounds have left: of what is deferred, nothing. -/
def mark (D : Nat) : Deferred := { target := .collected D, args := #[] }
structure Zb where
  n : Nat
  d : List Deferred
  ok : Bool
structure Mk (z : Zb) (γ : Ghost) (ds : List Deferred) : Prop where
  le : z.n ≤ γ.w.heap.size
  dm : ∃ Ds : List Nat, ds = Ds.map mark ++ z.d ∧ Ds.Nodup ∧ ∀ D ∈ Ds, z.n ≤ D ∧ γ.w.heap[D]? = some (.deferred (some [])) ∧ ¬ γ.owns D
  no : z.ok = false → ds = z.d
theorem Mk.nil {z : Nat} {d : List Deferred} {b : Bool} {γ : Ghost} (h : z ≤ γ.w.heap.size) : Mk ⟨z, d, b⟩ γ d := ⟨h, ⟨[], rfl, List.nodup_nil, fun _ h => absurd h (by simp)⟩, fun _ => rfl⟩
theorem ExtN.unowned {hk tk : Nat} {γ γ' : Ghost} (he : ExtN hk tk γ γ') {D : Nat} {x : Option (List Deferred)} (h : γ.w.heap[D]? = some (.deferred x)) (ho : ¬ γ.owns D) : γ'.w.heap[D]? = some (.deferred x) ∧ ¬ γ'.owns D := by
  have hlt := heap_lt h
  refine ⟨?_, fun h' => ?_⟩
  · rcases he.frame D hlt ho with h1 | ⟨_, arr, ty, f, f', h1, _⟩
    · rw [h1]; exact h
    · rw [h] at h1; cases h1
  · rcases he.owns D h' with h1 | h1
    · exact ho h1
    · omega
theorem Mk.ext {z : Zb} {hk tk : Nat} {γ γ' : Ghost} {ds : List Deferred} (h : Mk z γ ds) (he : ExtN hk tk γ γ') : Mk z γ' ds := by
  obtain ⟨h1, ⟨Ds, h2, h3, h4⟩, h5⟩ := h
  exact ⟨Nat.le_trans h1 he.size, ⟨Ds, h2, h3, fun D hD => by
    obtain ⟨k1, k2, k3⟩ := h4 D hD
    exact ⟨k1, he.unowned k2 k3⟩⟩, h5⟩

/-- Behind a piece of code that began at the ghost γ: some abstract state, of which Q. -/
def AQ (z : Zb) (hk tk : Nat) (γ : Ghost) (n : Nat) (Q : Exit → St → Prop) : Exit → Act → World → Prop := fun e a w =>
  ∃ γ' s, γ'.w = w ∧ ExtN hk tk γ γ' ∧ (Holds n γ' s a ∧ Mk z γ' a.defers) ∧ Q e s

/-- Is there a range over a function? -/
def rf : Code → Bool
  | .rangeFunc _ _ _ _ => true
  | .seq a b => rf a || rf b
  | .cond _ a b => rf a || rf b
  | .block _ a => rf a
  | .loop a => rf a
  | .scope a => rf a
  | _ => false

/-- From the abstract state s on, code c ends in a way, and in an abstract state, of which Q. -/
def AWp (P : Program) (n hk tk : Nat) (c : Code) (Q : Exit → St → Prop) (s : St) : Prop :=
  ∀ (ro : Option Nat) (z : Zb) γ a, (rf c = true → ro = none ∧ z.ok = true) → Holds n γ s a → Mk z γ a.defers → c.wpIn (wfen ro) 0 P (AQ z hk tk γ n Q) a γ.w

section rules
variable {P : Program} {n hk tk : Nat} {Q : Exit → St → Prop} {s : St}

theorem AQ.trans {z : Zb} {γ γ' : Ghost} (h : ExtN hk tk γ γ') {e : Exit} {a : Act} {w : World} (k : AQ z hk tk γ' n Q e a w) : AQ z hk tk γ n Q e a w := by
  obtain ⟨γ'', s, h1, h2, h3, h4⟩ := k
  exact ⟨γ'', s, h1, h.trans h2, h3, h4⟩

theorem AWp.mono {c : Code} {Q' : Exit → St → Prop} (h : AWp P n hk tk c Q s) (hq : ∀ e s, Q e s → Q' e s) : AWp P n hk tk c Q' s := fun ro z γ a hro hh hm =>
  wpIn_mono (h ro z γ a hro hh hm) fun _ _ _ ⟨γ', s', h1, h2, h3, h4⟩ => ⟨γ', s', h1, h2, h3, hq _ _ h4⟩

theorem AWp.skip (h : Q .normal s) : AWp P n hk tk .skip Q s := fun _ _ γ _ _ hh hm => wpIn_skip ⟨γ, s, rfl, ExtN.refl γ, ⟨hh, hm⟩, h⟩
theorem AWp.ret (h : Q .ret s) : AWp P n hk tk .ret Q s := fun _ _ γ _ _ hh hm => wpIn_ret ⟨γ, s, rfl, ExtN.refl γ, ⟨hh, hm⟩, h⟩
theorem AWp.exit {id : Nat} (h : Q (.exit id) s) : AWp P n hk tk (.exit id) Q s := fun _ _ γ _ _ hh hm => wpIn_exit ⟨γ, s, rfl, ExtN.refl γ, ⟨hh, hm⟩, h⟩
theorem AWp.label {l : Nat} (h : Q .normal s) : AWp P n hk tk (.label l) Q s := fun _ _ γ _ _ hh hm => wpIn_label ⟨γ, s, rfl, ExtN.refl γ, ⟨hh, hm⟩, h⟩

/-- What is asked behind the first of two pieces. -/
def seqQ (next : St → Prop) (Q : Exit → St → Prop) : Exit → St → Prop
  | .normal, s => next s
  | e, s => Q e s

theorem AWp.seq {x y : Code} (h : AWp P n hk tk x (seqQ (AWp P n hk tk y Q) Q) s) : AWp P n hk tk (.seq x y) Q s := fun ro z γ a hro hh hm => by
  have h1 : rf x = true → ro = none ∧ z.ok = true := fun h => hro (by simp [rf, h])
  have h2 : rf y = true → ro = none ∧ z.ok = true := fun h => hro (by simp [rf, h])
  refine wpIn_seq (wpIn_mono (h ro z γ a h1 hh hm) fun e a' w' hq => ?_)
  obtain ⟨γ', s', rfl, k2, k3, k4⟩ := hq
  cases e <;> simp only [seqQ] at k4
  case normal => exact wpIn_mono (k4 ro z γ' a' h2 k3.1 k3.2) fun _ _ _ k => AQ.trans k2 k
  all_goals exact ⟨γ', s', rfl, k2, k3, k4⟩

theorem AWp.cond {c : Operand} {x y : Code} {t : Bool} (hc : ev s.env c = .bool t) (h : AWp P n hk tk (if t then x else y) Q s) : AWp P n hk tk (.cond c x y) Q s := fun ro z γ a hro hh hm => by
  have hv := hh.er.ev c
  rw [hc] at hv
  have : a.eval c = .bool t := by cases hav : a.eval c <;> rw [hav] at hv <;> cases hv; rfl
  exact wpIn_cond this (h ro z γ a (fun h => hro (by cases t <;> simp_all [rf])) hh hm)

def blockQ (id : Nat) (Q : Exit → St → Prop) : Exit → St → Prop
  | .exit id', s => if id' = id then Q .normal s else Q (.exit id') s
  | e, s => Q e s

theorem AWp.block {id : Nat} {c : Code} (h : AWp P n hk tk c (blockQ id Q) s) : AWp P n hk tk (.block id c) Q s := fun ro z γ a hro hh hm => by
  refine wpIn_block (wpIn_mono (h ro z γ a (fun h => hro (by simp [rf, h])) hh hm) fun e a' w' hq => ?_)
  obtain ⟨γ', s', rfl, h2, h3, h4⟩ := hq
  cases e <;> simp only [blockQ] at h4
  case exit id' =>
    simp only [Exit.inBlock]
    split
    · rename_i hid; rw [if_pos hid] at h4; exact ⟨γ', s', rfl, h2, h3, h4⟩
    · rename_i hid; rw [if_neg hid] at h4; exact ⟨γ', s', rfl, h2, h3, h4⟩
  all_goals exact ⟨γ', s', rfl, h2, h3, h4⟩

/-- A loop, with a number that every round lowers. -/
theorem wpIn_loop_ghost {F : Fence} {m : Nat} {c : Code} {Q : Exit → Act → World → Prop} (I : Nat → Act → World → Prop)
    (round : ∀ k a w, I k a w → c.wpIn F m P (Exit.then (fun a' w' => ∃ k', k' < k ∧ I k' a' w') Q) a w) : ∀ (k : Nat) (a : Act) (w : World), I k a w → (Code.loop c).wpIn F m P Q a w := by
  intro k a w hI b r cs hro hb hr
  have key : ∀ j a w, I j a w → ∃ e a' w', Q e a' w' ∧ ArrivesIn (Machine.fenced P F) P (lone (b.atR a (.code c :: .inLoop c :: r)) cs w) b r cs e a' w' := by
    intro j
    induction j using Nat.strongRecOn with
    | _ j ih =>
      intro a w hI
      obtain ⟨e, a₁, w₁, hq, harr⟩ := round j a w hI b (.inLoop c :: r) cs hro hb hr
      cases e with
      | normal =>
        obtain ⟨k', hlt, hI₁⟩ := hq
        obtain ⟨e₂, a₂, w₂, hq₂, harr₂⟩ := ih k' hlt a₁ w₁ hI₁
        exact ⟨e₂, a₂, w₂, hq₂, .of_steps (StepsIn.trans harr (.one (fenced_calm hb hr rfl) stepR_inLoop)) harr₂⟩
      | exit id => exact ⟨_, a₁, w₁, hq, .pass (x := .inLoop c) rfl (fun _ _ => .inl (by simp)) harr⟩
      | goto l => exact ⟨_, a₁, w₁, hq, .pass (x := .inLoop c) rfl (fun _ _ => .inl (by simp)) harr⟩
      | ret => exact ⟨_, a₁, w₁, hq, .pass (x := .inLoop c) rfl (fun _ _ => .inl (by simp)) harr⟩
      | panic ch => exact ⟨_, a₁, w₁, hq, .pass (x := .inLoop c) rfl (fun _ _ => .inl (by simp)) harr⟩
      | outgrown => exact ⟨_, a₁, w₁, hq, .pass (x := .inLoop c) rfl (fun _ _ => .inl (by simp)) harr⟩
  obtain ⟨e, a', w', hq, harr⟩ := key k a w hI
  exact ⟨e, a', w', hq, .of_steps (.one (fenced_calm hb hr rfl) stepR_loop) harr⟩

/-- A loop: what holds at each round's head, with a number that every round lowers. -/
theorem AWp.loop {c : Code} (I : Nat → St → Prop) (round : ∀ k s, I k s → AWp P n hk tk c (seqQ (fun s' => ∃ k', k' < k ∧ I k' s') Q) s) {k : Nat} (h : I k s) : AWp P n hk tk (.loop c) Q s := fun ro z γ a hro hh hm => by
  refine wpIn_loop_ghost (fun k a w => ∃ γ' s', γ'.w = w ∧ ExtN hk tk γ γ' ∧ (Holds n γ' s' a ∧ Mk z γ' a.defers) ∧ I k s') (fun k a w hI => ?_) k a γ.w ⟨γ, s, rfl, ExtN.refl γ, ⟨hh, hm⟩, h⟩
  obtain ⟨γ', s', rfl, h2, h3, h4⟩ := hI
  refine wpIn_mono (round k s' h4 ro z γ' a (fun h => hro (by simp [rf, h])) h3.1 h3.2) fun e a' w' hq => ?_
  obtain ⟨γ'', s'', rfl, k2, k3, k4⟩ := hq
  cases e <;> simp only [seqQ] at k4
  case normal =>
    obtain ⟨k', hlt, hI'⟩ := k4
    exact ⟨k', hlt, γ'', s'', rfl, h2.trans k2, k3, hI'⟩
  all_goals exact ⟨γ'', s'', rfl, h2.trans k2, k3, k4⟩

/-- Every temporary that is written is there. -/
def dstOK (n : Nat) (ops : List Oper) : Bool := ops.all fun o => match o.dst with | some d => decide (d < n) | none => true

theorem dstOK_spec {n : Nat} {ops : List Oper} (h : dstOK n ops = true) : ∀ o ∈ ops, ∀ x, o.dst = some x → x < n := by
  intro o ho x hx
  have := List.all_eq_true.1 h o ho
  simpa [hx] using this

theorem AWp.region {Γ : Gam} (hΓ : Sound P Γ) {mu : Bool} {id : Nat} {ops : Array Oper} {s' : St} (hd : dstOK n ops.toList = true) (he : aops P Γ mu ops ops.toList s = some s') (h : Q .normal s') : AWp P n hk tk (.region id ops false) Q s := fun ro z γ a _ hh hm =>
  wpIn_region_list (aops_sound hΓ ops.toList γ a s s' (dstOK_spec hd) hh he fun _ γ' hh' hext hdf => ⟨γ', s', rfl, hext.toN, ⟨hh', by rw [hdf]; exact hm.ext hext.toN (hk := 0) (tk := 0)⟩, h⟩)

end rules

/-! ### Functions -/

def envFrom : Nat → List AVal → List (Nat × AVal)
  | _, [] => []
  | i, v :: vs => (i, v) :: envFrom (i + 1) vs

theorem lk_envFrom : ∀ (vs : List AVal) (i t : Nat), lk (envFrom i vs) t = if i ≤ t then vs.getD (t - i) .dead else .dead
  | [], i, t => by simp [envFrom, lk]
  | v :: vs, i, t => by
    simp only [envFrom, lk]
    by_cases h : i = t
    · subst h; simp
    · rw [if_neg h, lk_envFrom vs (i + 1) t]
      by_cases h2 : i ≤ t
      · rw [if_pos h2, if_pos (by omega)]
        rw [show t - i = (t - (i + 1)) + 1 by omega]
        simp
      · rw [if_neg h2, if_neg (by omega)]

def aresL (P : Program) (s : St) : List ResultVar → Option (List AVal)
  | [] => some []
  | .tmp t :: r => (match aresL P s r with | some vs => some (lk s.env t :: vs) | none => none)
  | .cell a t :: r => (match aload P t s.m (lk s.env a), aresL P s r with | some v, some vs => some (v :: vs) | _, _ => none)

/-- What a function hands back. -/
def ares (P : Program) (rs : List ResultVar) (s : St) : Option AVal :=
  match aresL P s rs with
  | some [] => some .undef
  | some [v] => some v
  | some (v :: w :: r) => some (.tup v (w :: r))
  | none => none

theorem aresL_sound {P : Program} {n : Nat} {γ : Ghost} {s : St} {a : Act} (h : Holds n γ s a) : ∀ (rs : List ResultVar) (vs : List AVal), aresL P s rs = some vs →
    ∃ us : List Value, (rs.mapM (m := Sem) fun r => match r with | .tmp t => pure (a.tmps.getD t undef) | .cell x t => do loadVar t (← asAddr (a.tmps.getD x undef))).run P γ.w = .ok us γ.w ∧
      us.length = vs.length ∧ ∀ (j : Nat) (h : j < vs.length), VR γ.cx vs[j] (us.getD j undef)
  | [], vs, hv => by
    simp only [aresL, Option.some.injEq] at hv; subst hv
    exact ⟨[], by simp, rfl, fun j h => absurd h (Nat.not_lt_zero j)⟩
  | .tmp t :: r, vs, hv => by
    simp only [aresL] at hv
    split at hv
    · rename_i ws hws
      simp only [Option.some.injEq] at hv; subst hv
      obtain ⟨us, h1, h2, h3⟩ := aresL_sound h r ws hws
      refine ⟨a.tmps.getD t undef :: us, ?_, by simp [h2], fun j hj => ?_⟩
      · rw [List.mapM_cons]
        simp only [Sem.run_bind, Sem.run_pure, Result.andThen_ok, h1]
      · cases j with
        | zero => exact h.er t
        | succ j => exact h3 j (Nat.lt_of_succ_lt_succ hj)
    · cases hv
  | .cell x t :: r, vs, hv => by
    simp only [aresL] at hv
    split at hv
    · rename_i v ws hld hws
      simp only [Option.some.injEq] at hv; subst hv
      obtain ⟨us, h1, h2, h3⟩ := aresL_sound h r ws hws
      rw [← h.m] at hld
      obtain ⟨u, k1, k2⟩ := aload_sound (P := P) h.rl hld (h.er x)
      have hadr : ∃ ad, a.tmps.getD x undef = .pointer (some ad) := by
        have hx := h.er x
        generalize a.tmps.getD x undef = y at hx
        cases hl : lk s.env x <;> rw [hl] at hld <;> simp only [aload, reduceCtorEq] at hld <;> rw [hl] at hx <;> cases hx <;> exact ⟨_, rfl⟩
      obtain ⟨ad, had⟩ := hadr
      rw [had] at k1
      have k1' : (loadVar t ad).run P γ.w = .ok u γ.w := by simpa [Instr.loadAt, Instr.sureAddr] using k1
      refine ⟨u :: us, ?_, by simp [h2], fun j hj => ?_⟩
      · rw [List.mapM_cons]
        have e1 : ((do loadVar t (← asAddr (a.tmps.getD x undef))) : Sem Value).run P γ.w = .ok u γ.w := by simp [had, asAddr, k1']
        rw [Sem.run_bind]
        refine (congrArg (fun r => Result.andThen r _) e1).trans ?_
        simp only [Result.andThen_ok]
        rw [Sem.run_bind]
        exact (congrArg (fun r => Result.andThen r _) h1).trans rfl
      · cases j with
        | zero => exact k2
        | succ j => exact h3 j (Nat.lt_of_succ_lt_succ hj)
    · cases hv

theorem ares_sound {P : Program} {n : Nat} {γ : Ghost} {s : St} {a : Act} (h : Holds n γ s a) {fn : Func} {v : AVal} (hv : ares P fn.results.toList s = some v) : ∃ u, (results fn a.tmps).run P γ.w = .ok u γ.w ∧ VR γ.cx v u := by
  unfold ares at hv
  have key : ∀ vs, aresL P s fn.results.toList = some vs → ∃ us : List Value, us.length = vs.length ∧ (∀ (j : Nat) (h : j < vs.length), VR γ.cx vs[j] (us.getD j undef)) ∧
      (results fn a.tmps).run P γ.w = .ok (if h : us.toArray.size = 1 then us.toArray[0] else .tuple us.toArray) γ.w := by
    intro vs hvs
    obtain ⟨us, h1, h2, h3⟩ := aresL_sound h _ _ hvs
    refine ⟨us, h2, h3, ?_⟩
    have hm : (fn.results.mapM (m := Sem) fun r => match r with | .tmp t => pure (a.tmps.getD t undef) | .cell x t => do loadVar t (← asAddr (a.tmps.getD x undef))).run P γ.w = .ok us.toArray γ.w := by
      rw [← Array.toArray_toList (xs := fn.results), List.mapM_toArray, Sem.run_map, h1]
      rfl
    unfold results
    rw [Sem.run_bind]
    exact (congrArg (fun r => Result.andThen r _) hm).trans rfl
  split at hv
  · rename_i hl
    simp only [Option.some.injEq] at hv; subst hv
    obtain ⟨us, h1, h2, h3⟩ := key _ hl
    have : us = [] := List.eq_nil_of_length_eq_zero (by simpa using h1)
    subst this
    exact ⟨_, h3, by simpa using VR.undef⟩
  · rename_i x hl
    simp only [Option.some.injEq] at hv; subst hv
    obtain ⟨us, h1, h2, h3⟩ := key _ hl
    cases us with
    | nil => simp at h1
    | cons u us =>
      cases us with
      | cons => simp at h1
      | nil => exact ⟨_, h3, by simpa using h2 0 (by simp)⟩
  · rename_i x y r hl
    simp only [Option.some.injEq] at hv; subst hv
    obtain ⟨us, h1, h2, h3⟩ := key _ hl
    refine ⟨_, h3, ?_⟩
    have hne : ¬ (us.toArray.size = 1) := by simp at h1 ⊢; omega
    rw [dif_neg hne]
    exact .tup x (y :: r) us.toArray (by simpa using h1) (fun j hj => by simpa using h2 j hj)
  · cases hv

/-- What a body that began at these arguments is asked. -/
def FnQ (P : Program) (rs : List ResultVar) (R : AVal → St → Prop) : Exit → St → Prop
  | .normal, s | .ret, s => ∃ r, ares P rs s = some r ∧ R r s
  | _, _ => False

theorem ext_drop {γ γ' : Ghost} (h0 : γ.S = ⟨[], []⟩) (h : Ext γ γ') : Ext γ γ'.drop where
  bad := h.bad
  lo := h.lo
  size := h.size
  os := h.os
  tape := h.tape
  output := h.output
  cell := fun g o v hc => drop_cell (h.cell g o v hc)
  blk := fun b e g c ⟨y, hy, _⟩ => by rw [h0] at hy; simp at hy
  tip := fun t len b c ⟨y, z, hy, _⟩ => by rw [h0] at hy; simp at hy
  own := h.own
  frame := h.frame
  owns := fun k hk => by
    rcases hk with ⟨b, hb⟩ | ⟨t, ht⟩
    · exact absurd hb drop_noblk
    · exact absurd ht drop_notok

theorem enter_holds {γ : Ghost} {args : List AVal} {vals : Array Value} {m : AMem} (hr : Rl γ) (hm : γ.S = m) (hv : VRs γ.cx args vals) {n : Nat} (hn : args.length ≤ n) :
    Holds n γ ⟨envFrom 0 args, m⟩ { tmps := vals ++ Array.replicate (n - vals.size) undef, defers := [] } := by
  refine ⟨hr, hm, fun t => ?_, by simp [hv.1]; omega⟩
  rw [lk_envFrom, if_pos (Nat.zero_le _), Nat.sub_zero]
  by_cases ht : t < args.length
  · have := hv.2 t ht
    simp only [Array.getD_eq_getD_getElem?, List.getD_eq_getElem?_getD, List.getElem?_eq_getElem ht, Option.getD_some] at this ⊢
    rw [Array.getElem?_append_left (by rw [hv.1]; exact ht)]
    exact this
  · rw [List.getD_eq_getElem?_getD, List.getElem?_eq_none (by omega)]
    exact .dead _

/-! ### Marks are shut on the way out -/
section shut
variable {γ : Ghost} {D : Nat} {x : Option (List Deferred)}
def Ghost.shut (γ : Ghost) (D : Nat) : Ghost := { γ with w := γ.w.putObj D (.deferred none) }
theorem shut_other {k : Nat} (h : k ≠ D) : (γ.shut D).w.heap[k]? = γ.w.heap[k]? := World.putObj_heap_other h
theorem shut_obj {k : Nat} {o : Obj} (hD : γ.w.heap[D]? = some (.deferred x)) (h : γ.w.heap[k]? = some o) (ho : ∀ y, o ≠ .deferred y) : (γ.shut D).w.heap[k]? = some o := by
  rw [shut_other]
  · exact h
  · intro he; subst he; rw [hD] at h; cases h; exact ho _ rfl
theorem shut_cell (hD : γ.w.heap[D]? = some (.deferred x)) {g o : Nat} {v : Value} (h : γ.cell g o v) : (γ.shut D).cell g o v := by
  refine ⟨?_, h.2⟩
  have hne : g ≠ D := fun he => by
    subst he
    have := h.1
    simp [World.cell?, hD] at this
  rw [show (γ.shut D).w.cell? ⟨g, o, none⟩ = γ.w.cell? ⟨g, o, none⟩ from World.cell?_of_block (w := γ.w) (shut_other hne)]
  exact h.1
theorem shut_own (hD : γ.w.heap[D]? = some (.deferred x)) {g : Nat} {t : TypeId} {n : Nat} (h : γ.own g t n) : (γ.shut D).own g t n :=
  own_of (γ := γ) (γ' := γ.shut D) rfl (fun g arr ty fz hg => ⟨arr, fz, shut_obj hD hg (by simp), Nat.le_refl _⟩) h
theorem shut_le (hD : γ.w.heap[D]? = some (.deferred x)) : γ.cx.le (γ.shut D).cx :=
  ⟨fun _ _ _ => shut_cell hD, fun _ _ _ _ h => h, fun _ _ _ _ h => tip_of (γ := γ) (γ' := γ.shut D) rfl rfl rfl (fun _ _ => shut_own hD) h, fun _ _ _ => shut_own hD⟩
theorem shut_size : (γ.shut D).w.heap.size = γ.w.heap.size := by simp [Ghost.shut]
theorem rl_shut (hr : Rl γ) (hD : γ.w.heap[D]? = some (.deferred x)) : Rl (γ.shut D) where
  lo := by rw [shut_size]; exact hr.lo
  bad := hr.bad
  objs := fun b y hb => by
    obtain ⟨o, h1, h2⟩ := hr.objs b y hb
    refine ⟨o, shut_obj hD h1 fun z he => ?_, h2.mono (shut_le hD)⟩
    subst he
    cases y with
    | cells e cs => obtain ⟨_, _, h1, _⟩ := h2; cases h1
    | amap es => obtain ⟨_, _, h1, _⟩ := h2; cases h1
    | iter mb l q => obtain ⟨_, _, _, _, h1⟩ := h2; cases h1
    | loop st pend ps asg body env n => obtain ⟨_, h1, _⟩ := h2; cases h1
  its := fun b mb left cur hb => by
    obtain ⟨es, en, clk, since, seen, c0, h1, h2, h3, h4⟩ := hr.its b mb left cur hb
    exact ⟨es, en, clk, since, seen, c0, h1, shut_obj hD h2 (by simp), shut_obj hD h3 (by simp), h4.mono (shut_le hD)⟩
  toks := fun t g ht => by
    obtain ⟨arr, lo, hi, tp, sz, h1, h2⟩ := hr.toks t g ht
    exact ⟨arr, lo, hi, tp, sz, shut_obj hD h1 (by simp), h2⟩
  own := fun g h => by rw [shut_size]; exact hr.own g h
  hh := hr.hh
  ht := hr.ht
  tt := hr.tt
theorem ext_shut {γ0 : Ghost} {hk tk : Nat} (he : ExtN hk tk γ0 γ) (hD : γ.w.heap[D]? = some (.deferred x)) (hl : γ0.w.heap.size ≤ D) : ExtN hk tk γ0 (γ.shut D) where
  bad := he.bad
  lo := he.lo
  size := by rw [shut_size]; exact he.size
  os := he.os
  tape := he.tape
  output := he.output
  cell := fun g o v h => shut_cell hD (he.cell g o v h)
  blk := fun b e g c hb h => he.blk b e g c hb h
  tip := fun t len base cap ht h => (shut_le hD).tip _ _ _ _ (he.tip t len base cap ht h)
  own := fun g t n h => shut_own hD (he.own g t n h)
  frame := fun k hk ho => by
    rcases he.frame k hk ho with h | ⟨h1, arr, ty, f, f', h2, h3⟩
    · exact .inl ((shut_other (by omega)).trans h)
    · exact .inr ⟨h1, arr, ty, f, f', h2, (shut_other (by omega)).trans h3⟩
  owns := fun k h => he.owns k h
end shut

/-- A frame leaves: its marks are shut; then comes what was deferred before. -/
theorem leaves_marks {P : Program} {fn : Func} {n hk tk : Nat} {γ0 : Ghost} {s : St} {a : Act} {d : List Deferred} {u : FrameMode} {R : Ending → World → Prop} (hu : u ≠ .run) : ∀ (Ds : List Nat) (γ : Ghost), Ds.Nodup → (∀ D ∈ Ds, γ0.w.heap.size ≤ D ∧ γ.w.heap[D]? = some (.deferred (some [])) ∧ ¬ γ.owns D) → Holds n γ s a → ExtN hk tk γ0 γ →
    (∀ γ' : Ghost, Holds n γ' s a → ExtN hk tk γ0 γ' → LeavesInM Fence.wide 0 P fn a.tmps R d u γ'.w) → LeavesInM Fence.wide 0 P fn a.tmps R (Ds.map mark ++ d) u γ.w
  | [], γ, _, _, hh, he, h => h γ hh he
  | D :: Ds, γ, hn, hD, hh, he, h => by
    obtain ⟨k1, k2, k3⟩ := hD D (by simp)
    refine ⟨hu, .inl ⟨D, _, rfl, run_takeDeferred k2, ?_⟩⟩
    have hn2 := List.nodup_cons.1 hn
    refine leaves_marks hu Ds (γ.shut D) hn2.2 (fun D' hD' => ?_) ⟨rl_shut hh.rl k2, hh.m, hh.er.mono (shut_le k2), hh.size⟩ (ext_shut he k2 k1) h
    obtain ⟨j1, j2, j3⟩ := hD D' (by simp [hD'])
    exact ⟨j1, (shut_other (fun e => by subst e; exact hn2.1 hD')).trans j2, j3⟩

/-- A call, out of its body's walk. -/
theorem calls_of_awp {P : Program} {f : FuncId} {fn : Func} {c : Code} {γ : Ghost} {vals : Array Value} {s : St} {hk tk : Nat} {Rr : AVal → St → Prop} {R : Ending → World → Prop} (hf : P.funcs[f]? = some fn) (hb : fn.body = some c)
    (hh : Holds fn.ntmps γ s { tmps := vals ++ Array.replicate (fn.ntmps - vals.size) undef, defers := [] })
    (h : AWp P fn.ntmps hk tk c (FnQ P fn.results.toList Rr) s)
    (hR : ∀ (γ' : Ghost) (s' : St) (r : AVal) (u : Value), Rl γ' → γ'.S = s'.m → ExtN hk tk γ γ' → Rr r s' → VR γ'.cx r u → R (.returned u) γ'.w) : Calls P f vals γ.w R := by
  refine callsIn_wide.1 (callsIn_of_wp_marks (n := 0) (F := Fence.wide) hf hb trivial (wpIn_mono (h none ⟨γ.w.heap.size, [], true⟩ γ _ (fun _ => ⟨rfl, rfl⟩) hh (Mk.nil (Nat.le_refl _))) fun e a w hq => ?_))
  obtain ⟨γ', s', rfl, h2, ⟨h3, h4⟩, h5⟩ := hq
  obtain ⟨_, ⟨Ds, k1, k2, k3⟩, _⟩ := h4
  have key : ∀ r, ares P fn.results.toList s' = some r → Rr r s' → LeavesInM Fence.wide 0 P fn a.tmps R a.defers .returning γ'.w := fun r hr hrr => by
    rw [k1]
    refine leaves_marks (by simp) Ds γ' k2 k3 h3 h2 fun γ'' hh'' he'' => ?_
    obtain ⟨u, u1, u2⟩ := ares_sound hh'' hr
    exact ⟨u, u1, hR γ'' s' r u hh''.rl hh''.m he'' hrr u2⟩
  cases e <;> simp only [FnQ] at h5
  all_goals
    obtain ⟨r, hr, hrr⟩ := h5
    exact key r hr hrr

/-- A function's contract, out of its body: it looks at nothing but its arguments. -/
theorem PCall.of_body {P : Program} {f : FuncId} {fn : Func} {c : Code} {args : List AVal} {r : AVal} (hf : P.funcs[f]? = some fn) (hb : fn.body = some c) (hen : enterable P f = true) (hn : args.length ≤ fn.ntmps)
    (h : AWp P fn.ntmps 0 0 c (FnQ P fn.results.toList fun r0 s => view 8 s.m r0 = some r) ⟨envFrom 0 args, ⟨[], []⟩⟩) : PCall P f args r := by
  refine ⟨hen, fun γ vals hr hm hv => calls_of_awp hf hb (enter_holds hr hm hv hn) h fun γ' s' r0 u hr' hm' he hrr hvr => ?_⟩
  have he : Ext γ γ' := ExtN.full (by rw [hm]; exact he)
  exact ⟨u, γ'.drop, rfl, rfl, rfl, ext_drop hm he, rl_drop hr', view_sound hr' _ _ _ _ (by rw [hm']; exact hrr) hvr⟩

/-- What a function leaves: the memory said, and perhaps what nobody names. -/
def Left (r : AVal) (m' m : AMem) : Prop :=
  m = m' ∨ (∃ G X, m = ⟨m'.H ++ G, m'.T ++ X⟩) ∧ m'.H.all (cloB m'.H.length m'.T.length) = true ∧ clo m'.H.length m'.T.length r = true

/-- The same of a function that is handed memory to write. -/
theorem RCall.of_body {P : Program} {f : FuncId} {fn : Func} {c : Code} {args : List AVal} {r : AVal} {m m' : AMem} (hf : P.funcs[f]? = some fn) (hb : fn.body = some c) (hen : enterable P f = true) (hn : args.length ≤ fn.ntmps)
    (hH : m.H.length ≤ m'.H.length) (hT : m.T.length ≤ m'.T.length)
    (h : AWp P fn.ntmps m.H.length m.T.length c (FnQ P fn.results.toList fun r0 s => r0 = r ∧ Left r m' s.m) ⟨envFrom 0 args, m⟩) : RCall P f args m r m' := by
  refine ⟨hen, fun γ vals hr hm hv => calls_of_awp hf hb (enter_holds hr hm hv hn) h fun γ' s' r0 u hr' hm' he hrr hvr => ?_⟩
  obtain ⟨rfl, hl⟩ := hrr
  rcases hl with hl | ⟨⟨G, X, hl⟩, hB, hc⟩
  · exact ⟨u, γ', rfl, rfl, hm'.trans hl, ExtN.full (by rw [hm]; exact he), hr', hvr⟩
  · have hS : (γ'.cut m'.H.length m'.T.length).S = m' := by
      simp only [Ghost.cut, hm', hl, List.take_left']
    refine ⟨u, γ'.cut m'.H.length m'.T.length, rfl, rfl, hS, ExtN.full ?_, rl_cut hr' ?_, hvr.cut hc⟩
    · rw [hm]
      exact he.trans (ext_cut hH hT)
    · rw [hm', hl]
      simpa only [List.take_left'] using hB

/-- The memory that is left, where what is handed back names nothing. -/
def LeftM (m' m : AMem) : Prop := m = m' ∨ (∃ G X, m = ⟨m'.H ++ G, m'.T ++ X⟩) ∧ m'.H.all (cloB m'.H.length m'.T.length) = true
/-- The same, where what is handed back bears no rights. -/
theorem RCall.of_body_s {P : Program} {f : FuncId} {fn : Func} {c : Code} {args : List AVal} {r : AVal} {m m' : AMem} (hf : P.funcs[f]? = some fn) (hb : fn.body = some c) (hen : enterable P f = true) (hn : args.length ≤ fn.ntmps)
    (hH : m.H.length ≤ m'.H.length) (hT : m.T.length ≤ m'.T.length)
    (h : AWp P fn.ntmps m.H.length m.T.length c (FnQ P fn.results.toList fun r0 s => strip r0 = some r ∧ LeftM m' s.m) ⟨envFrom 0 args, m⟩) : RCall P f args m r m' := by
  refine ⟨hen, fun γ vals hr hm hv => calls_of_awp hf hb (enter_holds hr hm hv hn) h fun γ' s' r0 u hr' hm' he hrr hvr => ?_⟩
  obtain ⟨hs, hl⟩ := hrr
  rcases hl with hl | ⟨⟨G, X, hl⟩, hB⟩
  · exact ⟨u, γ', rfl, rfl, hm'.trans hl, ExtN.full (by rw [hm]; exact he), hr', strip_sound (fun _ _ _ h => h) hvr _ hs⟩
  · have hS : (γ'.cut m'.H.length m'.T.length).S = m' := by
      simp only [Ghost.cut, hm', hl, List.take_left']
    refine ⟨u, γ'.cut m'.H.length m'.T.length, rfl, rfl, hS, ExtN.full ?_, rl_cut hr' ?_, (strip_sound (fun _ _ _ h => h) hvr _ hs).cut (clo_strip _ _ hs)⟩
    · rw [hm]
      exact he.trans (ext_cut hH hT)
    · rw [hm', hl]
      simpa only [List.take_left'] using hB

end Go.Hk
