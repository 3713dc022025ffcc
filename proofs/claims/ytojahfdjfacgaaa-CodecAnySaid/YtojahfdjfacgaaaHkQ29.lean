import Derived.Test.YtojahfdjfacgaaaHkQ28
import GoSem.Extern.MapsClone
import Derived.Test.YtojahfdjfacgaaaHkQ27
/- Sets of places in memory: told up to order, and laid anew behind what came in. -/
set_option linter.unusedSimpArgs false
set_option linter.unusedVariables false
namespace Go.Hk
/-! ### Order does not count -/
theorem AL.uncons {κ : Cx} {e : AVal × AVal} {es : List (AVal × AVal)} {l : List MapEntry} (h : AL κ (e :: es) l) : ∃ a r, l = a :: r ∧ VR κ e.1 a.key ∧ VR κ e.2 a.val ∧ AL κ es r := by
  obtain ⟨h1, h2⟩ := h
  cases l with
  | nil => simp at h1
  | cons a r =>
    have h0 := h2 0 (by simp) (by simp)
    exact ⟨a, r, rfl, h0.1, h0.2, by simpa using h1, fun j hj hj' => h2 (j + 1) (by simpa using hj) (by simpa using hj')⟩
theorem AL.cons {κ : Cx} {e : AVal × AVal} {es : List (AVal × AVal)} {a : MapEntry} {l : List MapEntry} (h1 : VR κ e.1 a.key) (h2 : VR κ e.2 a.val) (h : AL κ es l) : AL κ (e :: es) (a :: l) := by
  refine ⟨by simp [h.1], fun j hj hj' => ?_⟩
  cases j with
  | zero => exact ⟨h1, h2⟩
  | succ j => exact h.2 j (by simpa using hj) (by simpa using hj')
theorem AL.perm {κ : Cx} {es es' : List (AVal × AVal)} (hp : es.Perm es') : ∀ l, AL κ es l → ∃ l', l'.Perm l ∧ AL κ es' l' := by
  induction hp with
  | nil => exact fun l h => ⟨l, .refl _, h⟩
  | cons e _ ih =>
    intro l h
    obtain ⟨a, r, rfl, h1, h2, h3⟩ := h.uncons
    obtain ⟨r', k1, k2⟩ := ih r h3
    exact ⟨a :: r', k1.cons a, k2.cons h1 h2⟩
  | swap e f es =>
    intro l h
    obtain ⟨a, r, rfl, h1, h2, h3⟩ := h.uncons
    obtain ⟨b, r, rfl, k1, k2, k3⟩ := h3.uncons
    exact ⟨b :: a :: r, .swap _ _ _, (k3.cons h1 h2).cons k1 k2⟩
  | trans _ _ ih1 ih2 =>
    intro l h
    obtain ⟨l1, h1, h2⟩ := ih1 l h
    obtain ⟨l2, k1, k2⟩ := ih2 l1 h2
    exact ⟨l2, k1.trans h1, k2⟩
def Ghost.perm (γ : Ghost) (b : Nat) (es : List (AVal × AVal)) : Ghost := { γ with S := ⟨γ.S.H.set b (.amap es), γ.S.T⟩ }
section
variable {γ : Ghost} {b : Nat} {es es' : List (AVal × AVal)}
end
/-! ### A map's block is laid anew, right behind the first n -/
section
variable {γ : Ghost} {g : Nat} {es : List (AVal × AVal)} {en : Array MapEntry} {clk : Nat}
end
/-! ### Sets -/
section
variable {P : Program} {Γ : Gam} {mu : Bool} {G : List ABlk} {T : List (Nat × (Nat × Nat))} {ks : List Nat}
end
end Go.Hk
namespace Go.Hk
open Go.RowKit
end Go.Hk
/- A body walked in two parts: between them what may be written is given up, and told. -/
namespace Go.Hk
def isSeqs : Nat → Code → Bool
  | 0, _ => true
  | k + 1, .seq _ b => isSeqs k b
  | _ + 1, _ => false
def preC : Nat → Code → Code
  | 0, _ => .skip
  | k + 1, .seq a b => .seq a (preC k b)
  | _ + 1, c => c
def postC : Nat → Code → Code
  | 0, c => c
  | k + 1, .seq _ b => postC k b
  | _ + 1, c => c
def cutQ (k : St → Prop) (Q : Exit → St → Prop) : Exit → St → Prop := fun e s => match e with | .normal => k s | e => Q e s
section
variable {P : Program} {Γ : Gam} {mu : Bool} {n hk tk : Nat}
theorem AWp.cut (hΓ : Sound P Γ) (hm : P.follows .mixedOrders = true) : ∀ (k : Nat) (c : Code) (Q : Exit → St → Prop) (s : St), isSeqs k c = true → codeOKx Γ mu n (preC k c) = true → W P Γ mu hk tk (preC k c) (cutQ (AWp P n hk tk (postC k c) Q) Q) s → AWp P n hk tk c Q s
  | 0, c, Q, s, _, _, h => by
    obtain ⟨h⟩ := h
    exact h
  | k + 1, .seq a b, Q, s, hs, hok, h => by
    simp only [preC, codeOKx, Bool.and_eq_true] at hok
    refine AWp.seq (AWp.mono (AWp.w (mu := mu) hΓ hm a (seqQ (W P Γ mu hk tk (preC k b) (cutQ (AWp P n hk tk (postC k b) Q) Q)) (cutQ (AWp P n hk tk (postC k b) Q) Q)) s hok.1 ?_) fun e s' hq => ?_)
    · obtain ⟨e, m⟩ := s
      simp only [preC, e_w_seq] at h
      exact h
    · cases e
      case normal => exact AWp.cut hΓ hm k b Q s' hs hok.2 hq
      all_goals exact hq
/-- What is told of the environment, the memory given up. -/
def dropOK (s : St) (e' : List (Nat × AVal)) : Prop := ∀ p ∈ e', view 8 s.m (lk s.env p.1) = some p.2
theorem lk_mem : ∀ {l : List (Nat × AVal)} {t : Nat}, lk l t = .dead ∨ (t, lk l t) ∈ l
  | [], t => .inl rfl
  | (k, v) :: l, t => by
    simp only [lk]
    split
    · rename_i h; subst h; exact .inr (by simp)
    · rcases lk_mem (l := l) (t := t) with h | h
      · exact .inl h
      · exact .inr (by simp [h])
theorem ext_drop0 {γ : Ghost} : ExtN 0 0 γ γ.drop where
  bad := rfl
  lo := rfl
  size := Nat.le_refl _
  os := rfl
  tape := rfl
  output := rfl
  cell := fun _ _ _ h => drop_cell h
  blk := fun b _ _ _ h => absurd h (Nat.not_lt_zero b)
  tip := fun t _ _ _ h => absurd h (Nat.not_lt_zero t)
  own := fun _ _ _ h => h
  frame := fun _ _ _ => .inl rfl
  owns := fun k h => by
    rcases h with ⟨b, hb⟩ | ⟨t, ht⟩
    · exact absurd hb drop_noblk
    · exact absurd ht drop_notok
theorem AWp.drop {c : Code} {Q : Exit → St → Prop} {s : St} {e' : List (Nat × AVal)} (hd : dropOK s e') (h : AWp P n 0 0 c Q ⟨e', ⟨[], []⟩⟩) : AWp P n 0 0 c Q s := fun ro z γ a hro hh hmk => by
  have hh' : Holds n γ.drop ⟨e', ⟨[], []⟩⟩ a := ⟨rl_drop hh.rl, rfl, fun t => by
    rcases lk_mem (l := e') (t := t) with h | h
    · rw [show lk (St.mk e' ⟨[], []⟩).env t = .dead from h]; exact .dead _
    · exact view_sound hh.rl _ _ _ _ (by rw [hh.m]; exact hd _ h) (hh.er t), hh.size⟩
  exact wpIn_mono (h ro z γ.drop a hro hh' (hmk.ext ext_drop0)) fun _ _ _ k => AQ.trans ext_drop0 k
end
theorem e_cutQ {k : St → Prop} {Q : Exit → St → Prop} {s : St} : cutQ k Q .normal s = k s := rfl
theorem e_cutQ_ret {k : St → Prop} {Q : Exit → St → Prop} {s : St} : cutQ k Q .ret s = Q .ret s := rfl
theorem e_preC {k : Nat} {a b : Code} : preC (k + 1) (.seq a b) = .seq a (preC k b) := rfl
theorem e_postC {k : Nat} {a b : Code} : postC (k + 1) (.seq a b) = postC k b := rfl
attribute [go_sem] e_cutQ e_cutQ_ret
end Go.Hk
namespace Go.Hk
theorem e_preC0 {c : Code} : preC 0 c = .skip := rfl
theorem e_postC0 {c : Code} : postC 0 c = c := rfl
end Go.Hk
/- Panics: the walk's rules. -/
namespace Go.Hk
section
variable {P : Program} {Γ : Gam} {mu : Bool} {n hk tk : Nat}
/-- The first k pieces, walked; then the rest. -/
theorem AWp.pre (hΓ : Sound P Γ) (hm : P.follows .mixedOrders = true) (k : Nat) {c : Code} {Q : Exit → St → Prop} {s : St} (hs : isSeqs k c = true) (hok : codeOKx Γ mu n (preC k c) = true)
    (h : ∀ K : St → Prop, (∀ s, AWp P n hk tk (postC k c) Q s → K s) → W P Γ mu hk tk (preC k c) (cutQ K Q) s) : AWp P n hk tk c Q s := AWp.cut hΓ hm k c Q s hs hok (h _ fun _ h => h)
theorem take_mid {l : List Oper} {k : Nat} {o : Oper} (h : l[k]? = some o) : l.toArray = (l.take k ++ o :: l.drop (k + 1)).toArray := by
  obtain ⟨hk, rfl⟩ := List.getElem?_eq_some_iff.1 h
  rw [← List.drop_eq_getElem_cons hk, List.take_append_drop]
theorem regW_some {r : Option St} {K : St → Prop} (h : regW r (fun _ s => K s)) : ∃ s, r = some s ∧ K s := by
  cases r with
  | none => exact h.elim
  | some s => exact ⟨s, rfl, h⟩
/-- A region whose operation k panics. -/
theorem AWp.pan (hΓ : Sound P Γ) {id : Nat} {l : List Oper} {e : List (Nat × AVal)} {m : AMem} {o : Oper} {y : Operand} {x : Value} {Q : Exit → St → Prop} (k : Nat) (hd : dstOK n l = true) (hko : l[k]? = some o) (ho : o.op = .panic y) (hg : o.guard = none)
    (h : ∀ K : St → Prop, (∀ s', (∀ κ u, VR κ (Hk.ev s'.env y) u → (∃ t v, u = .iface t v) ∧ u = x) → Q (.panic [{ v := x, recovered := false }]) s' → K s') → regW (opsO P Γ mu (prep l (l.take k)) (some ⟨e, m⟩)) (fun _ s' => K s')) : AWp P n hk tk (.region id l.toArray false) Q ⟨e, m⟩ := by
  obtain ⟨s', hs, h1, h2⟩ := regW_some (h (fun s' => (∀ κ u, VR κ (Hk.ev s'.env y) u → (∃ t v, u = .iface t v) ∧ u = x) ∧ Q (.panic [{ v := x, recovered := false }]) s') fun s' a b => ⟨a, b⟩)
  rw [← aops_opsO] at hs
  exact AWp.panics hΓ (ops := l.toArray) (take_mid hko) (by simpa using hd) hs ho (by simp [aguard, hg]) h1 h2
/-- A region in which call k panics. -/
theorem AWp.panC (hΓ : Sound P Γ) {id : Nat} {l : List Oper} {e : List (Nat × AVal)} {m : AMem} {o : Oper} {c : Call} {f : FuncId} {Q : Exit → St → Prop} (k : Nat) (hd : dstOK n l = true) (hko : l[k]? = some o) (ho : o.op = .call c) (hc : c.callee = .value (.func f)) (hg : o.guard = none)
    (h : ∀ K : St → Prop, (∀ s' x m', XCall P f (c.args.toList.map (Hk.ev s'.env)) s'.m x m' → Q (.panic [{ v := x, recovered := false }]) ⟨s'.env, m'⟩ → K s') → regW (opsO P Γ mu (prep l (l.take k)) (some ⟨e, m⟩)) (fun _ s' => K s')) : AWp P n hk tk (.region id l.toArray false) Q ⟨e, m⟩ := by
  obtain ⟨s', hs, x, m', h1, h2⟩ := regW_some (h (fun s' => ∃ x m', XCall P f (c.args.toList.map (Hk.ev s'.env)) s'.m x m' ∧ Q (.panic [{ v := x, recovered := false }]) ⟨s'.env, m'⟩) fun s' x m' a b => ⟨x, m', a, b⟩)
  rw [← aops_opsO] at hs
  exact AWp.panicsC hΓ (ops := l.toArray) (take_mid hko) (by simpa using hd) hs ho hc (by simp [aguard, hg]) h1 h2
end
/-- What is asked behind the first piece of a body whose second defers a closure. -/
def dfQ (P : Program) (Γ : Gam) (mu : Bool) (l : List Oper) (k : Nat) (K : St → Prop) : Exit → St → Prop := fun e s => match e with
  | .normal => regW (opsO P Γ mu (prep l (l.take k)) (some s)) (fun _ s2 => K s2)
  | _ => False
theorem e_dfQ {P : Program} {Γ : Gam} {mu : Bool} {l : List Oper} {k : Nat} {K : St → Prop} {s : St} : dfQ P Γ mu l k K .normal s = regW (opsO P Γ mu (prep l (l.take k)) (some s)) (fun _ s2 => K s2) := rfl
theorem PCall.of_deferK {P : Program} {Γ : Gam} {mu : Bool} (hΓ : Sound P Γ) (hm : P.follows .mixedOrders = true) (k : Nat) {f g : FuncId} {fn : Func} {a rest : Code} {id : Nat} {l : List Oper} {o : Oper} {dc : Call} {y : Operand} {caps args : List AVal} {r : AVal}
    (hf : P.funcs[f]? = some fn) (hb : fn.body = some (.seq a (.seq (.region id l.toArray false) rest))) (hen : enterable P f = true) (hng : enterable P g = true) (hn : args.length ≤ fn.ntmps) (hrfa : rf a = false) (hrf : rf rest = false) (hok : codeOKx Γ mu fn.ntmps a = true)
    (hko : l[k]? = some o) (hk : l.length = k + 1) (hd : dstOK fn.ntmps l = true) (ho : o.op = .defer dc) (hc : dc.callee = .value y) (hargs : dc.args = #[]) (hdst : o.dst = none) (hgd : o.guard = none)
    (h : ∀ K : St → Prop, (∀ s2, Hk.ev s2.env y = .fn g [] caps → AWp P fn.ntmps s2.m.H.length s2.m.T.length rest (DeferQ P g caps fn.results.toList r) s2 → K s2) → W P Γ mu 0 0 a (dfQ P Γ mu l k K) ⟨envFrom 0 args, ⟨[], []⟩⟩) : PCall P f args r := by
  have hl : l.toArray = (l.take k ++ [o]).toArray := by
    rw [take_mid hko, List.drop_of_length_le (by omega)]
  refine PCall.of_defer (caps := caps) (Γ := Γ) (mu := mu) hΓ hf hb hen hng hn hrfa hrf hl (by simpa using hd) ho hc hargs hdst hgd ?_
  refine AWp.mono (AWp.w hΓ hm a _ _ hok (h (fun s2 => Hk.ev s2.env y = .fn g [] caps ∧ AWp P fn.ntmps s2.m.H.length s2.m.T.length rest (DeferQ P g caps fn.results.toList r) s2) fun s2 h1 h2 => ⟨h1, h2⟩)) fun e s1 hq => ?_
  cases e <;> simp only [dfQ] at hq
  obtain ⟨s2, h1, h2, h3⟩ := regW_some hq
  rw [← aops_opsO] at h1
  exact ⟨rfl, s2, h1, h2, h3⟩
attribute [go_sem] e_dfQ
theorem DCall.of_bodyK {P : Program} {Γ : Gam} {mu : Bool} (hΓ : Sound P Γ) {g : FuncId} {fn : Func} {id : Nat} {rest : Code} {o : Oper} {c : Call} {l : List Oper} {d : Nat} {caps : List AVal} {m m' : AMem} {u u' : FrameMode} {v : AVal}
    (hf : P.funcs[g]? = some fn) (hb : fn.body = some (.seq (.region id (o :: l).toArray false) rest)) (hn : caps.length ≤ fn.ntmps) (hres : fn.results = #[])
    (ho : o.op = .call c) (hc : c.callee = .builtin .recover) (ha : c.args = #[]) (hdst : o.dst = some d) (hgd : o.guard = none) (hnc : ∀ o ∈ l, ∀ c, o.op ≠ .call c) (hd : dstOK fn.ntmps (o :: l) = true)
    (hH : m.H.length ≤ m'.H.length) (hT : m.T.length ≤ m'.T.length) (hrf : rf rest = false)
    (hu : (u = .returning ∧ u' = .returning ∧ v = .nili) ∨ ∃ x, u = .panicking [{ v := x, recovered := false }] ∧ u' = .panicking [{ v := x, recovered := true }] ∧ ∀ κ, VR κ v x)
    (h : ∀ K : St → Prop, (∀ s, AWp P fn.ntmps m.H.length m.T.length rest (fun e s => (e = .normal ∨ e = .ret) ∧ LeftM m' s.m) s → K s) → regW (opsO P Γ mu (prep (o :: l) l) (some ⟨(d, v) :: envFrom 0 caps, m⟩)) (fun _ s => K s)) : DCall P g caps m u m' u' := by
  obtain ⟨s, h1, h2⟩ := regW_some (h _ fun _ h => h)
  rw [← aops_opsO] at h1
  exact DCall.of_body (Γ := Γ) (mu := mu) hΓ hf hb hn hres rfl ho hc ha hdst hgd hnc (by simpa using hd) hH hT hu h1 h2 hrf
end Go.Hk
