/- What a piece of code must be asked, so that behind it something holds: with loops. -/
import Derived.Test.YtpncchabnolnkaaHkN
set_option linter.unusedSimpArgs false
namespace Go.Hk

def regW (r : Option St) (Q : Exit → St → Prop) : Prop :=
  match r with
  | some s => Q .normal s
  | none => False

def W0 (P : Program) (Γ : Gam) (mu : Bool) : Code → (Exit → St → Prop) → St → Prop
  | .skip, Q, s => Q .normal s
  | .ret, Q, s => Q .ret s
  | .exit i, Q, s => Q (.exit i) s
  | .label _, Q, s => Q .normal s
  | .seq a b, Q, s => W0 P Γ mu a (seqQ (W0 P Γ mu b Q) Q) s
  | .block id a, Q, s => W0 P Γ mu a (blockQ id Q) s
  | .cond c a b, Q, s => (match ev s.env c with
    | .bool t => if t = true then W0 P Γ mu a Q s else W0 P Γ mu b Q s
    | _ => False)
  | .region _ ops _, Q, s => regW (aops P Γ mu ops ops.toList s) Q
  | .loop c, Q, s => ∃ (I : Nat → St → Prop) (k : Nat), I k s ∧ ∀ k s, I k s → W0 P Γ mu c (seqQ (fun s' => ∃ k', k' < k ∧ I k' s') Q) s
  | _, _, _ => False

/-- The same, as something that no evaluation unfolds. -/
structure W (P : Program) (Γ : Gam) (mu : Bool) (c : Code) (Q : Exit → St → Prop) (s : St) : Prop where
  out : W0 P Γ mu c Q s
theorem W_eq {P : Program} {Γ : Gam} {mu : Bool} {c : Code} {Q : Exit → St → Prop} : W P Γ mu c Q = W0 P Γ mu c Q := by
  funext s
  exact propext ⟨fun h => h.out, fun h => ⟨h⟩⟩

section
variable {P : Program} {Γ : Gam} {mu : Bool} {n : Nat}
theorem W_loop {a : Code} {Q : Exit → St → Prop} {s : St} : W P Γ mu (.loop a) Q s = ∃ (I : Nat → St → Prop) (k : Nat), I k s ∧ ∀ k s, I k s → W P Γ mu a (seqQ (fun s' => ∃ k', k' < k ∧ I k' s') Q) s := by
  simp only [W_eq, W0]

theorem AWp.w0 (hΓ : Sound P Γ) (hm : P.follows .mixedOrders = true) : ∀ (c : Code) (Q : Exit → St → Prop) (s : St), codeOK Γ mu n c = true → W0 P Γ mu c Q s → AWp P n c Q s := by
  intro c
  induction c with
  | skip => exact fun Q s _ h => AWp.skip h
  | ret => exact fun Q s _ h => AWp.ret h
  | exit i => exact fun Q s _ h => AWp.exit h
  | label i => exact fun Q s _ h => AWp.label h
  | seq a b iha ihb =>
    intro Q s ho h
    simp only [codeOK, Bool.and_eq_true] at ho
    refine AWp.seq (AWp.mono (iha _ _ ho.1 h) fun e s' hq => ?_)
    cases e <;> first | exact hq | exact ihb _ _ ho.2 hq
  | block id a iha => exact fun Q s ho h => AWp.block (iha _ _ ho h)
  | cond c a b iha ihb =>
    intro Q s ho h
    simp only [codeOK, Bool.and_eq_true] at ho
    simp only [W0] at h
    split at h
    · rename_i t ht
      refine AWp.cond ht ?_
      cases t
      · exact ihb _ _ ho.2 h
      · exact iha _ _ ho.1 h
    · exact h.elim
  | region id ops d =>
    intro Q s ho h
    simp only [codeOK, Bool.and_eq_true] at ho
    simp only [W0, regW] at h
    split at h
    · rename_i s' hs
      exact AWp.reg hΓ hm ho.1 ho.2 hs h
    · exact h.elim
  | loop c ih =>
    intro Q s ho h
    obtain ⟨I, k, hI, hr⟩ := h
    exact AWp.loop I (fun k s hk => ih _ _ ho (hr k s hk)) hI
  | _ => exact fun Q s _ h => h.elim

theorem AWp.w (hΓ : Sound P Γ) (hm : P.follows .mixedOrders = true) (c : Code) (Q : Exit → St → Prop) (s : St) (hok : codeOK Γ mu n c = true) (h : W P Γ mu c Q s) : AWp P n c Q s := AWp.w0 hΓ hm c Q s hok h.out

/-- The entry of a function. -/
theorem PCall.of_w {f : FuncId} {fn : Func} {c : Code} {args : List AVal} {r : AVal} (hΓ : Sound P Γ) (hm : P.follows .mixedOrders = true) (hf : P.funcs[f]? = some fn) (hb : fn.body = some c) (hen : enterable P f = true) (hn : args.length ≤ fn.ntmps) (hok : codeOK Γ mu fn.ntmps c = true)
    (h : W P Γ mu c (FnQ P fn.results.toList fun r0 s => view 8 s.m r0 = some r) ⟨envFrom 0 args, ⟨[], []⟩⟩) : PCall P f args r :=
  PCall.of_body hf hb hen hn (AWp.w hΓ hm c _ _ hok h)

/-! ### Rules -/

variable {a b : Code} {Q R : Exit → St → Prop} {s : St} {k : St → Prop} {e : List (Nat × AVal)} {m : AMem} {c : Prop} [Decidable c] {l : List Oper}

theorem e_w_seq : W P Γ mu (.seq a b) Q ⟨e, m⟩ = W P Γ mu a (seqQ (W P Γ mu b Q) Q) ⟨e, m⟩ := by simp only [W_eq, W0]
theorem e_w_block {id : Nat} : W P Γ mu (.block id a) Q ⟨e, m⟩ = W P Γ mu a (blockQ id Q) ⟨e, m⟩ := by simp only [W_eq, W0]
theorem e_w_skip : W P Γ mu .skip Q ⟨e, m⟩ = Q .normal ⟨e, m⟩ := by simp only [W_eq, W0]
theorem e_w_ret : W P Γ mu .ret Q ⟨e, m⟩ = Q .ret ⟨e, m⟩ := by simp only [W_eq, W0]
theorem e_w_exit {i : Nat} : W P Γ mu (.exit i) Q ⟨e, m⟩ = Q (.exit i) ⟨e, m⟩ := by simp only [W_eq, W0]
theorem e_w_label {i : Nat} : W P Γ mu (.label i) Q ⟨e, m⟩ = Q .normal ⟨e, m⟩ := by simp only [W_eq, W0]
def condW (P : Program) (Γ : Gam) (mu : Bool) (v : AVal) (a b : Code) (Q : Exit → St → Prop) (s : St) : Prop :=
  match v with
  | .bool t => if t = true then W P Γ mu a Q s else W P Γ mu b Q s
  | _ => False
theorem e_w_cond {x : Operand} : W P Γ mu (.cond x a b) Q ⟨e, m⟩ = condW P Γ mu (ev e x) a b Q ⟨e, m⟩ := by simp only [W_eq, W0, condW]
theorem e_w_true : condW P Γ mu (.bool true) a b Q s = W P Γ mu a Q s := nr rfl
theorem e_w_false : condW P Γ mu (.bool false) a b Q s = W P Γ mu b Q s := nr rfl
theorem e_w_bool {t : Bool} : condW P Γ mu (.bool t) a b Q s = if t = true then W P Γ mu a Q s else W P Γ mu b Q s := nr rfl
theorem e_w_region {id : Nat} {d : Bool} : W P Γ mu (.region id l.toArray d) Q ⟨e, m⟩ = regW (opsO P Γ mu (prep l l) (some ⟨e, m⟩)) Q := by
  have h := @e_ops P Γ mu l ⟨e, m⟩ id d
  simp only [W_eq, W0]
  simp only [evalC] at h
  cases h1 : aops P Γ mu l.toArray l.toArray.toList ⟨e, m⟩ <;> cases h2 : opsO P Γ mu (prep l l) (some ⟨e, m⟩) <;> rw [h1, h2] at h <;> simp [regC] at h
  all_goals first | rfl | rw [h]
theorem e_regW : regW (some s) Q = Q .normal s := nr rfl
theorem e_regW_ite {x y : Option St} : regW (if c then x else y) Q = if c then regW x Q else regW y Q := by split <;> rfl
theorem e_q_seq : seqQ k Q .normal s = k s := nr rfl
theorem e_q_seq_ret : seqQ k Q .ret s = Q .ret s := nr rfl
theorem e_q_seq_exit {i : Nat} : seqQ k Q (.exit i) s = Q (.exit i) s := nr rfl
theorem e_q_block {i : Nat} : blockQ i Q .normal s = Q .normal s := nr rfl
theorem e_q_block_ret {i : Nat} : blockQ i Q .ret s = Q .ret s := nr rfl
theorem e_q_block_exit {i j : Nat} : blockQ i Q (.exit j) s = if j = i then Q .normal s else Q (.exit j) s := nr rfl
theorem e_fn_ret {rs : List ResultVar} {R : AVal → St → Prop} : FnQ P rs R .ret s = ∃ r, ares P rs s = some r ∧ R r s := nr rfl
theorem e_fn_normal {rs : List ResultVar} {R : AVal → St → Prop} : FnQ P rs R .normal s = ∃ r, ares P rs s = some r ∧ R r s := nr rfl

def viewO (r : Option AVal) (m : AMem) (v : AVal) : Option AVal :=
  match r with
  | some u => some u
  | none => view 8 m v
theorem e_view {v : AVal} : view 8 m v = viewO (strip v) m v := by
  cases h : strip v with
  | none => rfl
  | some u => simp only [viewO]; exact v_strip h
theorem e_view_some {u v : AVal} : viewO (some u) m v = some u := rfl

/-! ### Loops -/

def HasE (E : List (Nat × AVal)) : List (Nat × AVal) → Prop
  | [] => True
  | (k, v) :: r => lk E k = v ∧ HasE E r

/-- One round on. -/
def Nxt {σ : Type} (μ : σ → Nat) (H : σ → Prop) (M : σ → AMem) (L : σ → List (Nat × AVal)) (x : σ) (s : St) : Prop :=
  ∃ y, μ y < μ x ∧ H y ∧ s.m = M y ∧ HasE s.env (L y)

theorem w_loop {σ : Type} (μ : σ → Nat) (H : σ → Prop) (M : σ → AMem) (L : σ → List (Nat × AVal)) (x0 : σ) (h0 : H x0) (hm : m = M x0) (hl : HasE e (L x0))
    (h : ∀ x, H x → ∀ E, HasE E (L x) → W P Γ mu a (seqQ (Nxt μ H M L x) Q) ⟨E, M x⟩) : W P Γ mu (.loop a) Q ⟨e, m⟩ := by
  rw [W_loop]
  refine ⟨fun k s => ∃ x, k = μ x ∧ H x ∧ s.m = M x ∧ HasE s.env (L x), μ x0, ⟨x0, rfl, h0, hm, hl⟩, ?_⟩
  rintro k ⟨E, mm⟩ ⟨x, rfl, h1, h2, h3⟩
  simp only at h2 h3
  subst h2
  have e : (Nxt μ H M L x) = fun s' => ∃ k', k' < μ x ∧ ∃ y, k' = μ y ∧ H y ∧ s'.m = M y ∧ HasE s'.env (L y) := by
    funext s'
    apply propext
    constructor
    · rintro ⟨y, a, b⟩; exact ⟨_, a, y, rfl, b⟩
    · rintro ⟨_, a, y, rfl, b⟩; exact ⟨y, a, b⟩
  rw [← e]
  exact h x h1 E h3

end
end Go.Hk
