/- The evaluator of code without loops, and its soundness; what is known of functions, by lists. -/
import Derived.Test.YtbnhflckmfmkoaaDoorHkL
namespace Go.Hk

theorem Eqv.symm {a b : St} (h : Eqv a b) : Eqv b a := ⟨h.1.symm, fun t => (h.2 t).symm⟩

theorem Holds.eqv {n : Nat} {γ : Ghost} {s s' : St} {a : Act} (h : Holds n γ s a) (he : Eqv s s') : Holds n γ s' a :=
  ⟨h.rl, h.m.trans he.1, fun t => by rw [← he.2 t]; exact h.er t, h.size, h.defers⟩

theorem AWp.eqv {P : Program} {n hk tk : Nat} {c : Code} {Q : Exit → St → Prop} {s s' : St} (h : AWp P n hk tk c Q s) (he : Eqv s s') : AWp P n hk tk c Q s' := fun γ a hh => h γ a (hh.eqv he.symm)

/-- A region, walked in the order of the text. -/
theorem AWp.reg {P : Program} {Γ : Gam} {mu : Bool} (hΓ : Sound P Γ) (hm : P.follows .mixedOrders = true) {n hk tk id : Nat} {ops : Array Oper} {d : Bool} {Q : Exit → St → Prop} {s s' : St} (hd : dstOK n ops.toList = true) (hdr : (!d || drawOK Γ mu ops) = true)
    (he : aops P Γ mu ops ops.toList s = some s') (h : Q .normal s') : AWp P n hk tk (.region id ops d) Q s := by
  cases d with
  | false => exact AWp.region hΓ hd he h
  | true =>
    have := AWp.drawn (hk := hk) (tk := tk) (Q := fun e s'' => ∃ s1, Eqv s1 s'' ∧ Q e s1) (id := id) hΓ hm hd (by simpa using hdr) he (fun s'' hs => ⟨s', hs, h⟩)
    intro γ a hh
    refine wp_mono (this γ a hh) fun e a' w' hq => ?_
    obtain ⟨γ', s'', rfl, k2, k3, s1, k4, k5⟩ := hq
    exact ⟨γ', s1, rfl, k2, k3.eqv k4.symm, k5⟩

/-- Whether all regions of a piece of code may be walked so. -/
def codeOK (Γ : Gam) (mu : Bool) (n : Nat) : Code → Bool
  | .region _ ops d => dstOK n ops.toList && (!d || drawOK Γ mu ops)
  | .seq a b => codeOK Γ mu n a && codeOK Γ mu n b
  | .cond _ a b => codeOK Γ mu n a && codeOK Γ mu n b
  | .block _ a => codeOK Γ mu n a
  | .loop a => codeOK Γ mu n a
  | .rangeFunc _ _ a b => codeOK Γ mu n a && codeOK Γ mu n b
  | .scope a => codeOK Γ mu n a
  | _ => true

def thenC (r : Option (Exit × St)) (k : St → Option (Exit × St)) : Option (Exit × St) :=
  match r with
  | some (e, s) => (match e with
    | .normal => k s
    | e => some (e, s))
  | none => none

def blockC (id : Nat) (r : Option (Exit × St)) : Option (Exit × St) :=
  match r with
  | some (e, s) => (match e with
    | .exit i => if i = id then some (.normal, s) else some (.exit i, s)
    | e => some (e, s))
  | none => none

def regC (r : Option St) : Option (Exit × St) :=
  match r with
  | some s => some (.normal, s)
  | none => none

def condC (v : AVal) (a b : Option (Exit × St)) : Option (Exit × St) :=
  match v with
  | .bool t => if t = true then a else b
  | _ => none

def evalC (P : Program) (Γ : Gam) (mu : Bool) : Code → St → Option (Exit × St)
  | .skip, s => some (.normal, s)
  | .region _ ops _, s => regC (aops P Γ mu ops ops.toList s)
  | .seq a b, s => thenC (evalC P Γ mu a s) (evalC P Γ mu b)
  | .cond c a b, s => condC (ev s.env c) (evalC P Γ mu a s) (evalC P Γ mu b s)
  | .block id a, s => blockC id (evalC P Γ mu a s)
  | .exit id, s => some (.exit id, s)
  | .ret, s => some (.ret, s)
  | .label _, s => some (.normal, s)
  | _, _ => none

section
variable {P : Program} {Γ : Gam} {mu : Bool} {n hk tk : Nat}

theorem AWp.eval (hΓ : Sound P Γ) (hm : P.follows .mixedOrders = true) : ∀ (c : Code) (Q : Exit → St → Prop) (s s' : St) (e : Exit), codeOK Γ mu n c = true → evalC P Γ mu c s = some (e, s') → Q e s' → AWp P n hk tk c Q s := by
  intro c
  induction c with
  | skip =>
    intro Q s s' e _ h hq
    simp only [evalC, Option.some.injEq, Prod.mk.injEq] at h
    obtain ⟨rfl, rfl⟩ := h
    exact AWp.skip hq
  | region id ops d =>
    intro Q s s' e hok h hq
    simp only [codeOK, Bool.and_eq_true] at hok
    simp only [evalC, regC] at h
    split at h
    · rename_i s1 h1
      simp only [Option.some.injEq, Prod.mk.injEq] at h
      obtain ⟨rfl, rfl⟩ := h
      exact AWp.reg hΓ hm hok.1 hok.2 h1 hq
    · cases h
  | seq a b iha ihb =>
    intro Q s s' e hok h hq
    simp only [codeOK, Bool.and_eq_true] at hok
    simp only [evalC, thenC] at h
    split at h
    · rename_i e1 s1 h1
      split at h
      · exact AWp.seq (iha _ s s1 .normal hok.1 h1 (ihb Q s1 s' e hok.2 h hq))
      · rename_i hne
        simp only [Option.some.injEq, Prod.mk.injEq] at h
        obtain ⟨rfl, rfl⟩ := h
        refine AWp.seq (iha _ s s1 _ hok.1 h1 ?_)
        cases e1 <;> first | exact absurd rfl hne | exact hq
    · cases h
  | cond c a b iha ihb =>
    intro Q s s' e hok h hq
    simp only [codeOK, Bool.and_eq_true] at hok
    simp only [evalC, condC] at h
    split at h
    · rename_i t ht
      refine AWp.cond ht ?_
      cases t with
      | true => exact iha Q s s' e hok.1 (by simpa using h) hq
      | false => exact ihb Q s s' e hok.2 (by simpa using h) hq
    · cases h
  | block id a iha =>
    intro Q s s' e hok h hq
    simp only [codeOK] at hok
    simp only [evalC, blockC] at h
    split at h
    · rename_i e1 s1 h1
      refine AWp.block (iha _ s s1 e1 hok h1 ?_)
      split at h
      · rename_i i
        simp only [blockQ]
        split at h
        · rename_i hi
          simp only [Option.some.injEq, Prod.mk.injEq] at h
          obtain ⟨rfl, rfl⟩ := h
          rw [if_pos hi]; exact hq
        · rename_i hi
          simp only [Option.some.injEq, Prod.mk.injEq] at h
          obtain ⟨rfl, rfl⟩ := h
          rw [if_neg hi]; exact hq
      · rename_i hne
        simp only [Option.some.injEq, Prod.mk.injEq] at h
        obtain ⟨rfl, rfl⟩ := h
        cases e1 <;> first | exact absurd rfl (hne _) | exact hq
    · cases h
  | exit id =>
    intro Q s s' e _ h hq
    simp only [evalC, Option.some.injEq, Prod.mk.injEq] at h
    obtain ⟨rfl, rfl⟩ := h
    exact AWp.exit hq
  | ret =>
    intro Q s s' e _ h hq
    simp only [evalC, Option.some.injEq, Prod.mk.injEq] at h
    obtain ⟨rfl, rfl⟩ := h
    exact AWp.ret hq
  | label l =>
    intro Q s s' e _ h hq
    simp only [evalC, Option.some.injEq, Prod.mk.injEq] at h
    obtain ⟨rfl, rfl⟩ := h
    exact AWp.label hq
  | _ => intro Q s s' e _ h; simp [evalC] at h

/-- What is asked of an evaluation. -/
def evQ (r : Option (Exit × St)) (Q : Exit → St → Prop) : Prop :=
  match r with
  | some (e, s) => Q e s
  | none => False

theorem AWp.ev (hΓ : Sound P Γ) (hm : P.follows .mixedOrders = true) {c : Code} {Q : Exit → St → Prop} {s : St} (hok : codeOK Γ mu n c = true) (h : evQ (evalC P Γ mu c s) Q) : AWp P n hk tk c Q s := by
  unfold evQ at h
  split at h
  · rename_i e s' he
    exact AWp.eval hΓ hm c Q s s' e hok he h
  · exact h.elim

end

/-! ### Rewriting -/

section
variable {s : St} {k : St → Option (Exit × St)} {c : Prop} [Decidable c] {a b : Option (Exit × St)} {Q : Exit → St → Prop}
theorem thenC_normal : thenC (some (.normal, s)) k = k s := rfl
theorem thenC_ret : thenC (some (.ret, s)) k = some (.ret, s) := rfl
theorem thenC_exit {i : Nat} : thenC (some (.exit i, s)) k = some (.exit i, s) := rfl
theorem thenC_ite : thenC (if c then a else b) k = if c then thenC a k else thenC b k := by split <;> rfl
theorem blockC_normal {id : Nat} : blockC id (some (.normal, s)) = some (.normal, s) := rfl
theorem blockC_ret {id : Nat} : blockC id (some (.ret, s)) = some (.ret, s) := rfl
theorem blockC_exit {id i : Nat} : blockC id (some (.exit i, s)) = if i = id then some (.normal, s) else some (.exit i, s) := rfl
theorem blockC_ite {id : Nat} : blockC id (if c then a else b) = if c then blockC id a else blockC id b := by split <;> rfl
theorem regC_some : regC (some s) = some (.normal, s) := rfl
theorem regC_ite {x y : Option St} : regC (if c then x else y) = if c then regC x else regC y := by split <;> rfl
theorem condC_bool {t : Bool} : condC (.bool t) a b = if t = true then a else b := rfl
theorem evQ_some {e : Exit} : evQ (some (e, s)) Q = Q e s := rfl
theorem evQ_ite : evQ (if c then a else b) Q = if c then evQ a Q else evQ b Q := by split <;> rfl
theorem bind_ite' {x y : Option St} {f : St → Option St} : (if c then x else y).bind f = if c then x.bind f else y.bind f := by split <;> rfl
end

/-! ### What is known of functions -/

def gamF : List (FuncId × Con) → FuncId → Con
  | [], _ => .non
  | (k, c) :: r, f => if f = k then c else gamF r f
def gam (l : List (FuncId × Con)) : Gam := ⟨gamF l, fun _ => none⟩
/-- The same, with regions that are walked in more than one order. -/
def gamx (x : List (Nat × OT)) (l : List (FuncId × Con)) : Gam := ⟨gamF l, fun i => (x.find? (·.1 == i)).map (·.2)⟩

theorem Sound.nil {P : Program} : Sound P (gam []) := fun _ => trivial

theorem Sound.pure {P : Program} {k : FuncId} {imp : List AVal → Option AVal} {r : List (FuncId × Con)} (h : ∀ as v, imp as = some v → PCall P k as v) (hr : Sound P (gam r)) : Sound P (gam ((k, .pure imp) :: r)) := fun f => by
  by_cases hf : f = k
  · subst hf
    simp only [gam, gamF, if_true]
    exact h
  · have := hr f
    simp only [gam, gamF, if_neg hf]
    exact this

theorem Sound.raw {P : Program} {k : FuncId} {imp : List AVal → AMem → Option (AVal × AMem)} {r : List (FuncId × Con)} (h : ∀ args m v m', imp args m = some (v, m') → RCall P k args m v m') (hr : Sound P (gam r)) : Sound P (gam ((k, .raw imp) :: r)) := fun f => by
  by_cases hf : f = k
  · subst hf
    simp only [gam, gamF, if_true]
    exact h
  · have := hr f
    simp only [gam, gamF, if_neg hf]
    exact this

theorem Sound.ext {P : Program} {k : FuncId} {imp : List AVal → List (Nat × (Nat × Nat)) → Option (AVal × List (Nat × (Nat × Nat)))} {r : List (FuncId × Con)} (h : ∀ args T v T', imp args T = some (v, T') → ECall P k args T v T') (hr : Sound P (gam r)) : Sound P (gam ((k, .ext imp) :: r)) := fun f => by
  by_cases hf : f = k
  · subst hf
    simp only [gam, gamF, if_true]
    exact h
  · have := hr f
    simp only [gam, gamF, if_neg hf]
    exact this

theorem Sound.x {P : Program} {x : List (Nat × OT)} {l : List (FuncId × Con)} (h : Sound P (gam l)) : Sound P (gamx x l) := h
/-- Whether all regions of a piece of code may be walked so; those told apart: in the orders told. -/
def codeOKx (Γ : Gam) (mu : Bool) (n : Nat) : Code → Bool
  | .region id ops d => dstOK n ops.toList && (match Γ.ex id with | some t => d && otOK Γ mu ops t (List.replicate ops.size false).toArray && decide (t.depth ≤ ops.size) | none => !d || drawOK Γ mu ops)
  | .seq a b => codeOKx Γ mu n a && codeOKx Γ mu n b
  | .cond _ a b => codeOKx Γ mu n a && codeOKx Γ mu n b
  | .block _ a => codeOKx Γ mu n a
  | .loop a => codeOKx Γ mu n a
  | .rangeFunc _ _ a b => codeOKx Γ mu n a && codeOKx Γ mu n b
  | .scope a => codeOKx Γ mu n a
  | _ => true
end Go.Hk
