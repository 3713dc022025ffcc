/- The evaluator of code without loops, and its soundness; what is known of functions, by lists. -/
import Derived.Test.YtojahfdjfacgaaaHkQ16
namespace Go.Hk

theorem Eqv.symm {a b : St} (h : Eqv a b) : Eqv b a := ⟨h.1.symm, fun t => (h.2 t).symm⟩

theorem Holds.eqv {n : Nat} {γ : Ghost} {s s' : St} {a : Act} (h : Holds n γ s a) (he : Eqv s s') : Holds n γ s' a :=
  ⟨h.rl, h.m.trans he.1, fun t => by rw [← he.2 t]; exact h.er t, h.size⟩

theorem AWp.eqv {P : Program} {n hk tk : Nat} {c : Code} {Q : Exit → St → Prop} {s s' : St} (h : AWp P n hk tk c Q s) (he : Eqv s s') : AWp P n hk tk c Q s' := fun ro z γ a hro hh hm => h ro z γ a hro (hh.eqv he.symm) hm

/-- A region, walked in the order of the text. -/
theorem AWp.reg {P : Program} {Γ : Gam} {mu : Bool} (hΓ : Sound P Γ) (hm : P.follows .mixedOrders = true) {n hk tk id : Nat} {ops : Array Oper} {d : Bool} {Q : Exit → St → Prop} {s s' : St} (hd : dstOK n ops.toList = true) (hdr : (!d || drawOK Γ mu ops) = true)
    (he : aops P Γ mu ops ops.toList s = some s') (h : Q .normal s') : AWp P n hk tk (.region id ops d) Q s := by
  cases d with
  | false => exact AWp.region hΓ hd he h
  | true =>
    have := AWp.drawn (hk := hk) (tk := tk) (Q := fun e s'' => ∃ s1, Eqv s1 s'' ∧ Q e s1) (id := id) hΓ hm hd (by simpa using hdr) he (fun s'' hs => ⟨s', hs, h⟩)
    intro ro z γ a hro hh hmk
    refine wpIn_mono (this ro z γ a (fun h => by cases h) hh hmk) fun e a' w' hq => ?_
    obtain ⟨γ', s'', rfl, k2, k3, s1, k4, k5⟩ := hq
    exact ⟨γ', s1, rfl, k2, ⟨k3.1.eqv k4.symm, k3.2⟩, k5⟩

/-- Whether all regions of a piece of code may be walked so. -/
def codeOK (Γ : Gam) (mu : Bool) (n : Nat) : Code → Bool
  | .region _ ops d => dstOK n ops.toList && (!d || drawOK Γ mu ops)
  | .seq a b => codeOK Γ mu n a && codeOK Γ mu n b
  | .cond _ a b => codeOK Γ mu n a && codeOK Γ mu n b
  | .block _ a => codeOK Γ mu n a
  | .loop a => codeOK Γ mu n a
  | .rangeFunc _ _ a b => codeOK Γ mu n a && codeOK Γ mu n b
  | .scope a => codeOK Γ mu n a
  | _ => true

def thenC (r : Option (Exit × St)) (k : St → Option (Exit × St)) : Option (Exit × St) :=
  match r with
  | some (e, s) => (match e with
    | .normal => k s
    | e => some (e, s))
  | none => none

def blockC (id : Nat) (r : Option (Exit × St)) : Option (Exit × St) :=
  match r with
  | some (e, s) => (match e with
    | .exit i => if i = id then some (.normal, s) else some (.exit i, s)
    | e => some (e, s))
  | none => none

def regC (r : Option St) : Option (Exit × St) :=
  match r with
  | some s => some (.normal, s)
  | none => none

def condC (v : AVal) (a b : Option (Exit × St)) : Option (Exit × St) :=
  match v with
  | .bool t => if t = true then a else b
  | _ => none

def evalC (P : Program) (Γ : Gam) (mu : Bool) : Code → St → Option (Exit × St)
  | .skip, s => some (.normal, s)
  | .region _ ops _, s => regC (aops P Γ mu ops ops.toList s)
  | .seq a b, s => thenC (evalC P Γ mu a s) (evalC P Γ mu b)
  | .cond c a b, s => condC (ev s.env c) (evalC P Γ mu a s) (evalC P Γ mu b s)
  | .block id a, s => blockC id (evalC P Γ mu a s)
  | .exit id, s => some (.exit id, s)
  | .ret, s => some (.ret, s)
  | .label _, s => some (.normal, s)
  | _, _ => none

section
variable {P : Program} {Γ : Gam} {mu : Bool} {n hk tk : Nat}

theorem AWp.eval (hΓ : Sound P Γ) (hm : P.follows .mixedOrders = true) : ∀ (c : Code) (Q : Exit → St → Prop) (s s' : St) (e : Exit), codeOK Γ mu n c = true → evalC P Γ mu c s = some (e, s') → Q e s' → AWp P n hk tk c Q s := by
  intro c
  induction c with
  | skip =>
    intro Q s s' e _ h hq
    simp only [evalC, Option.some.injEq, Prod.mk.injEq] at h
    obtain ⟨rfl, rfl⟩ := h
    exact AWp.skip hq
  | region id ops d =>
    intro Q s s' e hok h hq
    simp only [codeOK, Bool.and_eq_true] at hok
    simp only [evalC, regC] at h
    split at h
    · rename_i s1 h1
      simp only [Option.some.injEq, Prod.mk.injEq] at h
      obtain ⟨rfl, rfl⟩ := h
      exact AWp.reg hΓ hm hok.1 hok.2 h1 hq
    · cases h
  | seq a b iha ihb =>
    intro Q s s' e hok h hq
    simp only [codeOK, Bool.and_eq_true] at hok
    simp only [evalC, thenC] at h
    split at h
    · rename_i e1 s1 h1
      split at h
      · exact AWp.seq (iha _ s s1 .normal hok.1 h1 (ihb Q s1 s' e hok.2 h hq))
      · rename_i hne
        simp only [Option.some.injEq, Prod.mk.injEq] at h
        obtain ⟨rfl, rfl⟩ := h
        refine AWp.seq (iha _ s s1 _ hok.1 h1 ?_)
        cases e1 <;> first | exact absurd rfl hne | exact hq
    · cases h
  | cond c a b iha ihb =>
    intro Q s s' e hok h hq
    simp only [codeOK, Bool.and_eq_true] at hok
    simp only [evalC, condC] at h
    split at h
    · rename_i t ht
      refine AWp.cond ht ?_
      cases t with
      | true => exact iha Q s s' e hok.1 (by simpa using h) hq
      | false => exact ihb Q s s' e hok.2 (by simpa using h) hq
    · cases h
  | block id a iha =>
    intro Q s s' e hok h hq
    simp only [codeOK] at hok
    simp only [evalC, blockC] at h
    split at h
    · rename_i e1 s1 h1
      refine AWp.block (iha _ s s1 e1 hok h1 ?_)
      split at h
      · rename_i i
        simp only [blockQ]
        split at h
        · rename_i hi
          simp only [Option.some.injEq, Prod.mk.injEq] at h
          obtain ⟨rfl, rfl⟩ := h
          rw [if_pos hi]; exact hq
        · rename_i hi
          simp only [Option.some.injEq, Prod.mk.injEq] at h
          obtain ⟨rfl, rfl⟩ := h
          rw [if_neg hi]; exact hq
      · rename_i hne
        simp only [Option.some.injEq, Prod.mk.injEq] at h
        obtain ⟨rfl, rfl⟩ := h
        cases e1 <;> first | exact absurd rfl (hne _) | exact hq
    · cases h
  | exit id =>
    intro Q s s' e _ h hq
    simp only [evalC, Option.some.injEq, Prod.mk.injEq] at h
    obtain ⟨rfl, rfl⟩ := h
    exact AWp.exit hq
  | ret =>
    intro Q s s' e _ h hq
    simp only [evalC, Option.some.injEq, Prod.mk.injEq] at h
    obtain ⟨rfl, rfl⟩ := h
    exact AWp.ret hq
  | label l =>
    intro Q s s' e _ h hq
    simp only [evalC, Option.some.injEq, Prod.mk.injEq] at h
    obtain ⟨rfl, rfl⟩ := h
    exact AWp.label hq
  | _ => intro Q s s' e _ h; simp [evalC] at h

/-- What is asked of an evaluation. -/
def evQ (r : Option (Exit × St)) (Q : Exit → St → Prop) : Prop :=
  match r with
  | some (e, s) => Q e s
  | none => False

theorem AWp.ev (hΓ : Sound P Γ) (hm : P.follows .mixedOrders = true) {c : Code} {Q : Exit → St → Prop} {s : St} (hok : codeOK Γ mu n c = true) (h : evQ (evalC P Γ mu c s) Q) : AWp P n hk tk c Q s := by
  unfold evQ at h
  split at h
  · rename_i e s' he
    exact AWp.eval hΓ hm c Q s s' e hok he h
  · exact h.elim

end

/-! ### Rewriting -/

section
variable {s : St} {k : St → Option (Exit × St)} {c : Prop} [Decidable c] {a b : Option (Exit × St)} {Q : Exit → St → Prop}
end

/-! ### What is known of functions -/

def gamF : List (FuncId × Con) → FuncId → Con
  | [], _ => .non
  | (k, c) :: r, f => if f = k then c else gamF r f
def gam (l : List (FuncId × Con)) : Gam := ⟨gamF l, fun _ => none, fun _ => false, false, fun _ _ _ => none, 0⟩
/-- The same, with regions that are walked in more than one order. -/
def gamx (x : List (Nat × OT)) (l : List (FuncId × Con)) : Gam := ⟨gamF l, fun i => (x.find? (·.1 == i)).map (·.2), fun _ => false, false, fun _ _ _ => none, 0⟩
/-- What yield gives: nothing is known; or of one loop's. -/
def yNo : Nat → List AVal → AMem → Option (AVal × AMem) := fun _ _ _ => none
def yOf (b : Nat) (imp : List AVal → AMem → Option (AVal × AMem)) : Nat → List AVal → AMem → Option (AVal × AMem) := fun b' args m => if b' = b then imp args m else none
/-- The same, with regions that go on over a map; with function values that may write; with what yield gives; of functions of n temporaries that range over functions. -/
def gamg (ks : List Nat) (dy : Bool) (yl : Nat → List AVal → AMem → Option (AVal × AMem)) (n : Nat) (l : List (FuncId × Con)) : Gam := ⟨gamF l, fun _ => none, fun i => ks.contains i, dy, yl, n⟩

def FnOK (P : Program) (l : List (FuncId × Con)) : Prop := ∀ f, ConOK P f (gamF l f)
theorem FnOK.cons {P : Program} {k : FuncId} {c : Con} {r : List (FuncId × Con)} (h : ConOK P k c) (hr : FnOK P r) : FnOK P ((k, c) :: r) := fun f => by
  by_cases hf : f = k
  · subst hf
    simp only [gamF, if_true]
    exact h
  · have := hr f
    simp only [gamF, if_neg hf]
    exact this
theorem Sound.of {P : Program} {l : List (FuncId × Con)} (h : FnOK P l) : Sound P (gam l) := ⟨h, fun _ _ _ _ _ h => by cases h⟩
theorem Sound.nil {P : Program} : Sound P (gam []) := .of fun _ => trivial
theorem Sound.pure {P : Program} {k : FuncId} {imp : List AVal → Option AVal} {r : List (FuncId × Con)} (h : ∀ ars v, imp ars = some v → PCall P k ars v) (hr : Sound P (gam r)) : Sound P (gam ((k, .pure imp) :: r)) := .of (FnOK.cons h hr.fn)
theorem Sound.raw {P : Program} {k : FuncId} {imp : List AVal → AMem → Option (AVal × AMem)} {r : List (FuncId × Con)} (h : ∀ args m v m', imp args m = some (v, m') → RCall P k args m v m') (hr : Sound P (gam r)) : Sound P (gam ((k, .raw imp) :: r)) := .of (FnOK.cons h hr.fn)
theorem Sound.lib {P : Program} {k : FuncId} {imp : List AVal → AMem → Option (AVal × AMem)} {r : List (FuncId × Con)} (h : ∀ args m v m', imp args m = some (v, m') → LCall P k args m v m') (hr : Sound P (gam r)) : Sound P (gam ((k, .lib imp) :: r)) := .of (FnOK.cons h hr.fn)
theorem Sound.ext {P : Program} {k : FuncId} {imp : List AVal → List (Nat × (Nat × Nat)) → Option (AVal × List (Nat × (Nat × Nat)))} {r : List (FuncId × Con)} (h : ∀ args T v T', imp args T = some (v, T') → ECall P k args T v T') (hr : Sound P (gam r)) : Sound P (gam ((k, .ext imp) :: r)) := .of (FnOK.cons h hr.fn)
theorem Sound.x {P : Program} {x : List (Nat × OT)} {l : List (FuncId × Con)} (h : Sound P (gam l)) : Sound P (gamx x l) := ⟨h.fn, fun _ _ _ _ _ h => by cases h⟩
theorem Sound.g {P : Program} {ks : List Nat} {dy : Bool} {n : Nat} {l : List (FuncId × Con)} (h : Sound P (gam l)) : Sound P (gamg ks dy yNo n l) := ⟨h.fn, fun _ _ _ _ _ h => by cases h⟩
theorem Sound.y {P : Program} {ks : List Nat} {dy : Bool} {n b : Nat} {imp : List AVal → AMem → Option (AVal × AMem)} {l : List (FuncId × Con)} (hy : ∀ args m r m', imp args m = some (r, m') → YCall P b args m r m') (h : Sound P (gam l)) : Sound P (gamg ks dy (yOf b imp) n l) :=
  ⟨h.fn, fun b' args m r m' h => by
    have h' : (if b' = b then imp args m else none) = some (r, m') := h
    split at h'
    · rename_i hb; subst hb; exact hy _ _ _ _ h'
    · cases h'⟩
/-- A region that goes on over a map. -/
def isNext : List Oper → Option (Option Nat × Operand × List Oper)
  | ⟨dst, .next it false, _, _, _, none⟩ :: rest => some (dst, it, rest)
  | _ => none
/-- Whether all regions of a piece of code may be walked so; those told apart: in the orders told. -/
def codeOKx (Γ : Gam) (mu : Bool) (n : Nat) : Code → Bool
  | .region id ops d => dstOK n ops.toList && if Γ.nx id then !d && (isNext ops.toList).isSome else (match Γ.ex id with | some t => d && otOK Γ mu ops t (List.replicate ops.size false).toArray && decide (t.depth ≤ ops.size) | none => !d || drawOK Γ mu ops)
  | .seq a b => codeOKx Γ mu n a && codeOKx Γ mu n b
  | .cond _ a b => codeOKx Γ mu n a && codeOKx Γ mu n b
  | .block _ a => codeOKx Γ mu n a
  | .loop a => codeOKx Γ mu n a
  | .rangeFunc _ _ _ _ => decide (Γ.nt = n)
  | .scope a => codeOKx Γ mu n a
  | _ => true
end Go.Hk
