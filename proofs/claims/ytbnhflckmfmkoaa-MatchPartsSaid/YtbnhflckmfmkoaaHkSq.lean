/- A body walked in two parts: between them what may be written is given up, and told. -/
import Derived.Test.YtbnhflckmfmkoaaHkSm
set_option linter.unusedSimpArgs false
set_option linter.unusedVariables false
namespace Go.Hk
def isSeqs : Nat → Code → Bool
  | 0, _ => true
  | k + 1, .seq _ b => isSeqs k b
  | _ + 1, _ => false
def preC : Nat → Code → Code
  | 0, _ => .skip
  | k + 1, .seq a b => .seq a (preC k b)
  | _ + 1, c => c
def postC : Nat → Code → Code
  | 0, c => c
  | k + 1, .seq _ b => postC k b
  | _ + 1, c => c
def cutQ (k : St → Prop) (Q : Exit → St → Prop) : Exit → St → Prop := fun e s => match e with | .normal => k s | e => Q e s
section
variable {P : Program} {Γ : Gam} {mu : Bool} {n hk tk : Nat}
theorem AWp.cut (hΓ : Sound P Γ) (hm : P.follows .mixedOrders = true) : ∀ (k : Nat) (c : Code) (Q : Exit → St → Prop) (s : St), isSeqs k c = true → codeOKx Γ mu n (preC k c) = true → W P Γ mu hk tk (preC k c) (cutQ (AWp P n hk tk (postC k c) Q) Q) s → AWp P n hk tk c Q s
  | 0, c, Q, s, _, _, h => by
    obtain ⟨h⟩ := h
    exact h
  | k + 1, .seq a b, Q, s, hs, hok, h => by
    simp only [preC, codeOKx, Bool.and_eq_true] at hok
    refine AWp.seq (AWp.mono (AWp.w (mu := mu) hΓ hm a (seqQ (W P Γ mu hk tk (preC k b) (cutQ (AWp P n hk tk (postC k b) Q) Q)) (cutQ (AWp P n hk tk (postC k b) Q) Q)) s hok.1 ?_) fun e s' hq => ?_)
    · obtain ⟨e, m⟩ := s
      simp only [preC, e_w_seq] at h
      exact h
    · cases e
      case normal => exact AWp.cut hΓ hm k b Q s' hs hok.2 hq
      all_goals exact hq
/-- What is told of the environment, the memory given up. -/
def dropOK (s : St) (e' : List (Nat × AVal)) : Prop := ∀ p ∈ e', view 8 s.m (lk s.env p.1) = some p.2
theorem lk_mem : ∀ {l : List (Nat × AVal)} {t : Nat}, lk l t = .dead ∨ (t, lk l t) ∈ l
  | [], t => .inl rfl
  | (k, v) :: l, t => by
    simp only [lk]
    split
    · rename_i h; subst h; exact .inr (by simp)
    · rcases lk_mem (l := l) (t := t) with h | h
      · exact .inl h
      · exact .inr (by simp [h])
theorem ext_drop0 {γ : Ghost} : ExtN 0 0 γ γ.drop where
  bad := rfl
  lo := rfl
  size := Nat.le_refl _
  os := rfl
  tape := rfl
  output := rfl
  cell := fun _ _ _ h => drop_cell h
  blk := fun b _ _ _ h => absurd h (Nat.not_lt_zero b)
  tip := fun t _ _ _ h => absurd h (Nat.not_lt_zero t)
  own := fun _ _ _ h => h
  frame := fun _ _ _ => .inl rfl
  owns := fun k h => by
    rcases h with ⟨b, hb⟩ | ⟨t, ht⟩
    · exact absurd hb drop_noblk
    · exact absurd ht drop_notok
theorem AWp.drop {c : Code} {Q : Exit → St → Prop} {s : St} {e' : List (Nat × AVal)} (hd : dropOK s e') (h : AWp P n 0 0 c Q ⟨e', ⟨[], []⟩⟩) : AWp P n 0 0 c Q s := fun ro z γ a hro hh hmk => by
  have hh' : Holds n γ.drop ⟨e', ⟨[], []⟩⟩ a := ⟨rl_drop hh.rl, rfl, fun t => by
    rcases lk_mem (l := e') (t := t) with h | h
    · rw [show lk (St.mk e' ⟨[], []⟩).env t = .dead from h]; exact .dead _
    · exact view_sound hh.rl _ _ _ _ (by rw [hh.m]; exact hd _ h) (hh.er t), hh.size⟩
  exact wpIn_mono (h ro z γ.drop a hro hh' (hmk.ext ext_drop0)) fun _ _ _ k => AQ.trans ext_drop0 k
end
theorem e_cutQ {k : St → Prop} {Q : Exit → St → Prop} {s : St} : cutQ k Q .normal s = k s := rfl
theorem e_cutQ_ret {k : St → Prop} {Q : Exit → St → Prop} {s : St} : cutQ k Q .ret s = Q .ret s := rfl
attribute [go_sem] e_cutQ e_cutQ_ret
end Go.Hk
namespace Go.Hk
end Go.Hk
