/- Memory that came in, with blocks of one's own behind it. -/
import Derived.Test.YtbnhflckmfmkoaaHkPg
set_option linter.unusedSimpArgs false
set_option linter.unusedVariables false
namespace Go.Hk
section
variable {G l : List ABlk} {b k t : Nat} {x y : ABlk}
theorem m_at (h : b < G.length) : (G ++ l)[b]? = G[b]? := List.getElem?_append_left h
theorem m_atS (h : b < G.length) {c : Nat} : (G.set c x ++ l)[b]? = (G.set c x)[b]? := List.getElem?_append_left (by simpa using h)
theorem m_set (h : b < G.length) : (G ++ l).set b y = G.set b y ++ l := List.set_append_left _ _ h
theorem m_setS (h : b < G.length) {c : Nat} : (G.set c x ++ l).set b y = (G.set c x).set b y ++ l := List.set_append_left _ _ (by simpa using h)
theorem m_own0 : (G ++ l)[G.length]? = l[0]? := by rw [List.getElem?_append_right (Nat.le_refl _), Nat.sub_self]
theorem m_own : (G ++ l)[G.length + k]? = l[k]? := by rw [List.getElem?_append_right (Nat.le_add_right _ _), Nat.add_sub_cancel_left]
theorem m_own0S {c : Nat} : (G.set c x ++ l)[G.length]? = l[0]? := by
  have := m_own0 (G := G.set c x) (l := l); rwa [List.length_set] at this
theorem m_ownS {c : Nat} : (G.set c x ++ l)[G.length + k]? = l[k]? := by
  have := m_own (G := G.set c x) (l := l) (k := k); rwa [List.length_set] at this
theorem m_put0 : (G ++ l).set G.length y = G ++ l.set 0 y := by rw [List.set_append_right _ _ (Nat.le_refl _), Nat.sub_self]
theorem m_put : (G ++ l).set (G.length + k) y = G ++ l.set k y := by rw [List.set_append_right _ _ (Nat.le_add_right _ _), Nat.add_sub_cancel_left]
theorem m_put0S {c : Nat} : (G.set c x ++ l).set G.length y = G.set c x ++ l.set 0 y := by
  have := m_put0 (G := G.set c x) (l := l) (y := y); rwa [List.length_set] at this
theorem m_putS {c : Nat} : (G.set c x ++ l).set (G.length + k) y = G.set c x ++ l.set k y := by
  have := m_put (G := G.set c x) (l := l) (k := k) (y := y); rwa [List.length_set] at this
theorem m_more {l' : List ABlk} : G ++ l ++ l' = G ++ (l ++ l') := List.append_assoc _ _ _
end
/-! ### Closedness grows -/
mutual
theorem clo_mono {h h' t t' : Nat} (hh : h ≤ h') (ht : t ≤ t') : ∀ v, clo h t v = true → clo h' t' v = true
  | .dead, _ => rfl
  | .undef, _ => rfl
  | .bool _, _ => rfl
  | .int _ _, _ => rfl
  | .str _, _ => rfl
  | .nilp, _ => rfl
  | .nilm, _ => rfl
  | .nilf, _ => rfl
  | .nili, _ => rfl
  | .ptr b _ _, k => by simp only [clo, decide_eq_true_eq] at k ⊢; omega
  | .msl b _ _ _ _, k => by simp only [clo, decide_eq_true_eq] at k ⊢; omega
  | .map b, k => by simp only [clo, decide_eq_true_eq] at k ⊢; omega
  | .tpt _ b _, k => by simp only [clo, decide_eq_true_eq] at k ⊢; omega
  | .yld b, k => by simp only [clo, decide_eq_true_eq] at k ⊢; omega
  | .sl r _ cs, k => by
    simp only [clo, Bool.and_eq_true] at k ⊢
    refine ⟨?_, cloL_mono hh ht cs k.2⟩
    cases r <;> simp only [cloR, decide_eq_true_eq] at k ⊢
    omega
  | .ipt cs _, k => by simp only [clo] at k ⊢; exact cloL_mono hh ht cs k
  | .dpt _ cs, k => by simp only [clo] at k ⊢; exact cloL_mono hh ht cs k
  | .agg cs, k => by simp only [clo] at k ⊢; exact cloL_mono hh ht cs k
  | .fn _ a c, k => by
    simp only [clo, Bool.and_eq_true] at k ⊢
    exact ⟨cloL_mono hh ht a k.1, cloL_mono hh ht c k.2⟩
  | .ifc _ v, k => by simp only [clo] at k ⊢; exact clo_mono hh ht v k
  | .tup a vs, k => by
    simp only [clo, Bool.and_eq_true] at k ⊢
    exact ⟨clo_mono hh ht a k.1, cloL_mono hh ht vs k.2⟩
theorem cloL_mono {h h' t t' : Nat} (hh : h ≤ h') (ht : t ≤ t') : ∀ cs, cloL h t cs = true → cloL h' t' cs = true
  | [], _ => rfl
  | v :: vs, k => by
    simp only [cloL, Bool.and_eq_true] at k ⊢
    exact ⟨clo_mono hh ht v k.1, cloL_mono hh ht vs k.2⟩
end
theorem cloB_mono {h h' t t' : Nat} (hh : h ≤ h') (ht : t ≤ t') {x : ABlk} (k : cloB h t x = true) : cloB h' t' x = true := by
  cases x with
  | cells e cs => exact cloL_mono hh ht cs k
  | amap es =>
    simp only [cloB, List.all_eq_true, Bool.and_eq_true] at k ⊢
    exact fun p hp => ⟨clo_mono hh ht _ (k p hp).1, clo_mono hh ht _ (k p hp).2⟩
  | iter mb l c =>
    simp only [cloB, List.all_eq_true, Bool.and_eq_true, decide_eq_true_eq, Option.all_eq_true] at k ⊢
    exact ⟨⟨by omega, fun p hp => ⟨clo_mono hh ht _ (k.1.2 p hp).1, clo_mono hh ht _ (k.1.2 p hp).2⟩⟩, fun p hp => ⟨clo_mono hh ht _ (k.2 p hp).1, clo_mono hh ht _ (k.2 p hp).2⟩⟩
  | loop st pend ps asg body env n =>
    simp only [cloB, List.all_eq_true] at k ⊢
    exact fun p hp => clo_mono hh ht _ (k p hp)
/-- Nothing in these names anything outside. -/
def shut (m : AMem) : Bool := m.H.all (cloB m.H.length m.T.length)
theorem shut_app {G l : List ABlk} {T X : List (Nat × (Nat × Nat))} (hG : shut ⟨G, T⟩ = true) (hl : ∀ h, G.length + l.length ≤ h → l.all (cloB h (T ++ X).length) = true) : shut ⟨G ++ l, T ++ X⟩ = true := by
  simp only [shut, List.all_append, Bool.and_eq_true] at hG ⊢
  refine ⟨?_, hl _ (by simp)⟩
  rw [List.all_eq_true] at hG ⊢
  exact fun x hx => cloB_mono (by simp) (by simp) (hG x hx)
theorem shut_set {G : List ABlk} {T : List (Nat × (Nat × Nat))} {b : Nat} {x : ABlk} (hG : shut ⟨G, T⟩ = true) (hx : cloB G.length T.length x = true) : shut ⟨G.set b x, T⟩ = true := by
  simp only [shut, List.length_set] at hG ⊢
  rw [List.all_eq_true] at hG ⊢
  intro y hy
  rcases List.mem_or_eq_of_mem_set hy with h | rfl
  · exact hG y h
  · exact hx
theorem shut_two {G l : List ABlk} {T : List (Nat × (Nat × Nat))} {b : Nat} {x : ABlk} (hG : shut ⟨G, T⟩ = true) (hx : cloB G.length T.length x = true) (hl : ∀ h, G.length + l.length ≤ h → l.all (cloB h T.length) = true) : shut ⟨G.set b x ++ l, T⟩ = true := by
  have := shut_app (X := []) (shut_set (b := b) hG hx) (l := l) (by simpa using hl)
  simpa using this
theorem shut_one {G l : List ABlk} {T : List (Nat × (Nat × Nat))} (hG : shut ⟨G, T⟩ = true) (hl : ∀ h, G.length + l.length ≤ h → l.all (cloB h T.length) = true) : shut ⟨G ++ l, T⟩ = true := by
  have := shut_app (X := []) hG (l := l) (by simpa using hl)
  simpa using this
theorem leftM_one {G l : List ABlk} {T : List (Nat × (Nat × Nat))} (hG : shut ⟨G, T⟩ = true) : LeftM ⟨G, T⟩ ⟨G ++ l, T⟩ := .inr ⟨⟨l, [], by simp⟩, hG⟩
theorem nxR_ne {T : List (Nat × (Nat × Nat))} {r : Rt} : nxR T r ≠ .full := by cases r <;> simp [nxR]
attribute [go_sem] m_own0 m_own m_own0S m_ownS m_put0 m_put m_put0S m_putS m_more List.length_append List.length_set
end Go.Hk
