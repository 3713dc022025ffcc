/- Layer 6, the plain law: a text is of one set of rules only. -/
import Derived.Test.YtpbepclmcjmlbaaDoorHkPh
import Derived.Test.YtpbepclmcjmlbaaDoorHkUr
set_option linter.unusedSimpArgs false
set_option linter.unusedVariables false
namespace Go.Hk
/-! ### Bytes of a pattern's text -/
def tb (b : UInt8) : Bool := decide (b ≠ 10) && decide (b ≠ 32) && decide (b ≠ 47) && decide (b ≠ 60) && decide (b ≠ 94)
theorem charI_tb {n : Int} (h : byteI n) : ∀ b ∈ charI n, tb b = true := by
  have : ∀ k : Fin 256, (charT k.val).all tb = true := by decide +kernel
  have h1 := this ⟨n.toNat, by have := h.1; have := h.2; omega⟩
  exact List.all_eq_true.1 h1
theorem rT_tb : ∀ l : List (Int × Int), (∀ p ∈ l, okRun p) → ∀ b ∈ rT l, tb b = true
  | [], _, b, hb => by simp [rT] at hb
  | p :: l, h, b, hb => by
    have hp := h p (by simp)
    unfold okRun at hp
    have h1 := charI_tb (n := p.1) ⟨by omega, by omega⟩
    have h2 := charI_tb (n := p.2) ⟨by omega, by omega⟩
    rw [rT, List.mem_append] at hb
    rcases hb with hb | hb
    · unfold runT at hb
      split at hb
      · simp only [List.mem_append, List.mem_cons, List.not_mem_nil, or_false] at hb
        rcases hb with hb | hb | hb
        · exact h1 b hb
        · subst hb; decide
        · exact h2 b hb
      · exact h1 b hb
    · exact rT_tb l (fun q hq => h q (by simp [hq])) b hb
theorem btext_tb {A : Nat} (hA : A < 2 ^ 256) (h : A ≠ 0) : ∀ b ∈ btext A, tb b = true := by
  intro b hb
  rcases btext_cases hA h with ⟨n, bn, _, tn⟩ | ta
  · rw [tn] at hb; exact charI_tb bn b hb
  · rw [ta] at hb
    simp only [List.mem_cons, List.mem_append, List.not_mem_nil, or_false] at hb
    rcases hb with hb | hb | hb
    · subst hb; decide
    · exact rT_tb _ runs_ok b hb
    · subst hb; decide
theorem itoa_tb {n : Int} (h : 0 ≤ n ∧ n ≤ 20) : ∀ b ∈ itoa n, tb b = true := by
  have : ∀ k : Fin 21, (itoa (k.val : Int)).all tb = true := by decide +kernel
  have h1 := this ⟨n.toNat, by omega⟩
  have e : ((n.toNat : Nat) : Int) = n := by omega
  simp only [e] at h1
  exact List.all_eq_true.1 h1
theorem tail5_tb {lo hi : Int} (h : times lo hi = true) : ∀ b ∈ tail5 lo hi, tb b = true := by
  obtain ⟨h1, h2⟩ := times_of h
  intro b hb
  simp only [tail5, List.mem_append, List.mem_cons, List.not_mem_nil, or_false] at hb
  rcases hb with (((hb | hb) | hb) | hb) | hb
  · subst hb; decide
  · exact itoa_tb h1 b hb
  · subst hb; decide
  · split at hb
    · exact itoa_tb (by omega) b hb
    · cases hb
  · subst hb; decide
theorem jt_tb {p : UInt8 → Bool} {sep : List UInt8} (hs : ∀ b ∈ sep, p b = true) : ∀ l : List (List UInt8), (∀ t ∈ l, ∀ b ∈ t, p b = true) → ∀ b ∈ jt sep l, p b = true
  | [], _, b, hb => by cases hb
  | x :: l, h, b, hb => by
    simp only [jt, List.mem_append] at hb
    rcases hb with hb | hb | hb
    · exact hs b hb
    · exact h x (by simp) b hb
    · exact jt_tb hs l (fun t ht => h t (by simp [ht])) b hb
theorem joinS_tb {p : UInt8 → Bool} {sep : List UInt8} (hs : ∀ b ∈ sep, p b = true) : ∀ l : List (List UInt8), (∀ t ∈ l, ∀ b ∈ t, p b = true) → ∀ b ∈ joinS sep l, p b = true
  | [], _, b, hb => by cases hb
  | x :: l, h, b, hb => by
    simp only [joinS, List.mem_append] at hb
    rcases hb with hb | hb
    · exact h x (by simp) b hb
    · exact jt_tb hs l (fun t ht => h t (by simp [ht])) b hb
theorem kid_tb {k : Int} {y : Rx} (h : ∀ b ∈ text y, tb b = true) : ∀ b ∈ kidT k y, tb b = true := by
  intro b hb
  unfold kidT par at hb
  split at hb
  · simp only [List.mem_append, List.mem_cons, List.not_mem_nil, or_false] at hb
    rcases hb with (hb | hb) | hb
    · subst hb; decide
    · exact h b hb
    · subst hb; decide
  · exact h b hb
theorem text_tb (x : Rx) (h : WR x) : ∀ b ∈ text x, tb b = true := by
  induction x using Rx.ind with
  | h x ih =>
    rcases h.cases with rfl | ⟨s, rfl, hs, hb⟩ | ⟨l, rfl, hl, hk⟩ | ⟨l, rfl, hl, hk⟩ | ⟨lo, hi, y, rfl, ht, hy⟩
    · rw [text_1]; decide
    · rw [text_2]; exact btext_tb hb hs
    · rw [text_3]
      refine joinS_tb (fun b hb => by cases hb) _ fun t ht => ?_
      obtain ⟨y, hy, rfl⟩ := List.mem_map.1 ht
      exact kid_tb (ih y hy (hk y hy).1)
    · rw [text_4]
      refine joinS_tb (by decide) _ fun t ht => ?_
      obtain ⟨y, hy, rfl⟩ := List.mem_map.1 ht
      exact kid_tb (ih y hy (hk y hy).1)
    · rw [text_5]
      intro b hb
      rcases List.mem_append.1 hb with hb | hb
      · exact kid_tb (ih y (by simp [Rx.l]) hy) b hb
      · exact tail5_tb ht b hb
theorem text_in {x y : Rx} {a b : UInt8} {u v : List UInt8} (hx : WR x) (hy : WR y) (ha : tb a = false) (hb : tb b = false) (h : text x ++ a :: u = text y ++ b :: v) : x = y ∧ a = b ∧ u = v := by
  obtain ⟨e, f⟩ := cut_at tb _ _ a b u v (text_tb x hx) (text_tb y hy) ha hb h
  exact ⟨text_inj hx hy e, f⟩
theorem text_st2 {x : Rx} (hx : WR x) : ∃ b t, text x = b :: t ∧ tb b = true := by
  obtain ⟨b, t, e, _⟩ := text_st x hx
  exact ⟨b, t, e, text_tb x hx b (by rw [e]; simp)⟩
/-! ### Names -/
theorem nm_cut {x y : List UInt8} {a b : UInt8} {u v : List UInt8} (hx : nameB x = true) (hy : nameB y = true) (ha : nb a = false) (hb : nb b = false) (h : x ++ a :: u = y ++ b :: v) : x = y ∧ a = b ∧ u = v :=
  cut_at nb _ _ a b u v (nameB_nb hx).1 (nameB_nb hy).1 ha hb h
theorem jn_st {l : List (List UInt8)} {u : List UInt8} : ∃ b t, jt [44] l ++ 62 :: u = b :: t ∧ nb b = false := by
  cases l with
  | nil => exact ⟨62, u, rfl, by decide⟩
  | cons x l => exact ⟨44, _, rfl, by decide⟩
theorem jn_inj : ∀ (l r : List (List UInt8)) (u v : List UInt8), (∀ x ∈ l, nameB x = true) → (∀ x ∈ r, nameB x = true) → jt [44] l ++ 62 :: u = jt [44] r ++ 62 :: v → l = r ∧ u = v
  | [], [], u, v, _, _, h => by simpa [jt] using h
  | [], y :: r, u, v, _, _, h => by simp [jt] at h
  | x :: l, [], u, v, _, _, h => by simp [jt] at h
  | x :: l, y :: r, u, v, hl, hr, h => by
    simp only [jt, List.append_assoc, List.cons_append, List.nil_append, List.cons.injEq, true_and] at h
    obtain ⟨a, t, e, ha⟩ := jn_st (l := l) (u := u)
    obtain ⟨b, q, f, hb⟩ := jn_st (l := r) (u := v)
    have h' := h
    rw [e, f] at h'
    obtain ⟨h1, h2, h3⟩ := nm_cut (hl x (by simp)) (hr y (by simp)) ha hb h'
    have h4 : jt [44] l ++ 62 :: u = jt [44] r ++ 62 :: v := by rw [e, f, h2, h3]
    obtain ⟨h5, h6⟩ := jn_inj l r u v (fun z hz => hl z (by simp [hz])) (fun z hz => hr z (by simp [hz])) h4
    exact ⟨by rw [h1, h5], h6⟩
theorem js_inj {x y : List UInt8} {l r : List (List UInt8)} {u v : List UInt8} (hl : ∀ z ∈ x :: l, nameB z = true) (hr : ∀ z ∈ y :: r, nameB z = true) (h : joinS [44] (x :: l) ++ 62 :: u = joinS [44] (y :: r) ++ 62 :: v) : x :: l = y :: r ∧ u = v := by
  have := jn_inj (x :: l) (y :: r) u v hl hr (by simpa [jt, joinS] using h)
  exact this
theorem diff_at : ∀ (l : List (List UInt8)) (i j : Nat), diff l = true → i < l.length → j < l.length → l.getD i [] = l.getD j [] → i = j
  | [], i, j, _, hi, _, _ => by simp at hi
  | x :: l, 0, 0, _, _, _, _ => rfl
  | x :: l, 0, j + 1, h, hi, hj, e => by
    simp only [diff, Bool.and_eq_true, Bool.not_eq_true', List.length_cons] at h hj
    simp only [List.getD_cons_zero, List.getD_cons_succ] at e
    have hm : x ∈ l := by rw [e, List.getD_eq_getElem?_getD, List.getElem?_eq_getElem (by omega)]; exact List.getElem_mem _
    have : l.contains x = true := by simpa using hm
    rw [this] at h
    cases h.1
  | x :: l, i + 1, 0, h, hi, hj, e => by
    simp only [diff, Bool.and_eq_true, Bool.not_eq_true', List.length_cons] at h hi
    simp only [List.getD_cons_zero, List.getD_cons_succ] at e
    have hm : x ∈ l := by rw [← e, List.getD_eq_getElem?_getD, List.getElem?_eq_getElem (by omega)]; exact List.getElem_mem _
    have : l.contains x = true := by simpa using hm
    rw [this] at h
    cases h.1
  | x :: l, i + 1, j + 1, h, hi, hj, e => by
    simp only [diff, Bool.and_eq_true, List.length_cons] at h hi hj
    simp only [List.getD_cons_succ] at e
    have := diff_at l i j h.2 (by omega) (by omega) e
    omega
/-- Conditions that may be. -/
structure CdsOk (l : List Cd) : Prop where
  names : ∀ c ∈ l, nameB c.name = true
  diff : Hk.diff (l.map Cd.name) = true
theorem nameAt_inj {l : List Cd} {c d : Int} (h : CdsOk l) (hc : 0 ≤ c ∧ c < l.length) (hd : 0 ≤ d ∧ d < l.length) (e : nameAt l c = nameAt l d) : c = d := by
  have key : ∀ i : Nat, i < l.length → (l.map Cd.name).getD i [] = (l.getD i ⟨[], false⟩).name := fun i hi => by
    simp [List.getD_eq_getElem?_getD, List.getElem?_eq_getElem hi]
  have := diff_at (l.map Cd.name) c.toNat d.toNat h.diff (by simp; omega) (by simp; omega) (by rw [key _ (by omega), key _ (by omega)]; exact e)
  omega
theorem nameAt_ok {l : List Cd} {c : Int} (h : CdsOk l) (hc : 0 ≤ c ∧ c < l.length) : nameB (nameAt l c) = true := by
  have hi : c.toNat < l.length := by omega
  have : nameAt l c = l[c.toNat].name := by simp [nameAt, List.getD_eq_getElem?_getD, List.getElem?_eq_getElem hi]
  rw [this]
  exact h.names _ (List.getElem_mem hi)
theorem names_inj {l : List Cd} (h : CdsOk l) : ∀ (a b : List Int), (∀ c ∈ a, 0 ≤ c ∧ c < l.length) → (∀ c ∈ b, 0 ≤ c ∧ c < l.length) → a.map (nameAt l) = b.map (nameAt l) → a = b
  | [], [], _, _, _ => rfl
  | [], y :: b, _, _, e => by simp at e
  | x :: a, [], _, _, e => by simp at e
  | x :: a, y :: b, ha, hb, e => by
    simp only [List.map_cons, List.cons.injEq] at e
    rw [nameAt_inj h (ha x (by simp)) (hb y (by simp)) e.1, names_inj h a b (fun z hz => ha z (by simp [hz])) (fun z hz => hb z (by simp [hz])) e.2]
end Go.Hk
