/- Layer 5, the plain law: the stage's theorems. -/
import Derived.Test.YtbnhflckmfmkoaaHkMe
import Derived.Test.YtbnhflckmfmkoaaHkMk
set_option linter.unusedSimpArgs false
set_option linter.unusedVariables false
namespace Go.Hk
/-! ### All of a text -/
theorem match_iff {x : Rx} {s : List UInt8} (hr : rightT x = true) (hl : s.length ≤ 10000) : (s.length : Int) ∈ endsL x s 0 ↔ R s x 0 s.length := by
  unfold endsL
  rw [if_pos ⟨hr, hl, by omega, by omega⟩, List.mem_map]
  constructor
  · rintro ⟨j, h1, h2⟩
    have : j = s.length := by omega
    subst this
    exact (cset_mem.1 h1).2
  · intro h
    exact ⟨s.length, cset_mem.2 ⟨by omega, h⟩, rfl⟩
theorem match_not {x : Rx} {s : List UInt8} (hr : rightT x = false) : ¬ (s.length : Int) ∈ endsL x s 0 := by
  unfold endsL
  rw [hr]
  simp
/-! ### What Ends tells rises -/
theorem cset_succ {S : Nat → Prop} {n : Nat} : (S n → cset (n + 1) S = cset n S ++ [n]) ∧ (¬ S n → cset (n + 1) S = cset n S) := by
  unfold cset
  rw [List.range_succ, List.filter_append]
  exact ⟨fun h => by simp [h], fun h => by simp [h]⟩
/-! ### What stands ahead makes no difference -/
theorem ends_shift {x : Rx} {s : List UInt8} {i : Nat} (hr : rightT x = true) (hl : s.length ≤ 10000) (hi : i ≤ s.length) : endsL x s (i : Int) = (endsL x (s.drop i) 0).map fun j => j + (i : Int) := by
  have hdl : (s.drop i).length = s.length - i := by simp
  unfold endsL
  rw [if_pos ⟨hr, hl, by omega, by omega⟩, if_pos ⟨hr, by omega, by omega, by omega⟩, List.map_map, hdl]
  have hR : ∀ j, j ≤ s.length - i → (R (s.drop i) x 0 j ↔ R s x i (i + j)) := fun j hj => by
    have := R_cut (t := s) (a := i) (b := s.length - i) (by omega) x 0 j hj
    rw [List.take_of_length_le (by omega)] at this
    simpa using this
  have e : cset (s.length + 1) (R s x i) = (cset (s.length - i + 1) (R (s.drop i) x 0)).map fun j => j + i := by
    have hz : ∀ m, m ≤ s.length - i + 1 → cset (i + m) (R s x i) = (cset m (R (s.drop i) x 0)).map fun j => j + i := by
      intro m
      induction m with
      | zero =>
        intro _
        have : cset i (R s x i) = [] := List.eq_nil_iff_forall_not_mem.2 fun j hj => by
          obtain ⟨h1, h2⟩ := cset_mem.1 hj
          have := R_mono s x i j h2
          omega
        rw [Nat.add_zero, this]
        rfl
      | succ m ih =>
        intro hm
        have ih := ih (by omega)
        have hRm := hR m (by omega)
        rw [show i + (m + 1) = (i + m) + 1 by omega]
        by_cases hs : R s x i (i + m)
        · rw [cset_succ.1 hs, cset_succ.1 (hRm.2 hs), ih, List.map_append]
          simp; omega
        · rw [cset_succ.2 hs, cset_succ.2 (fun h => hs (hRm.1 h)), ih]
    have := hz (s.length - i + 1) (Nat.le_refl _)
    rw [← this]
    congr 1
    omega
  rw [Int.toNat_natCast, e, List.map_map]
  refine List.map_congr_left fun j _ => ?_
  simp
/-! ### Nothing -/
theorem iter_nil {r : Pl} (h0 : ∀ i j, r i j → i ≤ j) : ∀ (n : Nat), (iter r n 0 0 ↔ n = 0 ∨ r 0 0)
  | 0 => by simp [iter]
  | n + 1 => by
    simp only [iter]
    constructor
    · rintro ⟨k, h1, h2⟩
      have : k = 0 := by have := h0 k 0 h2; omega
      subst this
      exact .inr h2
    · rintro (h | h)
      · omega
      · exact ⟨0, (iter_nil h0 n).2 (.inr h), h⟩
theorem smin_zero {a b : Int} (ha : 0 ≤ a) (hb : 0 ≤ b) (h : smin a b = 0) : a = 0 ∧ b = 0 := by
  unfold smin imin at h
  split at h <;> omega
theorem sizes_zero : ∀ {l : List Rx}, sizes l = 0 → ∀ y ∈ l, size y = 0
  | [], _, y, hy => by cases hy
  | x :: l, h, y, hy => by
    rw [sizes] at h
    have h1 := size_pos x
    have h2 := sizes_pos l fun y _ => (size_pos y).1
    obtain ⟨h3, h4⟩ := smin_zero h1.1 h2.1 h
    rcases List.mem_cons.1 hy with rfl | hy
    · exact h3
    · exact sizes_zero h4 y hy
theorem size_zero {x : Rx} (hr : inR x) (h : size x = 0) : ∀ y ∈ x.l, size y = 0 := by
  intro y hy
  rw [size_eq] at h
  have hp := sizes_pos x.l fun y _ => (size_pos y).1
  refine sizes_zero ?_ y hy
  rcases hr.cases with ⟨k1, hl⟩ | ⟨k2, _, hl⟩ | ⟨k34, _, hl2⟩ | ⟨k5, _, htm, z, hl⟩
  · rw [hl] at hy; cases hy
  · rw [hl] at hy; cases hy
  · rw [if_neg (by omega), if_neg (by omega), if_neg (by omega)] at h
    unfold imin at h
    split at h <;> omega
  · rw [if_neg (by omega), if_neg (by omega), if_pos k5] at h
    have hm : 1 ≤ imax 1 (imin 1000 (imax x.lo x.hi)) := (imax_le).1
    have hpos : 0 ≤ sizes x.l * imax 1 (imin 1000 (imax x.lo x.hi)) := Int.mul_nonneg hp.1 (by omega)
    have h0 : sizes x.l * imax 1 (imin 1000 (imax x.lo x.hi)) = 0 := by
      clear hm
      generalize sizes x.l * imax 1 (imin 1000 (imax x.lo x.hi)) = w at h hpos ⊢
      unfold imin at h
      split at h <;> omega
    rcases Int.mul_eq_zero.1 h0 with h1 | h1
    · exact h1
    · omega
theorem null_zero (x : Rx) : inR x → size x = 0 → null x = true := by
  induction x using Rx.ind with
  | h x ih =>
    intro hr h
    have hz := size_zero hr h
    rw [null_eq]
    rcases hr.cases with ⟨k1, hl⟩ | ⟨k2, _, hl⟩ | ⟨k34, _, hl2⟩ | ⟨k5, _, htm, z, hl⟩
    · simp [k1]
    · rw [size_eq, if_pos k2] at h; omega
    · have hall : ∀ y ∈ x.l, null y = true := fun y hy => ih y hy (hr.kid hy) (hz y hy)
      rcases k34 with k3 | k4
      · rw [if_neg (by omega), if_neg (by omega), if_neg (by omega), if_pos (.inr k3)]
        exact List.all_eq_true.2 hall
      · rw [if_neg (by omega), if_pos k4]
        cases hxl : x.l with
        | nil => rw [hxl] at hl2; simp at hl2
        | cons y r => rw [List.any_cons, hall y (by rw [hxl]; simp)]; rfl
    · have hall : ∀ y ∈ x.l, null y = true := fun y hy => ih y hy (hr.kid hy) (hz y hy)
      rw [if_neg (by omega), if_neg (by omega)]
      split
      · rfl
      · rw [if_pos (.inl k5)]
        exact List.all_eq_true.2 hall
theorem null_R (x : Rx) : inR x → (R [] x 0 0 ↔ null x = true) := by
  induction x using Rx.ind with
  | h x ih =>
    intro hr
    have ih : ∀ y ∈ x.l, (R [] y 0 0 ↔ null y = true) := fun y hy => ih y hy (hr.kid hy)
    rcases hr.cases with ⟨k1, hl⟩ | ⟨k2, _, hl⟩ | ⟨k34, _, hl2⟩ | ⟨k5, _, htm, y, hl⟩
    · rw [R_k1 k1, null_eq]; simp [k1]
    · rw [R_k2 k2, null_eq, if_pos k2]; simp
    · rcases k34 with k3 | k4
      · rw [R_k3 k3, null_eq, if_neg (by omega), if_neg (by omega), if_neg (by omega), if_pos (.inr k3), List.all_eq_true]
        have key : ∀ l : List Rx, (∀ y ∈ l, (R [] y 0 0 ↔ null y = true)) → (Rall [] l 0 0 ↔ ∀ y ∈ l, null y = true) := by
          intro l
          induction l with
          | nil => intro _; simp [Rall]
          | cons y r ihr =>
            intro h
            rw [Rall]
            have h1 := h y (by simp)
            have h2 := ihr fun z hz => h z (by simp [hz])
            constructor
            · rintro ⟨k, a, b⟩
              have : k = 0 := by have := Rall_mono r (fun z _ => R_mono [] z) k 0 b; omega
              subst this
              intro z hz
              rcases List.mem_cons.1 hz with rfl | hz
              · exact h1.1 a
              · exact h2.1 b z hz
            · intro hz
              exact ⟨0, h1.2 (hz y (by simp)), h2.2 fun z hz' => hz z (by simp [hz'])⟩
        exact key x.l ih
      · rw [R_k4 k4, null_eq, if_neg (by omega), if_pos k4, List.any_eq_true]
        have key : ∀ l : List Rx, (∀ y ∈ l, (R [] y 0 0 ↔ null y = true)) → (Rany [] l 0 0 ↔ ∃ y ∈ l, null y = true) := by
          intro l
          induction l with
          | nil => intro _; simp [Rany]
          | cons y r ihr =>
            intro h
            simp only [Rany]
            rw [h y (by simp), ihr fun z hz => h z (by simp [hz])]
            simp
        exact key x.l ih
    · have hy : y ∈ x.l := by rw [hl]; simp
      have ihy := ih y hy
      simp only [times, Bool.and_eq_true, Bool.or_eq_true, decide_eq_true_eq] at htm
      obtain ⟨⟨hlo0, hlo⟩, hhi⟩ := htm
      rw [null_eq, if_neg (by omega), if_neg (by omega), R_k5 k5 hl]
      by_cases hz : size x = 0
      · rw [if_pos hz]
        have hny : null y = true := null_zero y (hr.kid hy) (size_zero hr hz y hy)
        simp only [true_iff]
        split
        · rfl
        · rw [if_pos (.inl k5), hl]; simp [hny]
      · rw [if_neg hz]
        have hu0 : upTo (more x.lo x.hi y) 0 := by cases more x.lo x.hi y <;> simp [upTo]
        by_cases h0 : x.lo = 0
        · rw [if_pos ⟨k5, h0⟩]
          simp only [iff_true]
          exact ⟨0, hu0, by rw [h0]; rfl⟩
        · rw [if_neg (fun h => h0 h.2), if_pos (.inl k5), hl]
          simp only [List.all_cons, List.all_nil, Bool.and_true]
          rw [← ihy]
          constructor
          · rintro ⟨n, _, h⟩
            rcases (iter_nil (R_mono [] y) _).1 h with h | h
            · omega
            · exact h
          · intro h
            exact ⟨0, hu0, (iter_nil (R_mono [] y) _).2 (.inr h)⟩
end Go.Hk
