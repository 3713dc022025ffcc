/- Layer 5, the plain law: again and again; parts. -/
import Derived.Test.YtbnhflckmfmkoaaHkMf
set_option linter.unusedSimpArgs false
set_option linter.unusedVariables false
namespace Go.Hk
theorem madeX_deep (L : List UInt8) : Good (madeX L) 5 31 ∧ size (madeX L) ≤ 40 := by
  obtain ⟨a1, a2, a3, a4⟩ := madeX_good L
  have hg := rxM_good (L.take 30) 4 0 (by omega)
  refine ⟨⟨a1, ?_, a4⟩, a3⟩
  unfold madeX
  split
  · exact leaf_right rfl (chX_own (by omega)) (by omega)
  · exact right_mono _ _ _ (by decide) hg.right
theorem rightT_of {x : Rx} {d : Int} {n : Nat} (h : Good x d n) (hd : d ≤ 20) (hn : n ≤ 1000) (hs : size x ≤ 200) : rightT x = true := by
  have := nodes_sz x 1000 (by have := h.sz; omega)
  have h1 := h.sz
  have h2 := right_mono x d 20 hd h.right
  simp only [rightT, h2, Bool.true_and, Bool.and_eq_true, decide_eq_true_eq]
  omega
/-! ### A loop without end -/
theorem smin0 {a : Int} (h : 0 ≤ a ∧ a ≤ 1000000) : smin a 0 = a := by
  have := imin_le (x := a + 0) (y := 1000000)
  unfold smin
  omega
theorem sizes_one (x : Rx) : sizes [x] = size x := by
  rw [sizes, sizes, smin0 (size_pos x)]
/-! ### Parts -/
theorem Rall_app {t : List UInt8} : ∀ (a b : List Rx) (i j : Nat), Rall t (a ++ b) i j ↔ ∃ k, Rall t a i k ∧ Rall t b k j
  | [], b, i, j => by simp [Rall]
  | x :: a, b, i, j => by
    simp only [List.cons_append, Rall]
    constructor
    · rintro ⟨k, h1, h2⟩
      obtain ⟨k', h3, h4⟩ := (Rall_app a b k j).1 h2
      exact ⟨k', ⟨k, h1, h3⟩, h4⟩
    · rintro ⟨k', ⟨k, h1, h3⟩, h4⟩
      exact ⟨k, h1, (Rall_app a b k j).2 ⟨k', h3, h4⟩⟩
theorem Rany_app {t : List UInt8} : ∀ (a b : List Rx) (i j : Nat), Rany t (a ++ b) i j ↔ Rany t a i j ∨ Rany t b i j
  | [], b, i, j => by simp [Rany]
  | x :: a, b, i, j => by
    simp only [List.cons_append, Rany]
    rw [Rany_app a b i j, or_assoc]
theorem flat_all {t : List UInt8} {x : Rx} {i j : Nat} : Rall t (flat1 3 x) i j ↔ R t x i j := by
  unfold flat1
  split
  · rename_i h; exact (R_k3 h).symm
  · simp only [Rall]
    constructor
    · rintro ⟨k, h, rfl⟩; exact h
    · exact fun h => ⟨j, h, rfl⟩
theorem flat_any {t : List UInt8} {x : Rx} {i j : Nat} : Rany t (flat1 4 x) i j ↔ R t x i j := by
  unfold flat1
  split
  · rename_i h; exact (R_k4 h).symm
  · simp [Rany]
theorem cat_R {t : List UInt8} {x y : Rx} {i j : Nat} : R t (joinX 3 [x, y]) i j ↔ ∃ k, R t x i k ∧ R t y k j := by
  rw [joinX_two, R_k3 rfl]
  simp only [Rx.l]
  rw [Rall_app]
  simp only [flat_all]
theorem alt_R {t : List UInt8} {x y : Rx} {i j : Nat} : R t (joinX 4 [x, y]) i j ↔ R t x i j ∨ R t y i j := by
  rw [joinX_two, R_k4 rfl]
  simp only [Rx.l]
  rw [Rany_app, flat_any, flat_any]
theorem flat_size {k : Int} {x : Rx} (hk : k = 3 ∨ k = 4) : sizes (flat1 k x) ≤ size x := by
  have hb := sizes_bd x.l
  have hp := size_pos x
  unfold flat1
  split
  · rename_i h
    rw [size_eq, if_neg (by omega), if_neg (by omega), if_neg (by omega)]
    unfold imin
    split <;> omega
  · rw [sizes_one]; exact Int.le_refl _
theorem join_size {k : Int} {x y : Rx} (hk : k = 3 ∨ k = 4) (hx : size x ≤ 40) (hy : size y ≤ 40) : size (joinX k [x, y]) ≤ 200 := by
  have h1 := flat_size (x := x) hk
  have h2 := flat_size (x := y) hk
  have b1 := sizes_bd (flat1 k x)
  have b2 := sizes_bd (flat1 k y)
  have e : size (joinX k [x, y]) = imin (sizes (flat1 k x ++ flat1 k y)) 1000000 := by
    have hk2 : ¬ k = 2 := by omega
    have hk3 : ¬ (k < 3 ∨ 5 < k) := by omega
    have hk5 : ¬ k = 5 := by omega
    rw [joinX_two, size_eq]
    simp only [Rx.k, Rx.l, hk2, hk3, hk5, if_false]
  rw [e, sizes_app]
  have m1 := imin_le (x := sizes (flat1 k x) + sizes (flat1 k y)) (y := 1000000)
  have m2 := imin_le (x := smin (sizes (flat1 k x)) (sizes (flat1 k y))) (y := 1000000)
  unfold smin at m2 ⊢
  omega
end Go.Hk
namespace Go.Hk
end Go.Hk
