/- Layer 5, the plain law: again and again; parts. -/
import Derived.Test.YtbnhflckmfmkoaaHkMf
set_option linter.unusedSimpArgs false
set_option linter.unusedVariables false
namespace Go.Hk
theorem madeX_deep (L : List UInt8) : Good (madeX L) 5 31 ∧ size (madeX L) ≤ 40 := by
  obtain ⟨a1, a2, a3, a4⟩ := madeX_good L
  have hg := rxM_good (L.take 30) 4 0 (by omega)
  refine ⟨⟨a1, ?_, a4⟩, a3⟩
  unfold madeX
  split
  · exact leaf_right rfl (chX_own (by omega)) (by omega)
  · exact right_mono _ _ _ (by decide) hg.right
theorem rightT_of {x : Rx} {d : Int} {n : Nat} (h : Good x d n) (hd : d ≤ 20) (hn : n ≤ 1000) (hs : size x ≤ 200) : rightT x = true := by
  have := nodes_sz x 1000 (by have := h.sz; omega)
  have h1 := h.sz
  have h2 := right_mono x d 20 hd h.right
  simp only [rightT, h2, Bool.true_and, Bool.and_eq_true, decide_eq_true_eq]
  omega
/-! ### A loop without end -/
theorem loop_trans {t : List UInt8} (x : Rx) : inR x → loopy x = true → ∀ i j k, R t x i j → R t x j k → R t x i k := by
  induction x using Rx.ind with
  | h x ih =>
    intro hr hlp i j k h1 h2
    simp only [loopy, Bool.and_eq_true, decide_eq_true_eq] at hlp
    obtain ⟨⟨k5, hhi⟩, hlo1⟩ := hlp
    rcases hr.cases with ⟨k1, _⟩ | ⟨k2, _⟩ | ⟨k34, _⟩ | ⟨_, _, htm, y, hl⟩
    · omega
    · omega
    · omega
    · have hy : y ∈ x.l := by rw [hl]; simp
      have ihy := ih y hy (hr.kid hy)
      simp only [times, Bool.and_eq_true, decide_eq_true_eq] at htm
      have hlo0 := htm.1.1
      rw [R_k5 k5 hl] at h1 h2 ⊢
      split at h1
      · rename_i hz
        rw [if_pos hz] at h2 ⊢
        omega
      · rename_i hz
        rw [if_neg hz] at h2 ⊢
        obtain ⟨n, a1, a2⟩ := h1
        obtain ⟨m, b1, b2⟩ := h2
        have hc := (iter_add (R t y) (x.lo.toNat + n) (x.lo.toNat + m) i k).1 ⟨j, a2, b2⟩
        cases hly : loopy y
        · have hm : more x.lo x.hi y = none := by simp [more, hly]; omega
          rw [hm]
          exact ⟨n + (x.lo.toNat + m), trivial, by rw [show x.lo.toNat + (n + (x.lo.toNat + m)) = x.lo.toNat + n + (x.lo.toNat + m) by omega]; exact hc⟩
        · have hm : more x.lo x.hi y = some (1 - x.lo).toNat := by simp [more, hly]; omega
          rw [hm] at a1 b1 ⊢
          simp only [upTo] at a1 b1 ⊢
          have ihy := ihy hly
          have key : ∀ q, q ≤ 1 → ∀ i j, (iter (R t y) q i j ↔ (q = 0 ∧ i = j) ∨ (q = 1 ∧ R t y i j)) := by
            intro q hq i j
            match q, hq with
            | 0, _ => simp [iter]
            | 1, _ => simp [iter]
          rw [key _ (by omega)] at a2 b2
          by_cases hl0 : x.lo = 0
          · rcases a2 with ⟨_, rfl⟩ | ⟨e1, a2⟩
            · exact ⟨m, b1, (key _ (by omega) _ _).2 b2⟩
            · rcases b2 with ⟨_, rfl⟩ | ⟨e2, b2⟩
              · exact ⟨n, a1, (key _ (by omega) _ _).2 (.inr ⟨e1, a2⟩)⟩
              · exact ⟨n, a1, (key _ (by omega) _ _).2 (.inr ⟨e1, ihy i j k a2 b2⟩)⟩
          · rcases a2 with ⟨e1, _⟩ | ⟨e1, a2⟩
            · omega
            · rcases b2 with ⟨e2, _⟩ | ⟨e2, b2⟩
              · omega
              · exact ⟨0, by omega, (key _ (by omega) _ _).2 (.inr ⟨by omega, ihy i j k a2 b2⟩)⟩
theorem loop_iter {t : List UInt8} {x : Rx} (hr : inR x) (hl : loopy x = true) : ∀ (m i j : Nat), iter (R t x) m i j → (m = 0 ∧ i = j) ∨ R t x i j
  | 0, i, j, h => .inl ⟨rfl, h⟩
  | m + 1, i, j, ⟨k, h1, h2⟩ => by
    rcases loop_iter hr hl m i k h1 with ⟨_, rfl⟩ | h
    · exact .inr h2
    · exact .inr (loop_trans x hr hl i k j h h2)
theorem smin0 {a : Int} (h : 0 ≤ a ∧ a ≤ 1000000) : smin a 0 = a := by
  have := imin_le (x := a + 0) (y := 1000000)
  unfold smin
  omega
theorem sizes_one (x : Rx) : sizes [x] = size x := by
  rw [sizes, sizes, smin0 (size_pos x)]
theorem rep_size {x : Rx} {lo hi : Int} : size (.mk 5 0 lo hi [x]) = 0 ↔ size x = 0 := by
  have hp := size_pos x
  have hm : 1 ≤ imax 1 (imin 1000 (imax lo hi)) := (imax_le).1
  rw [size_eq]
  have e := sizes_one x
  simp only [Rx.k, Rx.l, Rx.lo, Rx.hi, e]
  rw [if_neg (by decide), if_neg (by decide)]
  simp only [if_true]
  have hpos : 0 ≤ size x * imax 1 (imin 1000 (imax lo hi)) := Int.mul_nonneg hp.1 (by omega)
  have hz : size x * imax 1 (imin 1000 (imax lo hi)) = 0 ↔ size x = 0 := by
    rw [Int.mul_eq_zero]
    omega
  rw [← hz]
  generalize size x * imax 1 (imin 1000 (imax lo hi)) = w at hpos ⊢
  unfold imin
  split <;> omega
/-- What some times match, any times match. -/
theorem times_any {t : List UInt8} {x : Rx} {lo hi : Int} (hr : inR x) (h0 : 0 ≤ lo) (h1 : lo ≤ hi) {j : Nat} (h : R t (.mk 5 0 lo hi [x]) 0 j) : R t (.mk 5 0 0 (-1) [x]) 0 j := by
  rw [R_k5 (y := x) rfl rfl] at h ⊢
  by_cases hz : size x = 0
  · rw [if_pos (rep_size.2 hz)] at h ⊢
    exact h
  · rw [if_neg (fun h => hz (rep_size.1 h))] at h ⊢
    obtain ⟨n, _, h2⟩ := h
    simp only [Rx.lo, Rx.hi] at h2 ⊢
    cases hl : loopy x
    · have hm : more 0 (-1) x = none := by simp [more, hl]
      rw [hm]
      exact ⟨lo.toNat + n, trivial, by simpa using h2⟩
    · have hm : more 0 (-1) x = some 1 := by simp [more, hl]
      rw [hm]
      rcases loop_iter hr hl _ _ _ h2 with ⟨_, e⟩ | h
      · exact ⟨0, by simp [upTo], e⟩
      · exact ⟨1, by simp [upTo], 0, rfl, h⟩
theorem star_good {x : Rx} {d : Int} {n : Nat} (h : Good x d n) : Good (.mk 5 0 0 (-1) [x]) (d + 1) (n + 1) := by
  refine ⟨.mk (by omega) (by omega) (by omega) (by omega) (by simp) (fun y hy => by
    rcases List.mem_cons.1 hy with rfl | hy
    · exact h.ok
    · cases hy), ?_, by have := h.sz; simp [sz, szs]; omega⟩
  have hd := right_pos h.right
  rw [right_eq]
  have hr := h.right
  have e : d + 1 - 1 = d := by omega
  simp only [Rx.l, List.any_cons, List.any_nil, Bool.or_false, rodd, Rx.k, e, hr]
  simp [own, times, Rx.k, Rx.s, Rx.l, Rx.lo, Rx.hi]
  omega
theorem star_size {x : Rx} (h : size x ≤ 200) : size (.mk 5 0 0 (-1) [x]) ≤ 200 := by
  have hp := size_pos x
  rw [size_eq]
  have e := sizes_one x
  have e2 : imax 1 (imin 1000 (imax 0 (-1))) = 1 := by decide
  simp only [Rx.k, Rx.l, Rx.lo, Rx.hi, e, e2]
  rw [if_neg (by decide), if_neg (by decide)]
  simp only [if_true]
  unfold imin
  split <;> omega
theorem rep_ok {x : Rx} {lo hi : Int} (h : okX x) (h1 : 0 ≤ lo ∧ lo < 100) (h2 : 0 ≤ hi ∧ hi < 100) : okX (.mk 5 0 lo hi [x]) :=
  .mk (by omega) (by omega) (by omega) (by omega) (by simp) (fun y hy => by
    rcases List.mem_cons.1 hy with rfl | hy
    · exact h
    · cases hy)
/-! ### Parts -/
end Go.Hk
namespace Go.Hk
theorem ends_right {x : Rx} {s : List UInt8} {i : Nat} (hr : rightT x = true) (hl : s.length ≤ 10000) (hi : i ≤ s.length) : endsL x s (i : Int) = (cset (s.length + 1) (R s x i)).map fun j : Nat => (j : Int) := by
  unfold endsL
  rw [if_pos ⟨hr, hl, by omega, by omega⟩, Int.toNat_natCast]
theorem opX_null : R [] opX 0 0 := (null_R opX ⟨20, by have := opX_right; simp only [rightT, Bool.and_eq_true] at this; exact this.1.1⟩).2 (by decide +kernel)
end Go.Hk
