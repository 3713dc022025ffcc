/- Layer 5, the plain law: what is told at the beginning; texts by numbers. -/
import Derived.Test.YtbnhflckmfmkoaaHkMd
set_option linter.unusedSimpArgs false
set_option linter.unusedVariables false
namespace Go.Hk
def stK : Rx := .mk 3 0 0 0 [chX 97, chX 98]
def stX : Rx := .mk 5 0 0 (-1) [stK]
theorem stK_ok : okX stK := .mk (by omega) (by omega) (by omega) (by omega) (by simp) (fun y hy => by
  rcases List.mem_cons.1 hy with rfl | hy
  · exact chX_ok _
  · rcases List.mem_cons.1 hy with rfl | hy
    · exact chX_ok _
    · cases hy)
theorem stX_ok : okX stX := .mk (by omega) (by omega) (by omega) (by omega) (by simp) (fun y hy => by
  rcases List.mem_cons.1 hy with rfl | hy
  · exact stK_ok
  · cases hy)
theorem stX_right : rightT stX = true := by decide +kernel
theorem stX_size : size stX = 2 := by decide +kernel
theorem R_chX {t : List UInt8} {b i j : Nat} (hb : b < 256) : R t (chX (b : Int)) i j ↔ i < t.length ∧ (t.getD i 0).toNat = b ∧ j = i + 1 := by
  have hc := (t.getD i 0).toNat_lt
  rw [R_k2 (x := chX (b : Int)) rfl]
  have e : (chX (b : Int)).s = ofN (b : Int) (b : Int) := rfl
  rw [e]
  have : (ofN (b : Int) (b : Int)).testBit (t.getD i 0).toNat = decide ((t.getD i 0).toNat = b) := by
    unfold ofN
    rw [mk_bit]
    simp only [inOf]
    rw [Bool.eq_iff_iff]
    simp only [Bool.and_eq_true, decide_eq_true_eq]
    omega
  rw [this, decide_eq_true_eq]
theorem R_stK {t : List UInt8} {i j : Nat} : R t stK i j ↔ i + 1 < t.length ∧ (t.getD i 0).toNat = 97 ∧ (t.getD (i + 1) 0).toNat = 98 ∧ j = i + 2 := by
  rw [R_k3 (x := stK) rfl]
  have e : stK.l = [chX ((97 : Nat) : Int), chX ((98 : Nat) : Int)] := rfl
  rw [e]
  simp only [Rall, R_chX (show 97 < 256 by decide), R_chX (show 98 < 256 by decide)]
  constructor
  · rintro ⟨k, ⟨h1, h2, rfl⟩, k', ⟨h3, h4, rfl⟩, rfl⟩; exact ⟨h3, h2, h4, rfl⟩
  · rintro ⟨h1, h2, h3, rfl⟩; exact ⟨i + 1, ⟨by omega, h2, rfl⟩, i + 2, ⟨h1, h3, rfl⟩, rfl⟩
theorem star_eq {r : Pl} {A : List Nat} {i : Nat} (hi : i ∈ A) (hc : ∀ a ∈ A, ∀ b, r a b → b ∈ A) (hr : ∀ a ∈ A, ∃ n, iter r n i a) {j : Nat} : (∃ n, iter r n i j) ↔ j ∈ A := by
  constructor
  · rintro ⟨n, h⟩
    have key : ∀ (n j : Nat), iter r n i j → j ∈ A := by
      intro n
      induction n with
      | zero => intro j h; simp only [iter] at h; exact h ▸ hi
      | succ n ih => rintro j ⟨k, h1, h2⟩; exact hc k (ih k h1) j h2
    exact key n j h
  · exact hr j
theorem R_stX {t : List UInt8} {i j : Nat} : R t stX i j ↔ ∃ n, iter (R t stK) n i j := by
  rw [R_k5 (x := stX) (y := stK) rfl rfl, if_neg (by rw [stX_size]; decide)]
  have e : more stX.lo stX.hi stK = none := by decide +kernel
  rw [e]
  simp [upTo, stX, Rx.lo]
theorem cset_of {n : Nat} {S : Nat → Prop} {A : List Nat} (h : ∀ j, j < n → (S j ↔ j ∈ A)) : cset n S = (List.range n).filter fun j => decide (j ∈ A) := by
  unfold cset
  refine List.filter_congr fun j hj => ?_
  simp only [List.mem_range] at hj
  exact decide_eq_decide.2 (h j hj)
theorem st_step {t : List UInt8} {A : List Nat} (h : (List.range t.length).all (fun a => !A.contains a || !(decide (a + 1 < t.length) && decide ((t.getD a 0).toNat = 97) && decide ((t.getD (a + 1) 0).toNat = 98)) || A.contains (a + 2)) = true) : ∀ a ∈ A, ∀ b, R t stK a b → b ∈ A := by
  intro a ha b hb
  obtain ⟨h1, h2, h3, rfl⟩ := R_stK.1 hb
  have := List.all_eq_true.1 h a (by simp; omega)
  simp only [h1, h2, h3, decide_true, Bool.and_self, Bool.not_true, Bool.or_false, List.contains_iff_mem, Bool.or_eq_true, Bool.not_eq_true'] at this
  rcases this with this | this
  · have hc : A.contains a = true := List.contains_iff_mem.2 ha
    rw [hc] at this; cases this
  · exact this
theorem st_ends {t : List UInt8} {A : List Nat} {i : Nat} (hl : t.length ≤ 10000) (hi : i ∈ A) (hit : i ≤ t.length) (h1 : (List.range t.length).all (fun a => !A.contains a || !(decide (a + 1 < t.length) && decide ((t.getD a 0).toNat = 97) && decide ((t.getD (a + 1) 0).toNat = 98)) || A.contains (a + 2)) = true)
    (h2 : ∀ a ∈ A, ∃ n, iter (R t stK) n i a) : endsL stX t (i : Int) = ((List.range (t.length + 1)).filter fun j => decide (j ∈ A)).map fun k : Nat => (k : Int) := by
  unfold endsL
  rw [if_pos ⟨stX_right, hl, by omega, by omega⟩, Int.toNat_natCast, cset_of (A := A) fun j _ => ?_]
  rw [R_stX, star_eq hi (st_step h1) h2]
theorem aw_e0 : endsL stX [97, 98, 97, 98, 97] 0 = [0, 2, 4] := by
  have h02 : R [97, 98, 97, 98, 97] stK 0 2 := R_stK.2 (by decide)
  have h24 : R [97, 98, 97, 98, 97] stK 2 4 := R_stK.2 (by decide)
  have := st_ends (t := [97, 98, 97, 98, 97]) (A := [0, 2, 4]) (i := 0) (by decide) (by decide) (by decide) (by decide) (by
    intro a ha
    simp only [List.mem_cons, List.not_mem_nil, or_false] at ha
    rcases ha with rfl | rfl | rfl
    · exact ⟨0, rfl⟩
    · exact ⟨1, 0, rfl, h02⟩
    · exact ⟨2, 2, ⟨0, rfl, h02⟩, h24⟩)
  exact this.trans (by decide)
theorem aw_e1 : endsL stX [97, 98, 97, 98, 97] 1 = [1] := by
  have := st_ends (t := [97, 98, 97, 98, 97]) (A := [1]) (i := 1) (by decide) (by decide) (by decide) (by decide) (by
    intro a ha
    simp only [List.mem_cons, List.not_mem_nil, or_false] at ha
    subst ha
    exact ⟨0, rfl⟩)
  exact this.trans (by decide)
theorem aw_m0 : endsL stX [97, 98, 97, 98] 0 = [0, 2, 4] := by
  have h02 : R [97, 98, 97, 98] stK 0 2 := R_stK.2 (by decide)
  have h24 : R [97, 98, 97, 98] stK 2 4 := R_stK.2 (by decide)
  have := st_ends (t := [97, 98, 97, 98]) (A := [0, 2, 4]) (i := 0) (by decide) (by decide) (by decide) (by decide) (by
    intro a ha
    simp only [List.mem_cons, List.not_mem_nil, or_false] at ha
    rcases ha with rfl | rfl | rfl
    · exact ⟨0, rfl⟩
    · exact ⟨1, 0, rfl, h02⟩
    · exact ⟨2, 2, ⟨0, rfl, h02⟩, h24⟩)
  exact this.trans (by decide)
theorem aw_m1 : endsL stX [97, 98, 97] 0 = [0, 2] := by
  have h02 : R [97, 98, 97] stK 0 2 := R_stK.2 (by decide)
  have := st_ends (t := [97, 98, 97]) (A := [0, 2]) (i := 0) (by decide) (by decide) (by decide) (by decide) (by
    intro a ha
    simp only [List.mem_cons, List.not_mem_nil, or_false] at ha
    rcases ha with rfl | rfl
    · exact ⟨0, rfl⟩
    · exact ⟨1, 0, rfl, h02⟩)
  exact this.trans (by decide)
theorem aw_n : endsL stX [97] 2 = [] := by
  unfold endsL
  rw [if_neg (by simp)]
/-! ### Texts by numbers -/
def alph : List UInt8 := [97, 97, 98, 98, 99, 99, 45, 90, 10, 48, 0, 255]
def textT (l : List UInt8) : List UInt8 := (l.take 12).map fun b => alph.getD (b.toNat % 12) 0
theorem textT_len (l : List UInt8) : (textT l).length ≤ 12 := by simp [textT]; omega
end Go.Hk
namespace Go.Hk
theorem textT_next {l : List UInt8} {i : Nat} (h : i < l.length) (h2 : i < 12) : textT (l.take (i + 1)) = textT (l.take i) ++ [alph.getD (l[i].toNat % 12) 0] := by
  have e1 : (l.take (i + 1)).take 12 = l.take i ++ [l[i]] := by rw [List.take_of_length_le (by simp; omega), List.take_succ_eq_append_getElem h]
  have e2 : (l.take i).take 12 = l.take i := List.take_of_length_le (by simp; omega)
  unfold textT
  rw [e1, e2, List.map_append]
  rfl
theorem textT_all {l : List UInt8} {i : Nat} (h : l.length ≤ i ∨ 12 ≤ i) : textT (l.take i) = textT l := by
  unfold textT
  rcases h with h | h
  · rw [List.take_of_length_le h]
  · rw [List.take_take, Nat.min_eq_left h]
theorem alph_at : ∀ k, k < 12 → (alph.drop k).take 1 = [alph.getD k 0] := by decide
end Go.Hk
