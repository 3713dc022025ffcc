import Derived.Test.YtdimacffjdpkfaaHkQ27
import Derived.Test.YtdimacffjdpkfaaHkQ24
import Derived.Test.YtdimacffjdpkfaaHkQ25
/- Layer 8: what is told at the beginning. -/
set_option linter.unusedSimpArgs false
set_option linter.unusedVariables false
namespace Go.Hk
def azX : Rx := .mk 2 (ofN 97 122) 0 0 []
theorem azX_ok : okX azX := .mk (by omega) (ofN_lt _ _) (by omega) (by omega) (by simp) (fun y hy => by cases hy)
def mR0 : Ru := ⟨[], false, false, stK, noX, false, 1, 0⟩
def mR1 : Ru := ⟨[], false, false, chX 97, chX 98, false, 2, 0⟩
def mR2 : Ru := ⟨[], false, false, azX, noX, false, 1, 0⟩
def mS : Sp := ⟨[⟨initial, false⟩], false, [mR0, mR1, mR2]⟩
theorem mR0_ok : okRu mR0 := ⟨by simp [mR0], stK_ok, noX_ok⟩
theorem mR1_ok : okRu mR1 := ⟨by simp [mR1], chX_ok _, chX_ok _⟩
theorem mR2_ok : okRu mR2 := ⟨by simp [mR2], azX_ok, noX_ok⟩
theorem mS_ok : okSp mS := ⟨by simp [mS], by simp [mS], by simp [mS, initial], by simp [mS, mR0_ok, mR1_ok, mR2_ok]⟩
theorem mS_right : rightS mS = true := by decide +kernel
theorem R_az {t : List UInt8} {i j : Nat} : R t azX i j ↔ i < t.length ∧ (97 ≤ (t.getD i 0).toNat ∧ (t.getD i 0).toNat ≤ 122) ∧ j = i + 1 := by
  have hc := (t.getD i 0).toNat_lt
  rw [R_k2 (x := azX) rfl]
  have e : azX.s = ofN 97 122 := by simp only [azX, Rx.s]
  rw [e]
  have : (ofN 97 122).testBit (t.getD i 0).toNat = decide (97 ≤ (t.getD i 0).toNat ∧ (t.getD i 0).toNat ≤ 122) := by
    unfold ofN
    rw [mk_bit]
    simp only [inOf]
    rw [Bool.eq_iff_iff]
    simp only [Bool.and_eq_true, decide_eq_true_eq]
    omega
  rw [this, decide_eq_true_eq]
theorem endsN_eq {x : Rx} {s : List UInt8} {i : Nat} (A : List Nat) (hr : rightT x = true) (hl : s.length ≤ 10000) (hi : i ≤ s.length) (h : ∀ j, R s x i j ↔ j ∈ A) (hA : ((List.range (s.length + 1)).filter fun j => decide (j ∈ A)) = A) : endsN x s i = A := by
  unfold endsN
  rw [if_pos ⟨hr, hl, hi⟩, cset_of (A := A) fun j _ => h j, hA]
theorem stK_right : rightT stK = true := by decide +kernel
theorem ch97_right : rightT (chX 97) = true := by decide +kernel
theorem ch98_right : rightT (chX 98) = true := by decide +kernel
theorem azX_right : rightT azX = true := by decide +kernel
theorem en_stK {s : List UInt8} {i : Nat} (A : List Nat) (hl : s.length ≤ 10000) (hi : i ≤ s.length) (h : A = if i + 1 < s.length ∧ (s.getD i 0).toNat = 97 ∧ (s.getD (i + 1) 0).toNat = 98 then [i + 2] else []) (hA : ((List.range (s.length + 1)).filter fun j => decide (j ∈ A)) = A) : endsN stK s i = A :=
  endsN_eq A stK_right hl hi (fun j => by rw [R_stK, h]; split <;> simp <;> grind) hA
theorem en_ch {b : Nat} {s : List UInt8} {i : Nat} (A : List Nat) (hb : b < 256) (hr : rightT (chX (b : Int)) = true) (hl : s.length ≤ 10000) (hi : i ≤ s.length) (h : A = if i < s.length ∧ (s.getD i 0).toNat = b then [i + 1] else []) (hA : ((List.range (s.length + 1)).filter fun j => decide (j ∈ A)) = A) : endsN (chX (b : Int)) s i = A :=
  endsN_eq A hr hl hi (fun j => by rw [R_chX hb, h]; split <;> simp <;> grind) hA
theorem en_az {s : List UInt8} {i : Nat} (A : List Nat) (hl : s.length ≤ 10000) (hi : i ≤ s.length) (h : A = if i < s.length ∧ 97 ≤ (s.getD i 0).toNat ∧ (s.getD i 0).toNat ≤ 122 then [i + 1] else []) (hA : ((List.range (s.length + 1)).filter fun j => decide (j ∈ A)) = A) : endsN azX s i = A :=
  endsN_eq A azX_right hl hi (fun j => by rw [R_az, h]; split <;> simp <;> grind) hA
theorem lg_a {r : Ru} {s : List UInt8} {A : List Nat} (hk : r.trail.k = 0) (e : endsN r.rx s 0 = A) : longP r s = A.getLastD 0 := by
  unfold longP
  rw [e, ← foldl_last]
  congr 1
  funext m h
  simp [longStep, hk]
theorem lg_b {r : Ru} {s : List UInt8} {h : Nat} {A : List Nat} (hk : r.trail.k ≠ 0) (e : endsN r.rx s 0 = [h + 1]) (e2 : endsN r.trail s (h + 1) = A) : longP r s = A.getLastD 0 := by
  unfold longP
  rw [e]
  simp only [List.foldl_cons, List.foldl_nil, longStep, if_neg hk, e2]
  cases A <;> simp
theorem lg_c {r : Ru} {s : List UInt8} (e : endsN r.rx s 0 = []) : longP r s = 0 := by
  unfold longP
  rw [e]; rfl
theorem lga0 : longP mR0 [97, 98, 99, 45] = 2 := lg_a (A := [2]) (by decide) (en_stK [2] (by decide) (by decide) (by decide) (by decide))
theorem lga1 : longP mR1 [97, 98, 99, 45] = 2 := lg_b (h := 0) (A := [2]) (by decide) (en_ch (b := 97) [1] (by decide) ch97_right (by decide) (by decide) (by decide) (by decide)) (en_ch (b := 98) [2] (by decide) ch98_right (by decide) (by decide) (by decide) (by decide))
theorem lga2 : longP mR2 [97, 98, 99, 45] = 1 := lg_a (A := [1]) (by decide) (en_az [1] (by decide) (by decide) (by decide) (by decide))
theorem lgc0 : longP mR0 [99, 45] = 0 := lg_a (A := []) (by decide) (en_stK [] (by decide) (by decide) (by decide) (by decide))
theorem lgc1 : longP mR1 [99, 45] = 0 := lg_c (en_ch (b := 97) [] (by decide) ch97_right (by decide) (by decide) (by decide) (by decide))
theorem lgc2 : longP mR2 [99, 45] = 1 := lg_a (A := [1]) (by decide) (en_az [1] (by decide) (by decide) (by decide) (by decide))
theorem lgm0 : longP mR0 [45] = 0 := lg_a (A := []) (by decide) (en_stK [] (by decide) (by decide) (by decide) (by decide))
theorem lgm1 : longP mR1 [45] = 0 := lg_c (en_ch (b := 97) [] (by decide) ch97_right (by decide) (by decide) (by decide) (by decide))
theorem lgm2 : longP mR2 [45] = 0 := lg_a (A := []) (by decide) (en_az [] (by decide) (by decide) (by decide) (by decide))
theorem lgb0 : longP mR0 [97, 98] = 2 := lg_a (A := [2]) (by decide) (en_stK [2] (by decide) (by decide) (by decide) (by decide))
theorem lgb1 : longP mR1 [97, 98] = 2 := lg_b (h := 0) (A := [2]) (by decide) (en_ch (b := 97) [1] (by decide) ch97_right (by decide) (by decide) (by decide) (by decide)) (en_ch (b := 98) [2] (by decide) ch98_right (by decide) (by decide) (by decide) (by decide))
theorem lgb2 : longP mR2 [97, 98] = 1 := lg_a (A := [1]) (by decide) (en_az [1] (by decide) (by decide) (by decide) (by decide))
theorem act0 : activeS mS 0 0 = true := by decide +kernel
theorem act1 : activeS mS 1 0 = true := by decide +kernel
theorem act2 : activeS mS 2 0 = true := by decide +kernel
theorem pick3 {w : List UInt8} {a n0 n1 n2 : Nat} (h0 : longP mR0 (w.drop a) = n0) (h1 : longP mR1 (w.drop a) = n1) (h2 : longP mR2 (w.drop a) = n2) : pickP mS w a 0 =
    (let p0 : Int × Nat := if 0 < n0 then (0, n0) else (-1, 0); let p1 : Int × Nat := if p0.2 < n1 then (1, n1) else p0; if p1.2 < n2 then (2, n2) else p1) := by
  have m0 : mayB mS w a 0 0 mR0 = true := by unfold mayB; rw [show ((0 : Nat) : Int) = 0 from rfl, act0]; simp [mR0]
  have m1 : mayB mS w a 0 1 mR1 = true := by unfold mayB; rw [show ((1 : Nat) : Int) = 1 from rfl, act1]; simp [mR1]
  have m2 : mayB mS w a 0 2 mR2 = true := by unfold mayB; rw [show ((2 : Nat) : Int) = 2 from rfl, act2]; simp [mR2]
  have e : pickP mS w a 0 = pickStep mS w a 0 (pickStep mS w a 0 (pickStep mS w a 0 (-1, 0) 0 mR0) 1 mR1) 2 mR2 := rfl
  rw [e]
  simp only [pickStep, m0, m1, m2, h0, h1, h2, true_and]
  rfl
theorem pk_a : pickP mS [97, 98, 99, 45] 0 0 = (0, 2) := pick3 (w := [97, 98, 99, 45]) (a := 0) lga0 lga1 lga2
theorem pk_c : pickP mS [97, 98, 99, 45] 2 0 = (2, 1) := pick3 (w := [97, 98, 99, 45]) (a := 2) lgc0 lgc1 lgc2
theorem pk_m : pickP mS [97, 98, 99, 45] 3 0 = (-1, 0) := pick3 (w := [97, 98, 99, 45]) (a := 3) lgm0 lgm1 lgm2
theorem pk_b : pickP mS [97, 98] 0 0 = (0, 2) := pick3 (w := [97, 98]) (a := 0) lgb0 lgb1 lgb2
theorem hd_0 : headP mR0 [97, 98] = 2 := by
  have e : endsN mR0.rx [97, 98] 0 = [2] := en_stK [2] (by decide) (by decide) (by decide) (by decide)
  unfold headP
  rw [if_pos (by decide), e]; rfl
theorem hd_2 : headP mR2 [99] = 1 := by
  have e : endsN mR2.rx [99] 0 = [1] := en_az [1] (by decide) (by decide) (by decide) (by decide)
  unfold headP
  rw [if_pos (by decide), e]; rfl
theorem hd_1 : headP mR1 [97, 98] = 1 := by
  have e : endsN mR1.rx [97, 98] 0 = [1] := en_ch (b := 97) [1] (by decide) ch97_right (by decide) (by decide) (by decide) (by decide)
  have e2 : endsN mR1.trail [97, 98] 1 = [2] := en_ch (b := 98) [2] (by decide) ch98_right (by decide) (by decide) (by decide) (by decide)
  unfold headP
  rw [if_neg (by decide), e]
  simp [e2]
theorem nx_a : nextT mS [97, 98, 99, 45] 0 0 = some (⟨0, 0, 2, 0⟩, 2, 0) := by
  have hg : mS.rules[0]? = some mR0 := rfl
  have h0 : headP mR0 (List.take 2 (List.drop 0 [97, 98, 99, 45])) = 2 := hd_0
  unfold nextT
  rw [pk_a]
  simp only [show (0 : Int).toNat = 0 from rfl, hg, h0]
  rfl
theorem nx_c : nextT mS [97, 98, 99, 45] 2 0 = some (⟨2, 2, 3, 0⟩, 3, 0) := by
  have hg : mS.rules[2]? = some mR2 := rfl
  have h0 : headP mR2 (List.take 1 (List.drop 2 [97, 98, 99, 45])) = 1 := hd_2
  unfold nextT
  rw [pk_c]
  simp only [show (2 : Int).toNat = 2 from rfl, hg, h0]
  rfl
theorem nx_m : nextT mS [97, 98, 99, 45] 3 0 = none := by
  unfold nextT
  rw [pk_m]
  rfl
theorem toks_a : toksQ mS [97, 98, 99, 45] = (([⟨0, 0, 2, 0⟩, ⟨2, 2, 3, 0⟩], 3), 0) := by
  unfold toksQ
  rw [if_pos ⟨by decide, mS_right⟩]
  have e : ([97, 98, 99, 45] : List UInt8).length = 4 := rfl
  simp only [e, toksP, nx_a, nx_c, nx_m, show (0 : Nat) < 4 from by decide, show 2 < 4 from by decide, show 3 < 4 from by decide, if_true]
  rfl
theorem toks_n : toksQ noS [] = (([], 0), 1) := by
  unfold toksQ
  rw [if_neg (fun h => by have := h.2; rw [noS_right] at this; cases this)]
end Go.Hk
/- Layer 8: an input of rules by numbers. -/
namespace Go.Hk
structure InQ (s : Sp) (w : List UInt8) (L : List Tok) (J : Int) : Prop where
  ok : okSp s
  ri : rightS s = true
  wl : w.length ≤ 12
  ll : L.length ≤ 13
  c0 : (0 : Int) < s.conds.length
  run : Run s w 0 0 L J
  q : toksQ s w = ((L, J), 0)
theorem right_c0 {s : Sp} (h : rightS s = true) : (0 : Int) < s.conds.length := by
  simp only [rightS, Bool.and_eq_true, decide_eq_true_eq] at h
  omega
theorem inQ {s : Sp} {w : List UInt8} (ok : okSp s) (ri : rightS s = true) (wl : w.length ≤ 12) : ∃ L J, InQ s w L J := by
  have hr := toks_run (s := s) (w := w) ri (by omega) (w.length + 1) 0 0 (Nat.zero_le _) (by omega)
  have hl := toks_len ri (by omega) hr
  refine ⟨(toksP s w (w.length + 1) 0 0).1, (toksP s w (w.length + 1) 0 0).2, ok, ri, wl, by omega, right_c0 ri, hr, ?_⟩
  unfold toksQ
  rw [if_pos ⟨by omega, ri⟩]
end Go.Hk
namespace Go.Hk
/-- What was looked at for some tokens. -/
noncomputable def mostP (s : Sp) (w : List UInt8) (l : List Tok) : Nat := l.foldl (fun m t => max m (t.st + max (pickP s w t.st t.cond).2 1)) 0
theorem mostP_next {s : Sp} {w : List UInt8} {L : List Tok} {j : Nat} {t : Tok} (h : L[j]? = some t) : mostP s w (L.take (j + 1)) = max (mostP s w (L.take j)) (t.st + max (pickP s w t.st t.cond).2 1) := by
  obtain ⟨hj, rfl⟩ := List.getElem?_eq_some_iff.1 h
  unfold mostP
  rw [List.take_succ_eq_append_getElem hj, List.foldl_append]; rfl
theorem mostP_ge {s : Sp} {w : List UInt8} {L : List Tok} : ∀ {k j : Nat} {t : Tok}, j < k → L[j]? = some t → t.st + max (pickP s w t.st t.cond).2 1 ≤ mostP s w (L.take k)
  | k + 1, j, t, hj, h => by
    rcases Nat.lt_or_ge k L.length with hk | hk
    · rw [mostP_next (t := L[k]) (by simp [hk])]
      by_cases e : j = k
      · subst e
        have : t = L[j] := by have := (List.getElem?_eq_some_iff.1 h).2; exact this.symm
        subst this
        omega
      · have := mostP_ge (s := s) (w := w) (k := k) (by omega) h
        omega
    · rw [List.take_of_length_le (by omega)]
      have hjl := (List.getElem?_eq_some_iff.1 h).1
      have := mostP_ge (s := s) (w := w) (k := k) (by omega) h
      rw [List.take_of_length_le hk] at this
      exact this
theorem mostP_le {s : Sp} {w : List UInt8} {L : List Tok} {b : Nat} : ∀ {k : Nat}, (∀ j t, j < k → L[j]? = some t → t.st + max (pickP s w t.st t.cond).2 1 ≤ b) → mostP s w (L.take k) ≤ b
  | 0, _ => by simp [mostP]
  | k + 1, h => by
    have ih := mostP_le (s := s) (w := w) (L := L) (b := b) (k := k) fun j t hj ht => h j t (by omega) ht
    rcases Nat.lt_or_ge k L.length with hk | hk
    · rw [mostP_next (t := L[k]) (by simp [hk])]
      have := h k L[k] (by omega) (by simp [hk])
      omega
    · rw [List.take_of_length_le (by omega)]
      rw [List.take_of_length_le hk] at ih
      exact ih
/-- All that was looked at is in the text. -/
theorem look_le {s : Sp} {w : List UInt8} {t : Tok} (h : rightS s = true) (hl : w.length ≤ 10000) (ha : t.st < w.length) : t.st + (pickP s w t.st t.cond).2 ≤ w.length := by
  rcases next_spec (cond := t.cond) h hl ha with ⟨e1, e⟩ | ⟨i, r, h1, h2, h3, h4, h5, _⟩
  · rw [e1]; simp only; omega
  · rw [h3]; exact h5
end Go.Hk
