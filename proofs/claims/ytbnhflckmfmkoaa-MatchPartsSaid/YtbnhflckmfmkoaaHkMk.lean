/- Layer 3, the plain law: patterns by numbers. -/
import Derived.Test.YtbnhflckmfmkoaaHkPg
set_option linter.unusedSimpArgs false
set_option linter.unusedVariables false
namespace Go.Hk
/-- A number out of a row of bytes. -/
def pickV (L : List UInt8) (at' n : Nat) : Nat := match L[at']? with | some c => c.toNat % n | none => 0
theorem pickV_lt {L : List UInt8} {a n : Nat} (h : 0 < n) : pickV L a n < n := by
  unfold pickV
  split
  · exact Nat.mod_lt _ h
  · exact h
theorem pickV_in {L : List UInt8} {a n : Nat} (h : a < L.length) : pickV L a n = (L[a]'h).toNat % n := by simp [pickV, h]
theorem pickV_out {L : List UInt8} {a n : Nat} (h : L.length ≤ a) : pickV L a n = 0 := by simp [pickV, h]
def odds : List Int := [10, 45, 90, 0, 255, 48]
def lfX (s : Nat) : Rx := .mk 2 s 0 0 []
def emX : Rx := .mk 1 0 0 0 []
/-- A pattern without parts, and the next place. -/
def leafM (L : List UInt8) (a : Nat) : Rx × Nat :=
  if pickV L a 8 = 0 then (emX, a + 1)
  else if pickV L a 8 = 1 then (lfX (ofN 97 99), a + 1)
  else if pickV L a 8 = 2 then (lfX (notN (ofN 97 97)), a + 1)
  else if pickV L a 8 = 3 then (chX (odds.getD (pickV L (a + 1) 6) 0), a + 2)
  else (chX (97 + (pickV L (a + 1) 3 : Nat)), a + 2)
def joinX (k : Int) (l : List Rx) : Rx := .mk k 0 0 0 (l.flatMap fun y => if y.k = k then y.l else [y])
def hiV (L : List UInt8) (a lo : Nat) : Int × Nat := if pickV L a 2 = 1 then (imax 1 (lo : Nat) + (pickV L (a + 1) 2 : Nat), a + 2) else (-1, a + 1)
def rxM (L : List UInt8) (d a : Nat) : Rx × Nat :=
  if d = 0 ∨ pickV L a 8 < 2 ∨ L.length ≤ a + 1 then leafM L (a + 1)
  else if pickV L a 8 < 5 then (joinX 3 [(rxM L (d - 1) (a + 1)).1, (rxM L (d - 1) (rxM L (d - 1) (a + 1)).2).1], (rxM L (d - 1) (rxM L (d - 1) (a + 1)).2).2)
  else if pickV L a 8 = 5 then (joinX 4 [(rxM L (d - 1) (a + 1)).1, (rxM L (d - 1) (rxM L (d - 1) (a + 1)).2).1], (rxM L (d - 1) (rxM L (d - 1) (a + 1)).2).2)
  else (.mk 5 0 (pickV L (a + 1) 3 : Nat) (hiV L (a + 2) (pickV L (a + 1) 3)).1 [(rxM L (d - 2) (hiV L (a + 2) (pickV L (a + 1) 3)).2).1], (rxM L (d - 2) (hiV L (a + 2) (pickV L (a + 1) 3)).2).2)
termination_by d
decreasing_by all_goals omega
def madeX (L : List UInt8) : Rx := if 40 < size (rxM (L.take 30) 4 0).1 then chX 97 else (rxM (L.take 30) 4 0).1
end Go.Hk
namespace Go.Hk
/-! ### What is made may be -/
theorem right_mono (x : Rx) : ∀ d e : Int, d ≤ e → right x d = true → right x e = true := by
  induction x using Rx.ind with
  | h x ih =>
    intro d e hde h
    have h' := h
    rw [right_eq] at h ⊢
    simp only [Bool.and_eq_true, decide_eq_true_eq, Bool.not_eq_true'] at h ⊢
    refine ⟨⟨by omega, h.1.2⟩, ?_⟩
    rw [Bool.eq_false_iff, Ne, List.any_eq_true]
    rintro ⟨y, hy, ho⟩
    have h1 := right_kid h' hy
    have h2 := right_unlike h' hy
    have h3 := ih y hy (d - 1) (e - 1) (by omega) h1
    simp only [rodd, h3, Bool.not_true, Bool.or_false] at ho
    simp [unlike] at h2
    simp at ho
    omega
theorem right_mk {x : Rx} {d : Int} (hd : 0 < d) (ho : own x = true) (h : ∀ y ∈ x.l, unlike x.k y = true ∧ right y (d - 1) = true) : right x d = true := by
  rw [right_eq]
  simp only [Bool.and_eq_true, decide_eq_true_eq, Bool.not_eq_true']
  refine ⟨⟨hd, ho⟩, any_none fun y hy => ?_⟩
  obtain ⟨h1, h2⟩ := h y hy
  simp only [rodd, h2, Bool.not_true, Bool.or_false]
  simp [unlike] at h1
  simp
  omega
theorem leaf_right {x : Rx} (hl : x.l = []) (ho : own x = true) {d : Int} (hd : 0 < d) : right x d = true := right_mk hd ho fun y hy => by rw [hl] at hy; cases hy
theorem emX_own : own emX = true := by decide
theorem lfX_own {s : Nat} (h : s ≠ 0) : own (lfX s) = true := by simp [own, lfX, Rx.k, Rx.s, Rx.lo, Rx.hi, Rx.l, h]
theorem ofN_pos {b : Nat} (h : b < 256) : ofN b b ≠ 0 := by
  intro h0
  have h1 : (ofN b b).testBit b = true := by rw [ofN, mk_bit]; simp [h, inOf]
  rw [h0] at h1
  simp at h1
theorem chX_own {b : Int} (h : 0 ≤ b ∧ b < 256) : own (chX b) = true := by
  obtain ⟨n, rfl⟩ := Int.eq_ofNat_of_zero_le h.1
  exact lfX_own (ofN_pos (by omega))
theorem lfX_ok {s : Nat} (h : s < 2 ^ 256) : okX (lfX s) := .mk (by omega) h (by omega) (by omega) (by simp) (fun y hy => by cases hy)
theorem emX_ok : okX emX := .mk (by omega) (by omega) (by omega) (by omega) (by simp) (fun y hy => by cases hy)
theorem odds_bd {k : Nat} : 0 ≤ odds.getD k 0 ∧ odds.getD k 0 < 256 := by
  rcases Nat.lt_or_ge k 6 with h | h
  · have : ∀ k : Fin 6, 0 ≤ odds.getD k.val 0 ∧ odds.getD k.val 0 < 256 := by decide
    exact this ⟨k, h⟩
  · rw [List.getD_eq_getElem?_getD, List.getElem?_eq_none (by simpa [odds] using h)]; decide
structure Good (x : Rx) (d : Int) (n : Nat) : Prop where
  ok : okX x
  right : Hk.right x d = true
  sz : sz x ≤ n
theorem leafM_good (L : List UInt8) (a : Nat) : Good (leafM L a).1 1 1 := by
  have h1 : ofN 97 99 ≠ 0 := by decide +kernel
  have h2 : notN (ofN 97 97) ≠ 0 := by decide +kernel
  have h3 := pickV_lt (L := L) (a := a + 1) (n := 3) (by omega)
  unfold leafM
  split
  · exact ⟨emX_ok, leaf_right rfl emX_own (by omega), by simp [emX, Hk.sz, szs]⟩
  · split
    · exact ⟨lfX_ok (ofN_lt _ _), leaf_right rfl (lfX_own h1) (by omega), by simp [lfX, Hk.sz, szs]⟩
    · split
      · exact ⟨lfX_ok (notN_lt _), leaf_right rfl (lfX_own h2) (by omega), by simp [lfX, Hk.sz, szs]⟩
      · split
        · exact ⟨chX_ok _, leaf_right rfl (chX_own odds_bd) (by omega), by simp [chX, Hk.sz, szs]⟩
        · exact ⟨chX_ok _, leaf_right rfl (chX_own (by omega)) (by omega), by simp [chX, Hk.sz, szs]⟩
theorem leafM_at (L : List UInt8) (a : Nat) : (leafM L a).2 ≤ a + 2 ∧ a < (leafM L a).2 := by
  unfold leafM
  repeat' split
  all_goals simp
theorem szs_app : ∀ l r, szs (l ++ r) = szs l + szs r
  | [], r => by simp [szs]
  | x :: l, r => by simp only [List.cons_append, szs, szs_app l r]; omega
def flat1 (k : Int) (y : Rx) : List Rx := if y.k = k then y.l else [y]
theorem joinX_two (k : Int) (x y : Rx) : joinX k [x, y] = .mk k 0 0 0 (flat1 k x ++ flat1 k y) := by simp [joinX, flat1]
theorem flat1_sz (k : Int) (y : Rx) : szs (flat1 k y) ≤ sz y := by
  unfold flat1
  split
  · rw [sz_eq]; omega
  · simp [szs]
theorem flat1_len {k : Int} {y : Rx} {d : Int} (hk : k = 3 ∨ k = 4) (h : Hk.right y d = true) : 1 ≤ (flat1 k y).length := by
  unfold flat1
  split
  · have := (show inR y from ⟨d, h⟩).cases
    omega
  · simp
theorem flat1_mem {k : Int} {y z : Rx} {d : Int} (hk : k = 3 ∨ k = 4) (h : Hk.right y d = true) (hz : z ∈ flat1 k y) : z.k ≠ k ∧ Hk.right z d = true := by
  unfold flat1 at hz
  split at hz
  · rename_i hy
    have h1 := right_unlike h hz
    have h2 := right_kid h hz
    refine ⟨?_, right_mono z _ _ (by omega) h2⟩
    simp [unlike, hy] at h1
    omega
  · rename_i hy
    rw [List.mem_singleton] at hz
    subst hz
    exact ⟨hy, h⟩
theorem flat1_ok {k : Int} {y z : Rx} (h : okX y) (hz : z ∈ flat1 k y) : okX z := by
  unfold flat1 at hz
  split at hz
  · exact h.mem hz
  · rw [List.mem_singleton] at hz
    subst hz; exact h
theorem joinX_good {k : Int} {x y : Rx} {d : Int} {n m : Nat} (hk : k = 3 ∨ k = 4) (hx : Good x d n) (hy : Good y d m) (hb : n + m < 1000000) : Good (joinX k [x, y]) (d + 1) (n + m + 1) := by
  have hd := right_pos hx.right
  rw [joinX_two]
  have h1 := flat1_sz k x
  have h2 := flat1_sz k y
  have h3 := hx.sz
  have h4 := hy.sz
  have hl1 := len_szs (flat1 k x)
  have hl2 := len_szs (flat1 k y)
  have hl3 := flat1_len hk hx.right
  have hl4 := flat1_len hk hy.right
  refine ⟨.mk (by omega) (by omega) (by omega) (by omega) (by rw [List.length_append]; omega) fun z hz => ?_, right_mk (by omega) ?_ fun z hz => ?_, ?_⟩
  · rcases List.mem_append.1 hz with hz | hz
    · exact flat1_ok hx.ok hz
    · exact flat1_ok hy.ok hz
  · simp only [own, Rx.k, Rx.s, Rx.lo, Rx.hi, Rx.l]
    rw [if_neg (by omega), if_neg (by omega), if_pos hk]
    simp only [List.length_append, Bool.and_eq_true, decide_eq_true_eq]
    exact ⟨⟨⟨trivial, trivial⟩, trivial⟩, by omega⟩
  · have : z.k ≠ k ∧ Hk.right z d = true := by
      rcases List.mem_append.1 hz with hz | hz
      · exact flat1_mem hk hx.right hz
      · exact flat1_mem hk hy.right hz
    refine ⟨?_, by rw [Int.add_sub_cancel]; exact this.2⟩
    show (!(decide (z.k = k) && decide (k ≠ 5))) = true
    simp [this.1]
  · rw [sz, szs_app]; omega
theorem hiV_at (L : List UInt8) (a lo : Nat) : (hiV L a lo).2 ≤ a + 2 ∧ a < (hiV L a lo).2 := by unfold hiV; split <;> simp
theorem hiV_times {L : List UInt8} {a lo : Nat} (h : lo < 3) : times (lo : Nat) (hiV L a lo).1 = true := by
  have h2 := pickV_lt (L := L) (a := a + 1) (n := 2) (by omega)
  unfold hiV
  split
  · simp only [times, Bool.and_eq_true, Bool.or_eq_true, decide_eq_true_eq]
    have : 1 ≤ imax 1 (lo : Int) ∧ (lo : Int) ≤ imax 1 (lo : Int) ∧ (imax 1 (lo : Int) = 1 ∨ imax 1 (lo : Int) = lo) := imax_le
    omega
  · simp only [times, Bool.and_eq_true, Bool.or_eq_true, decide_eq_true_eq]
    exact ⟨by omega, .inl trivial⟩
theorem rxM_good (L : List UInt8) : ∀ (d a : Nat), d ≤ 10 → Good (rxM L d a).1 (d + 1) (2 ^ (d + 1) - 1) := by
  intro d
  induction d using Nat.strongRecOn with
  | ind d ih =>
    intro a hd
    have hp : (2 : Nat) ^ (d + 1) = 2 ^ d * 2 := Nat.pow_succ 2 d
    have hp0 : 0 < (2 : Nat) ^ d := Nat.pow_pos (by omega)
    rw [rxM]
    split
    · have h := leafM_good L (a + 1)
      exact ⟨h.ok, right_mono _ _ _ (by omega) h.right, by have := h.sz; omega⟩
    · rename_i h
      have hd0 : 0 < d := by omega
      have hp1 : (2 : Nat) ^ d = 2 ^ (d - 1) * 2 := by rw [← Nat.pow_succ]; congr 1; omega
      have hpm : (2 : Nat) ^ d ≤ 2 ^ 10 := Nat.pow_le_pow_right (by omega) hd
      have e1 : ((d - 1 : Nat) : Int) + 1 = d := by omega
      have e2 : d - 1 + 1 = d := by omega
      have key : ∀ k : Int, (k = 3 ∨ k = 4) → ∀ b c, Good (joinX k [(rxM L (d - 1) b).1, (rxM L (d - 1) c).1]) (d + 1) (2 ^ (d + 1) - 1) := by
        intro k hk b c
        have g1 := ih (d - 1) (by omega) b (by omega)
        have g2 := ih (d - 1) (by omega) c (by omega)
        rw [e1, e2] at g1 g2
        have g := joinX_good hk g1 g2 (by omega)
        exact ⟨g.ok, g.right, by have := g.sz; omega⟩
      split
      · exact key 3 (.inl rfl) _ _
      · split
        · exact key 4 (.inr rfl) _ _
        · have g := ih (d - 2) (by omega) (hiV L (a + 2) (pickV L (a + 1) 3)).2 (by omega)
          have hlo := pickV_lt (L := L) (a := a + 1) (n := 3) (by omega)
          have ht := hiV_times (L := L) (a := a + 2) hlo
          have hpw : (2 : Nat) ^ (d - 2 + 1) ≤ 2 ^ d := Nat.pow_le_pow_right (by omega) (by omega)
          have ht' := ht
          have him : 1 ≤ imax 1 ((pickV L (a + 1) 3 : Nat) : Int) := imax_le.1
          unfold times at ht'
          simp only [Bool.and_eq_true, Bool.or_eq_true, decide_eq_true_eq] at ht'
          refine ⟨.mk (by omega) (by omega) (by omega) (by omega) (by simp) fun z hz => ?_, right_mk (by omega) ?_ fun z hz => ?_, ?_⟩
          · rw [List.mem_singleton] at hz
            subst hz; exact g.ok
          · simp only [own, Rx.k, Rx.s, Rx.lo, Rx.hi, Rx.l, if_true]
            simp only [ht, Bool.and_true, List.length_singleton, decide_true]
          · change z ∈ [_] at hz
            rw [List.mem_singleton] at hz
            subst hz
            refine ⟨by simp [unlike, Rx.k], right_mono _ _ _ (by omega) g.right⟩
          · have := g.sz
            simp only [sz, szs]; omega
theorem rxM_at (L : List UInt8) : ∀ (d a : Nat), (rxM L d a).2 + 4 ≤ a + 8 * 2 ^ d ∧ a < (rxM L d a).2 := by
  intro d
  induction d using Nat.strongRecOn with
  | ind d ih =>
    intro a
    have hp0 : 0 < (2 : Nat) ^ d := Nat.pow_pos (by omega)
    rw [rxM]
    split
    · have h := leafM_at L (a + 1)
      omega
    · rename_i h
      have hd0 : 0 < d := by omega
      have hp1 : (2 : Nat) ^ d = 2 ^ (d - 1) * 2 := by rw [← Nat.pow_succ]; congr 1; omega
      have h1 := ih (d - 1) (by omega) (a + 1)
      have h2 := ih (d - 1) (by omega) (rxM L (d - 1) (a + 1)).2
      split
      · simp only; omega
      · split
        · simp only; omega
        · have h3 := hiV_at L (a + 2) (pickV L (a + 1) 3)
          have h4 := ih (d - 2) (by omega) (hiV L (a + 2) (pickV L (a + 1) 3)).2
          have hpw : (2 : Nat) ^ (d - 2) ≤ 2 ^ (d - 1) := Nat.pow_le_pow_right (by omega) (by omega)
          simp only; omega
theorem nodes_sz (x : Rx) : ∀ m : Int, (sz x : Int) ≤ m → nodes x m = m - sz x := by
  induction x using Rx.ind with
  | h x ih =>
    intro m hm
    rw [nodes_eq]
    have key : ∀ (l : List Rx) (m : Int), (∀ y ∈ l, y ∈ x.l) → (szs l : Int) ≤ m → l.foldl nstep m = m - szs l := by
      intro l
      induction l with
      | nil => intro m _ _; simp [szs]
      | cons y l ihl =>
        intro m hl hm
        simp only [szs] at hm
        rw [List.foldl_cons, nstep, if_pos (by omega), ih y (hl y (by simp)) m (by omega), ihl (m - sz y) (fun z hz => hl z (by simp [hz])) (by omega)]
        simp only [szs]; omega
    rw [sz_eq] at hm ⊢
    rw [key x.l (m - 1) (fun _ h => h) (by omega)]
    omega
theorem madeX_good (L : List UInt8) : okX (madeX L) ∧ rightT (madeX L) = true ∧ size (madeX L) ≤ 40 ∧ sz (madeX L) ≤ 31 := by
  have key : ∀ x : Rx, okX x → right x 20 = true → sz x ≤ 31 → size x ≤ 40 → okX x ∧ rightT x = true ∧ size x ≤ 40 ∧ sz x ≤ 31 := by
    intro x h1 h2 h3 h4
    refine ⟨h1, ?_, h4, h3⟩
    have := nodes_sz x 1000 (by omega)
    simp only [rightT, h2, Bool.true_and, Bool.and_eq_true, decide_eq_true_eq]
    omega
  have hg := rxM_good (L.take 30) 4 0 (by omega)
  unfold madeX
  split
  · refine key _ (chX_ok _) (leaf_right rfl (chX_own (by omega)) (by omega)) (by decide) ?_
    rw [size_eq]; decide
  · exact key _ hg.ok (right_mono _ _ _ (by decide) hg.right) hg.sz (by omega)
end Go.Hk
namespace Go.Hk
/-- The parts of those of one kind, and the other ones. -/
def flatK (k : Int) (l : List Rx) : List Rx := l.flatMap (flat1 k)
theorem joinX_flat (k : Int) (l : List Rx) : joinX k l = .mk k 0 0 0 (flatK k l) := rfl
theorem flatK_next {k : Int} {l : List Rx} {i : Nat} {y : Rx} (h : l[i]? = some y) : flatK k (l.take (i + 1)) = flatK k (l.take i) ++ flat1 k y := by
  obtain ⟨hi, rfl⟩ := List.getElem?_eq_some_iff.1 h
  rw [List.take_succ_eq_append_getElem hi, flatK, List.flatMap_append]
  simp [flatK]
theorem flatK_le {k : Int} {l : List Rx} {i : Nat} : (flatK k (l.take i)).length ≤ (flatK k l).length := by
  have h : flatK k l = flatK k (l.take i) ++ flatK k (l.drop i) := by rw [flatK, flatK, flatK, ← List.flatMap_append, List.take_append_drop]
  rw [h, List.length_append]; omega
theorem rV_kids {k : Int} {l : List Rx} : AVal.agg [.int .i64 k, .int .u64 0, .int .u64 0, .int .u64 0, .int .u64 0, .int .i64 0, .int .i64 0, .sl .no l.length (fl cR l)] = rV (.mk k 0 0 0 l) := by rw [rV, cR, cRs_fl]; rfl
end Go.Hk
