import Derived.Test.YtdimacffjdpkfaaHkQ20
/- Layer 3, the plain law: patterns by numbers. -/
set_option linter.unusedSimpArgs false
set_option linter.unusedVariables false
namespace Go.Hk
/-- A number out of a row of bytes. -/
def pickV (L : List UInt8) (at' n : Nat) : Nat := match L[at']? with | some c => c.toNat % n | none => 0
theorem pickV_lt {L : List UInt8} {a n : Nat} (h : 0 < n) : pickV L a n < n := by
  unfold pickV
  split
  · exact Nat.mod_lt _ h
  · exact h
theorem pickV_in {L : List UInt8} {a n : Nat} (h : a < L.length) : pickV L a n = (L[a]'h).toNat % n := by simp [pickV, h]
theorem pickV_out {L : List UInt8} {a n : Nat} (h : L.length ≤ a) : pickV L a n = 0 := by simp [pickV, h]
def odds : List Int := [10, 45, 90, 0, 255, 48]
def lfX (s : Nat) : Rx := .mk 2 s 0 0 []
def emX : Rx := .mk 1 0 0 0 []
/-- A pattern without parts, and the next place. -/
def leafM (L : List UInt8) (a : Nat) : Rx × Nat :=
  if pickV L a 8 = 0 then (emX, a + 1)
  else if pickV L a 8 = 1 then (lfX (ofN 97 99), a + 1)
  else if pickV L a 8 = 2 then (lfX (notN (ofN 97 97)), a + 1)
  else if pickV L a 8 = 3 then (chX (odds.getD (pickV L (a + 1) 6) 0), a + 2)
  else (chX (97 + (pickV L (a + 1) 3 : Nat)), a + 2)
def joinX (k : Int) (l : List Rx) : Rx := .mk k 0 0 0 (l.flatMap fun y => if y.k = k then y.l else [y])
def hiV (L : List UInt8) (a lo : Nat) : Int × Nat := if pickV L a 2 = 1 then (imax 1 (lo : Nat) + (pickV L (a + 1) 2 : Nat), a + 2) else (-1, a + 1)
def rxM (L : List UInt8) (d a : Nat) : Rx × Nat :=
  if d = 0 ∨ pickV L a 8 < 2 ∨ L.length ≤ a + 1 then leafM L (a + 1)
  else if pickV L a 8 < 5 then (joinX 3 [(rxM L (d - 1) (a + 1)).1, (rxM L (d - 1) (rxM L (d - 1) (a + 1)).2).1], (rxM L (d - 1) (rxM L (d - 1) (a + 1)).2).2)
  else if pickV L a 8 = 5 then (joinX 4 [(rxM L (d - 1) (a + 1)).1, (rxM L (d - 1) (rxM L (d - 1) (a + 1)).2).1], (rxM L (d - 1) (rxM L (d - 1) (a + 1)).2).2)
  else (.mk 5 0 (pickV L (a + 1) 3 : Nat) (hiV L (a + 2) (pickV L (a + 1) 3)).1 [(rxM L (d - 2) (hiV L (a + 2) (pickV L (a + 1) 3)).2).1], (rxM L (d - 2) (hiV L (a + 2) (pickV L (a + 1) 3)).2).2)
termination_by d
decreasing_by all_goals omega
end Go.Hk
namespace Go.Hk
/-! ### What is made may be -/
theorem right_mono (x : Rx) : ∀ d e : Int, d ≤ e → right x d = true → right x e = true := by
  induction x using Rx.ind with
  | h x ih =>
    intro d e hde h
    have h' := h
    rw [right_eq] at h ⊢
    simp only [Bool.and_eq_true, decide_eq_true_eq, Bool.not_eq_true'] at h ⊢
    refine ⟨⟨by omega, h.1.2⟩, ?_⟩
    rw [Bool.eq_false_iff, Ne, List.any_eq_true]
    rintro ⟨y, hy, ho⟩
    have h1 := right_kid h' hy
    have h2 := right_unlike h' hy
    have h3 := ih y hy (d - 1) (e - 1) (by omega) h1
    simp only [rodd, h3, Bool.not_true, Bool.or_false] at ho
    simp [unlike] at h2
    simp at ho
    omega
theorem right_mk {x : Rx} {d : Int} (hd : 0 < d) (ho : own x = true) (h : ∀ y ∈ x.l, unlike x.k y = true ∧ right y (d - 1) = true) : right x d = true := by
  rw [right_eq]
  simp only [Bool.and_eq_true, decide_eq_true_eq, Bool.not_eq_true']
  refine ⟨⟨hd, ho⟩, any_none fun y hy => ?_⟩
  obtain ⟨h1, h2⟩ := h y hy
  simp only [rodd, h2, Bool.not_true, Bool.or_false]
  simp [unlike] at h1
  simp
  omega
theorem leaf_right {x : Rx} (hl : x.l = []) (ho : own x = true) {d : Int} (hd : 0 < d) : right x d = true := right_mk hd ho fun y hy => by rw [hl] at hy; cases hy
theorem emX_own : own emX = true := by decide
theorem lfX_own {s : Nat} (h : s ≠ 0) : own (lfX s) = true := by simp [own, lfX, Rx.k, Rx.s, Rx.lo, Rx.hi, Rx.l, h]
theorem ofN_pos {b : Nat} (h : b < 256) : ofN b b ≠ 0 := by
  intro h0
  have h1 : (ofN b b).testBit b = true := by rw [ofN, mk_bit]; simp [h, inOf]
  rw [h0] at h1
  simp at h1
theorem chX_own {b : Int} (h : 0 ≤ b ∧ b < 256) : own (chX b) = true := by
  obtain ⟨n, rfl⟩ := Int.eq_ofNat_of_zero_le h.1
  exact lfX_own (ofN_pos (by omega))
theorem lfX_ok {s : Nat} (h : s < 2 ^ 256) : okX (lfX s) := .mk (by omega) h (by omega) (by omega) (by simp) (fun y hy => by cases hy)
theorem emX_ok : okX emX := .mk (by omega) (by omega) (by omega) (by omega) (by simp) (fun y hy => by cases hy)
theorem odds_bd {k : Nat} : 0 ≤ odds.getD k 0 ∧ odds.getD k 0 < 256 := by
  rcases Nat.lt_or_ge k 6 with h | h
  · have : ∀ k : Fin 6, 0 ≤ odds.getD k.val 0 ∧ odds.getD k.val 0 < 256 := by decide
    exact this ⟨k, h⟩
  · rw [List.getD_eq_getElem?_getD, List.getElem?_eq_none (by simpa [odds] using h)]; decide
structure Good (x : Rx) (d : Int) (n : Nat) : Prop where
  ok : okX x
  right : Hk.right x d = true
  sz : sz x ≤ n
theorem leafM_good (L : List UInt8) (a : Nat) : Good (leafM L a).1 1 1 := by
  have h1 : ofN 97 99 ≠ 0 := by decide +kernel
  have h2 : notN (ofN 97 97) ≠ 0 := by decide +kernel
  have h3 := pickV_lt (L := L) (a := a + 1) (n := 3) (by omega)
  unfold leafM
  split
  · exact ⟨emX_ok, leaf_right rfl emX_own (by omega), by simp [emX, Hk.sz, szs]⟩
  · split
    · exact ⟨lfX_ok (ofN_lt _ _), leaf_right rfl (lfX_own h1) (by omega), by simp [lfX, Hk.sz, szs]⟩
    · split
      · exact ⟨lfX_ok (notN_lt _), leaf_right rfl (lfX_own h2) (by omega), by simp [lfX, Hk.sz, szs]⟩
      · split
        · exact ⟨chX_ok _, leaf_right rfl (chX_own odds_bd) (by omega), by simp [chX, Hk.sz, szs]⟩
        · exact ⟨chX_ok _, leaf_right rfl (chX_own (by omega)) (by omega), by simp [chX, Hk.sz, szs]⟩
theorem leafM_at (L : List UInt8) (a : Nat) : (leafM L a).2 ≤ a + 2 ∧ a < (leafM L a).2 := by
  unfold leafM
  repeat' split
  all_goals simp
theorem szs_app : ∀ l r, szs (l ++ r) = szs l + szs r
  | [], r => by simp [szs]
  | x :: l, r => by simp only [List.cons_append, szs, szs_app l r]; omega
def flat1 (k : Int) (y : Rx) : List Rx := if y.k = k then y.l else [y]
theorem joinX_two (k : Int) (x y : Rx) : joinX k [x, y] = .mk k 0 0 0 (flat1 k x ++ flat1 k y) := by simp [joinX, flat1]
theorem flat1_sz (k : Int) (y : Rx) : szs (flat1 k y) ≤ sz y := by
  unfold flat1
  split
  · rw [sz_eq]; omega
  · simp [szs]
theorem flat1_len {k : Int} {y : Rx} {d : Int} (hk : k = 3 ∨ k = 4) (h : Hk.right y d = true) : 1 ≤ (flat1 k y).length := by
  unfold flat1
  split
  · have := (show inR y from ⟨d, h⟩).cases
    omega
  · simp
theorem flat1_mem {k : Int} {y z : Rx} {d : Int} (hk : k = 3 ∨ k = 4) (h : Hk.right y d = true) (hz : z ∈ flat1 k y) : z.k ≠ k ∧ Hk.right z d = true := by
  unfold flat1 at hz
  split at hz
  · rename_i hy
    have h1 := right_unlike h hz
    have h2 := right_kid h hz
    refine ⟨?_, right_mono z _ _ (by omega) h2⟩
    simp [unlike, hy] at h1
    omega
  · rename_i hy
    rw [List.mem_singleton] at hz
    subst hz
    exact ⟨hy, h⟩
theorem flat1_ok {k : Int} {y z : Rx} (h : okX y) (hz : z ∈ flat1 k y) : okX z := by
  unfold flat1 at hz
  split at hz
  · exact h.mem hz
  · rw [List.mem_singleton] at hz
    subst hz; exact h
theorem joinX_good {k : Int} {x y : Rx} {d : Int} {n m : Nat} (hk : k = 3 ∨ k = 4) (hx : Good x d n) (hy : Good y d m) (hb : n + m < 1000000) : Good (joinX k [x, y]) (d + 1) (n + m + 1) := by
  have hd := right_pos hx.right
  rw [joinX_two]
  have h1 := flat1_sz k x
  have h2 := flat1_sz k y
  have h3 := hx.sz
  have h4 := hy.sz
  have hl1 := len_szs (flat1 k x)
  have hl2 := len_szs (flat1 k y)
  have hl3 := flat1_len hk hx.right
  have hl4 := flat1_len hk hy.right
  refine ⟨.mk (by omega) (by omega) (by omega) (by omega) (by rw [List.length_append]; omega) fun z hz => ?_, right_mk (by omega) ?_ fun z hz => ?_, ?_⟩
  · rcases List.mem_append.1 hz with hz | hz
    · exact flat1_ok hx.ok hz
    · exact flat1_ok hy.ok hz
  · simp only [own, Rx.k, Rx.s, Rx.lo, Rx.hi, Rx.l]
    rw [if_neg (by omega), if_neg (by omega), if_pos hk]
    simp only [List.length_append, Bool.and_eq_true, decide_eq_true_eq]
    exact ⟨⟨⟨trivial, trivial⟩, trivial⟩, by omega⟩
  · have : z.k ≠ k ∧ Hk.right z d = true := by
      rcases List.mem_append.1 hz with hz | hz
      · exact flat1_mem hk hx.right hz
      · exact flat1_mem hk hy.right hz
    refine ⟨?_, by rw [Int.add_sub_cancel]; exact this.2⟩
    show (!(decide (z.k = k) && decide (k ≠ 5))) = true
    simp [this.1]
  · rw [sz, szs_app]; omega
theorem hiV_at (L : List UInt8) (a lo : Nat) : (hiV L a lo).2 ≤ a + 2 ∧ a < (hiV L a lo).2 := by unfold hiV; split <;> simp
theorem hiV_times {L : List UInt8} {a lo : Nat} (h : lo < 3) : times (lo : Nat) (hiV L a lo).1 = true := by
  have h2 := pickV_lt (L := L) (a := a + 1) (n := 2) (by omega)
  unfold hiV
  split
  · simp only [times, Bool.and_eq_true, Bool.or_eq_true, decide_eq_true_eq]
    have : 1 ≤ imax 1 (lo : Int) ∧ (lo : Int) ≤ imax 1 (lo : Int) ∧ (imax 1 (lo : Int) = 1 ∨ imax 1 (lo : Int) = lo) := imax_le
    omega
  · simp only [times, Bool.and_eq_true, Bool.or_eq_true, decide_eq_true_eq]
    exact ⟨by omega, .inl trivial⟩
theorem rxM_good (L : List UInt8) : ∀ (d a : Nat), d ≤ 10 → Good (rxM L d a).1 (d + 1) (2 ^ (d + 1) - 1) := by
  intro d
  induction d using Nat.strongRecOn with
  | ind d ih =>
    intro a hd
    have hp : (2 : Nat) ^ (d + 1) = 2 ^ d * 2 := Nat.pow_succ 2 d
    have hp0 : 0 < (2 : Nat) ^ d := Nat.pow_pos (by omega)
    rw [rxM]
    split
    · have h := leafM_good L (a + 1)
      exact ⟨h.ok, right_mono _ _ _ (by omega) h.right, by have := h.sz; omega⟩
    · rename_i h
      have hd0 : 0 < d := by omega
      have hp1 : (2 : Nat) ^ d = 2 ^ (d - 1) * 2 := by rw [← Nat.pow_succ]; congr 1; omega
      have hpm : (2 : Nat) ^ d ≤ 2 ^ 10 := Nat.pow_le_pow_right (by omega) hd
      have e1 : ((d - 1 : Nat) : Int) + 1 = d := by omega
      have e2 : d - 1 + 1 = d := by omega
      have key : ∀ k : Int, (k = 3 ∨ k = 4) → ∀ b c, Good (joinX k [(rxM L (d - 1) b).1, (rxM L (d - 1) c).1]) (d + 1) (2 ^ (d + 1) - 1) := by
        intro k hk b c
        have g1 := ih (d - 1) (by omega) b (by omega)
        have g2 := ih (d - 1) (by omega) c (by omega)
        rw [e1, e2] at g1 g2
        have g := joinX_good hk g1 g2 (by omega)
        exact ⟨g.ok, g.right, by have := g.sz; omega⟩
      split
      · exact key 3 (.inl rfl) _ _
      · split
        · exact key 4 (.inr rfl) _ _
        · have g := ih (d - 2) (by omega) (hiV L (a + 2) (pickV L (a + 1) 3)).2 (by omega)
          have hlo := pickV_lt (L := L) (a := a + 1) (n := 3) (by omega)
          have ht := hiV_times (L := L) (a := a + 2) hlo
          have hpw : (2 : Nat) ^ (d - 2 + 1) ≤ 2 ^ d := Nat.pow_le_pow_right (by omega) (by omega)
          have ht' := ht
          have him : 1 ≤ imax 1 ((pickV L (a + 1) 3 : Nat) : Int) := imax_le.1
          unfold times at ht'
          simp only [Bool.and_eq_true, Bool.or_eq_true, decide_eq_true_eq] at ht'
          refine ⟨.mk (by omega) (by omega) (by omega) (by omega) (by simp) fun z hz => ?_, right_mk (by omega) ?_ fun z hz => ?_, ?_⟩
          · rw [List.mem_singleton] at hz
            subst hz; exact g.ok
          · simp only [own, Rx.k, Rx.s, Rx.lo, Rx.hi, Rx.l, if_true]
            simp only [ht, Bool.and_true, List.length_singleton, decide_true]
          · change z ∈ [_] at hz
            rw [List.mem_singleton] at hz
            subst hz
            refine ⟨by simp [unlike, Rx.k], right_mono _ _ _ (by omega) g.right⟩
          · have := g.sz
            simp only [sz, szs]; omega
theorem rxM_at (L : List UInt8) : ∀ (d a : Nat), (rxM L d a).2 + 4 ≤ a + 8 * 2 ^ d ∧ a < (rxM L d a).2 := by
  intro d
  induction d using Nat.strongRecOn with
  | ind d ih =>
    intro a
    have hp0 : 0 < (2 : Nat) ^ d := Nat.pow_pos (by omega)
    rw [rxM]
    split
    · have h := leafM_at L (a + 1)
      omega
    · rename_i h
      have hd0 : 0 < d := by omega
      have hp1 : (2 : Nat) ^ d = 2 ^ (d - 1) * 2 := by rw [← Nat.pow_succ]; congr 1; omega
      have h1 := ih (d - 1) (by omega) (a + 1)
      have h2 := ih (d - 1) (by omega) (rxM L (d - 1) (a + 1)).2
      split
      · simp only; omega
      · split
        · simp only; omega
        · have h3 := hiV_at L (a + 2) (pickV L (a + 1) 3)
          have h4 := ih (d - 2) (by omega) (hiV L (a + 2) (pickV L (a + 1) 3)).2
          have hpw : (2 : Nat) ^ (d - 2) ≤ 2 ^ (d - 1) := Nat.pow_le_pow_right (by omega) (by omega)
          simp only; omega
theorem nodes_sz (x : Rx) : ∀ m : Int, (sz x : Int) ≤ m → nodes x m = m - sz x := by
  induction x using Rx.ind with
  | h x ih =>
    intro m hm
    rw [nodes_eq]
    have key : ∀ (l : List Rx) (m : Int), (∀ y ∈ l, y ∈ x.l) → (szs l : Int) ≤ m → l.foldl nstep m = m - szs l := by
      intro l
      induction l with
      | nil => intro m _ _; simp [szs]
      | cons y l ihl =>
        intro m hl hm
        simp only [szs] at hm
        rw [List.foldl_cons, nstep, if_pos (by omega), ih y (hl y (by simp)) m (by omega), ihl (m - sz y) (fun z hz => hl z (by simp [hz])) (by omega)]
        simp only [szs]; omega
    rw [sz_eq] at hm ⊢
    rw [key x.l (m - 1) (fun _ h => h) (by omega)]
    omega
end Go.Hk
namespace Go.Hk
/-- The parts of those of one kind, and the other ones. -/
def flatK (k : Int) (l : List Rx) : List Rx := l.flatMap (flat1 k)
theorem joinX_flat (k : Int) (l : List Rx) : joinX k l = .mk k 0 0 0 (flatK k l) := rfl
theorem flatK_next {k : Int} {l : List Rx} {i : Nat} {y : Rx} (h : l[i]? = some y) : flatK k (l.take (i + 1)) = flatK k (l.take i) ++ flat1 k y := by
  obtain ⟨hi, rfl⟩ := List.getElem?_eq_some_iff.1 h
  rw [List.take_succ_eq_append_getElem hi, flatK, List.flatMap_append]
  simp [flatK]
theorem flatK_le {k : Int} {l : List Rx} {i : Nat} : (flatK k (l.take i)).length ≤ (flatK k l).length := by
  have h : flatK k l = flatK k (l.take i) ++ flatK k (l.drop i) := by rw [flatK, flatK, flatK, ← List.flatMap_append, List.take_append_drop]
  rw [h, List.length_append]; omega
theorem rV_kids {k : Int} {l : List Rx} : AVal.agg [.int .i64 k, .int .u64 0, .int .u64 0, .int .u64 0, .int .u64 0, .int .i64 0, .int .i64 0, .sl .no l.length (fl cR l)] = rV (.mk k 0 0 0 l) := by rw [rV, cR, cRs_fl]; rfl
end Go.Hk
/- Memory that came in, with blocks of one's own behind it. -/
namespace Go.Hk
section
variable {G l : List ABlk} {b k t : Nat} {x y : ABlk}
theorem m_at (h : b < G.length) : (G ++ l)[b]? = G[b]? := List.getElem?_append_left h
theorem m_atS (h : b < G.length) {c : Nat} : (G.set c x ++ l)[b]? = (G.set c x)[b]? := List.getElem?_append_left (by simpa using h)
theorem m_set (h : b < G.length) : (G ++ l).set b y = G.set b y ++ l := List.set_append_left _ _ h
theorem m_setS (h : b < G.length) {c : Nat} : (G.set c x ++ l).set b y = (G.set c x).set b y ++ l := List.set_append_left _ _ (by simpa using h)
theorem m_own0 : (G ++ l)[G.length]? = l[0]? := by rw [List.getElem?_append_right (Nat.le_refl _), Nat.sub_self]
theorem m_own : (G ++ l)[G.length + k]? = l[k]? := by rw [List.getElem?_append_right (Nat.le_add_right _ _), Nat.add_sub_cancel_left]
theorem m_own0S {c : Nat} : (G.set c x ++ l)[G.length]? = l[0]? := by
  have := m_own0 (G := G.set c x) (l := l); rwa [List.length_set] at this
theorem m_ownS {c : Nat} : (G.set c x ++ l)[G.length + k]? = l[k]? := by
  have := m_own (G := G.set c x) (l := l) (k := k); rwa [List.length_set] at this
theorem m_put0 : (G ++ l).set G.length y = G ++ l.set 0 y := by rw [List.set_append_right _ _ (Nat.le_refl _), Nat.sub_self]
theorem m_put : (G ++ l).set (G.length + k) y = G ++ l.set k y := by rw [List.set_append_right _ _ (Nat.le_add_right _ _), Nat.add_sub_cancel_left]
theorem m_put0S {c : Nat} : (G.set c x ++ l).set G.length y = G.set c x ++ l.set 0 y := by
  have := m_put0 (G := G.set c x) (l := l) (y := y); rwa [List.length_set] at this
theorem m_putS {c : Nat} : (G.set c x ++ l).set (G.length + k) y = G.set c x ++ l.set k y := by
  have := m_put (G := G.set c x) (l := l) (k := k) (y := y); rwa [List.length_set] at this
theorem m_more {l' : List ABlk} : G ++ l ++ l' = G ++ (l ++ l') := List.append_assoc _ _ _
end
/-! ### Closedness grows -/
mutual
theorem clo_mono {h h' t t' : Nat} (hh : h ≤ h') (ht : t ≤ t') : ∀ v, clo h t v = true → clo h' t' v = true
  | .dead, _ => rfl
  | .undef, _ => rfl
  | .bool _, _ => rfl
  | .int _ _, _ => rfl
  | .str _, _ => rfl
  | .nilp, _ => rfl
  | .nilm, _ => rfl
  | .nilf, _ => rfl
  | .nili, _ => rfl
  | .ptr b _ _, k => by simp only [clo, decide_eq_true_eq] at k ⊢; omega
  | .msl b _ _ _ _, k => by simp only [clo, decide_eq_true_eq] at k ⊢; omega
  | .map b, k => by simp only [clo, decide_eq_true_eq] at k ⊢; omega
  | .tpt _ b _, k => by simp only [clo, decide_eq_true_eq] at k ⊢; omega
  | .yld b, k => by simp only [clo, decide_eq_true_eq] at k ⊢; omega
  | .sl r _ cs, k => by
    simp only [clo, Bool.and_eq_true] at k ⊢
    refine ⟨?_, cloL_mono hh ht cs k.2⟩
    cases r <;> simp only [cloR, decide_eq_true_eq] at k ⊢
    omega
  | .ipt cs _, k => by simp only [clo] at k ⊢; exact cloL_mono hh ht cs k
  | .dpt _ cs, k => by simp only [clo] at k ⊢; exact cloL_mono hh ht cs k
  | .agg cs, k => by simp only [clo] at k ⊢; exact cloL_mono hh ht cs k
  | .fn _ a c, k => by
    simp only [clo, Bool.and_eq_true] at k ⊢
    exact ⟨cloL_mono hh ht a k.1, cloL_mono hh ht c k.2⟩
  | .ifc _ v, k => by simp only [clo] at k ⊢; exact clo_mono hh ht v k
  | .tup a vs, k => by
    simp only [clo, Bool.and_eq_true] at k ⊢
    exact ⟨clo_mono hh ht a k.1, cloL_mono hh ht vs k.2⟩
theorem cloL_mono {h h' t t' : Nat} (hh : h ≤ h') (ht : t ≤ t') : ∀ cs, cloL h t cs = true → cloL h' t' cs = true
  | [], _ => rfl
  | v :: vs, k => by
    simp only [cloL, Bool.and_eq_true] at k ⊢
    exact ⟨clo_mono hh ht v k.1, cloL_mono hh ht vs k.2⟩
end
theorem cloB_mono {h h' t t' : Nat} (hh : h ≤ h') (ht : t ≤ t') {x : ABlk} (k : cloB h t x = true) : cloB h' t' x = true := by
  cases x with
  | cells e cs => exact cloL_mono hh ht cs k
  | amap es =>
    simp only [cloB, List.all_eq_true, Bool.and_eq_true] at k ⊢
    exact fun p hp => ⟨clo_mono hh ht _ (k p hp).1, clo_mono hh ht _ (k p hp).2⟩
  | iter mb l c =>
    simp only [cloB, List.all_eq_true, Bool.and_eq_true, decide_eq_true_eq, Option.all_eq_true] at k ⊢
    exact ⟨⟨by omega, fun p hp => ⟨clo_mono hh ht _ (k.1.2 p hp).1, clo_mono hh ht _ (k.1.2 p hp).2⟩⟩, fun p hp => ⟨clo_mono hh ht _ (k.2 p hp).1, clo_mono hh ht _ (k.2 p hp).2⟩⟩
  | loop st pend ps asg body env n =>
    simp only [cloB, List.all_eq_true] at k ⊢
    exact fun p hp => clo_mono hh ht _ (k p hp)
/-- Nothing in these names anything outside. -/
def shut (m : AMem) : Bool := m.H.all (cloB m.H.length m.T.length)
theorem shut_app {G l : List ABlk} {T X : List (Nat × (Nat × Nat))} (hG : shut ⟨G, T⟩ = true) (hl : ∀ h, G.length + l.length ≤ h → l.all (cloB h (T ++ X).length) = true) : shut ⟨G ++ l, T ++ X⟩ = true := by
  simp only [shut, List.all_append, Bool.and_eq_true] at hG ⊢
  refine ⟨?_, hl _ (by simp)⟩
  rw [List.all_eq_true] at hG ⊢
  exact fun x hx => cloB_mono (by simp) (by simp) (hG x hx)
theorem shut_set {G : List ABlk} {T : List (Nat × (Nat × Nat))} {b : Nat} {x : ABlk} (hG : shut ⟨G, T⟩ = true) (hx : cloB G.length T.length x = true) : shut ⟨G.set b x, T⟩ = true := by
  simp only [shut, List.length_set] at hG ⊢
  rw [List.all_eq_true] at hG ⊢
  intro y hy
  rcases List.mem_or_eq_of_mem_set hy with h | rfl
  · exact hG y h
  · exact hx
theorem shut_two {G l : List ABlk} {T : List (Nat × (Nat × Nat))} {b : Nat} {x : ABlk} (hG : shut ⟨G, T⟩ = true) (hx : cloB G.length T.length x = true) (hl : ∀ h, G.length + l.length ≤ h → l.all (cloB h T.length) = true) : shut ⟨G.set b x ++ l, T⟩ = true := by
  have := shut_app (X := []) (shut_set (b := b) hG hx) (l := l) (by simpa using hl)
  simpa using this
theorem shut_one {G l : List ABlk} {T : List (Nat × (Nat × Nat))} (hG : shut ⟨G, T⟩ = true) (hl : ∀ h, G.length + l.length ≤ h → l.all (cloB h T.length) = true) : shut ⟨G ++ l, T⟩ = true := by
  have := shut_app (X := []) hG (l := l) (by simpa using hl)
  simpa using this
theorem leftM_one {G l : List ABlk} {T : List (Nat × (Nat × Nat))} (hG : shut ⟨G, T⟩ = true) : LeftM ⟨G, T⟩ ⟨G ++ l, T⟩ := .inr ⟨⟨l, [], by simp⟩, hG⟩
theorem nxR_ne {T : List (Nat × (Nat × Nat))} {r : Rt} : nxR T r ≠ .full := by cases r <;> simp [nxR]
attribute [go_sem] m_own0 m_own m_own0S m_ownS m_put0 m_put m_put0S m_putS m_more List.length_append List.length_set
end Go.Hk
/- The Maker of patterns: what its methods do to it. -/
namespace Go.Hk
/-- Numbers out of a Maker's bytes. -/
def pkR (b : Nat) (n : Int) (H : List ABlk) (T : List (Nat × (Nat × Nat))) (x : Option ABlk) : Option (AVal × AMem) :=
  match x with
  | some (.cells 0 [.sl .no k cs, .int .i64 a]) => (match bytesOf cs with
    | some L => if k = L.length ∧ L.length < 1000000 ∧ 0 ≤ a ∧ a < 1000000 ∧ 0 < n ∧ n < 1000000 then some (.int .i64 (pickV L a.toNat n.toNat : Nat), ⟨H.set b (.cells 0 [.sl .no k cs, .int .i64 (a + 1)]), T⟩) else none
    | none => none)
  | _ => none
def iPk (xs : List AVal) (m : AMem) : Option (AVal × AMem) :=
  match xs with
  | [.ptr b 0 0, .int .i64 n] => pkR b n m.H m.T m.H[b]?
  | _ => none
section
variable {b : Nat} {n : Int} {H : List ABlk} {T : List (Nat × (Nat × Nat))} {k a p : Nat} {L : List UInt8}
theorem iPk_eq : iPk [.ptr b 0 0, .int .i64 n] ⟨H, T⟩ = pkR b n H T H[b]? := rfl
theorem pk_on (hk : k = L.length) (hL : L.length < 1000000) (ha2 : a < 1000000) (hn : 0 < n) (hn2 : n < 1000000) : pkR b n H T (some (.cells 0 [.sl .no k (fl cU L), .int .i64 (a : Nat)])) =
    some (.int .i64 (pickV L a n.toNat : Nat), ⟨H.set b (.cells 0 [.sl .no k (fl cU L), .int .i64 ((a + 1 : Nat) : Int)]), T⟩) := by
  have h0 : (0 : Int) ≤ a := by omega
  have h1 : (a : Int) < 1000000 := by omega
  simp only [pkR, bytesOf_cU, hk, hL, hn, hn2, h0, h1, and_self, if_true, Int.toNat_natCast]
  rfl
end
/-- A Maker's cells. -/
def mkC (k : Nat) (L : List UInt8) (a : Int) : ABlk := .cells 0 [.sl .no k (fl cU L), .int .i64 a]
theorem mkC_clo {h t k : Nat} {L : List UInt8} {a : Int} : cloB h t (mkC k L a) = true := by
  simp only [mkC, cloB, cloL, clo, cloR, cloL_strip _ _ l_s_cU, Bool.and_self]
/-- A method that draws numbers: what it hands back, and how far it comes. -/
def mkR (ok : List UInt8 → Nat → Prop) [∀ L a, Decidable (ok L a)] (F : List UInt8 → Nat → AVal × Nat) (b : Nat) (H : List ABlk) (T : List (Nat × (Nat × Nat))) (x : Option ABlk) : Option (AVal × AMem) :=
  match x with
  | some (.cells 0 [.sl .no k cs, .int .i64 a]) => (match bytesOf cs with
    | some L => if k = L.length ∧ L.length < 1000000 ∧ 0 ≤ a ∧ ok L a.toNat ∧ shut ⟨H, T⟩ = true then some ((F L a.toNat).1, ⟨H.set b (mkC k L (F L a.toNat).2), T⟩) else none
    | none => none)
  | _ => none
section
variable {ok : List UInt8 → Nat → Prop} [∀ L a, Decidable (ok L a)] {F : List UInt8 → Nat → AVal × Nat} {b : Nat} {H : List ABlk} {T : List (Nat × (Nat × Nat))} {k a : Nat} {L : List UInt8}
theorem mk_on (hk : k = L.length) (hL : L.length < 1000000) (ho : ok L a) (hs : shut ⟨H, T⟩ = true) : mkR ok F b H T (some (.cells 0 [.sl .no k (fl cU L), .int .i64 (a : Nat)])) =
    some ((F L a).1, ⟨H.set b (.cells 0 [.sl .no k (fl cU L), .int .i64 ((F L a).2 : Nat)]), T⟩) := by
  have h0 : (0 : Int) ≤ a := by omega
  simp only [mkR, bytesOf_cU, hk, hL, h0, hs, Int.toNat_natCast, ho, and_self, if_true, mkC]
theorem mk_on0 (hk : k = L.length) (hL : L.length < 1000000) (ho : ok L 0) (hs : shut ⟨H, T⟩ = true) : mkR ok F b H T (some (.cells 0 [.sl .no k (fl cU L), .int .i64 0])) =
    some ((F L 0).1, ⟨H.set b (.cells 0 [.sl .no k (fl cU L), .int .i64 ((F L 0).2 : Nat)]), T⟩) := mk_on (a := 0) hk hL ho hs
theorem mk_cases {r : AVal} {m' : AMem} {x : Option ABlk} (h : mkR ok F b H T x = some (r, m')) : ∃ L a, x = some (mkC L.length L ((a : Nat) : Int)) ∧ L.length < 1000000 ∧ ok L a ∧ shut ⟨H, T⟩ = true ∧ r = (F L a).1 ∧ m' = ⟨H.set b (mkC L.length L (F L a).2), T⟩ := by
  unfold mkR at h
  split at h
  · split at h
    · rename_i a L hb
      split at h
      · rename_i hc
        obtain ⟨rfl, hL, h0, ho, hs⟩ := hc
        obtain ⟨a, rfl⟩ := Int.eq_ofNat_of_zero_le h0
        have := bytesOf_spec _ _ hb
        rw [← fl_cU_map] at this
        subst this
        cases h
        exact ⟨L, a, rfl, hL, ho, hs, rfl, rfl⟩
      · cases h
    · cases h
  · cases h
end
def iLf (xs : List AVal) (m : AMem) : Option (AVal × AMem) :=
  match xs with
  | [.ptr b 0 0] => mkR (fun _ a => a < 900000) (fun L a => (rV (leafM L a).1, (leafM L a).2)) b m.H m.T m.H[b]?
  | _ => none
theorem iLf_eq {b : Nat} {H : List ABlk} {T : List (Nat × (Nat × Nat))} : iLf [.ptr b 0 0] ⟨H, T⟩ = mkR (fun _ a => a < 900000) (fun L a => (rV (leafM L a).1, (leafM L a).2)) b H T H[b]? := rfl
end Go.Hk
namespace Go.Hk
/-- Patterns of less than so much depth. -/
def iRxn (n : Nat) (xs : List AVal) (m : AMem) : Option (AVal × AMem) :=
  match xs with
  | [.ptr b 0 0, .int .i64 d] => if d.toNat < n ∧ -2 ≤ d then mkR (fun _ a => d.toNat ≤ 10 ∧ a + 8 * 2 ^ d.toNat ≤ 100000) (fun L a => (rV (rxM L d.toNat a).1, (rxM L d.toNat a).2)) b m.H m.T m.H[b]? else none
  | _ => none
theorem iRxn_eq {n b : Nat} {d : Int} {H : List ABlk} {T : List (Nat × (Nat × Nat))} (h : d.toNat < n ∧ -2 ≤ d) : iRxn n [.ptr b 0 0, .int .i64 d] ⟨H, T⟩ = mkR (fun _ a => d.toNat ≤ 10 ∧ a + 8 * 2 ^ d.toNat ≤ 100000) (fun L a => (rV (rxM L d.toNat a).1, (rxM L d.toNat a).2)) b H T H[b]? := if_pos h
def iRx (xs : List AVal) (m : AMem) : Option (AVal × AMem) := iRxn 11 xs m
theorem iRx_eq {b : Nat} {d : Int} {H : List ABlk} {T : List (Nat × (Nat × Nat))} (h : d.toNat < 11 ∧ -2 ≤ d) : iRx [.ptr b 0 0, .int .i64 d] ⟨H, T⟩ = mkR (fun _ a => d.toNat ≤ 10 ∧ a + 8 * 2 ^ d.toNat ≤ 100000) (fun L a => (rV (rxM L d.toNat a).1, (rxM L d.toNat a).2)) b H T H[b]? := if_pos h
theorem l_s_cR2 {x y : Rx} : stripL (cR x ++ cR y) = some (cR x ++ cR y) := s_append (cR_strip x) (cR_strip y)
attribute [go_sem] l_s_cR2
theorem cR_strip' {x : Rx} : stripL (cR x) = some (cR x) := cR_strip x
attribute [go_sem] cR_strip'
theorem good_join {k : Int} {x y : Rx} {d e : Int} {n m : Nat} (hx : Good x d n) (hy : Good y e m) (h : n + m < 1000000) : (∀ z ∈ [x, y], okX z) ∧ [x, y].length < 1000000 ∧ (flatK k [x, y]).length < 1000000 := by
  refine ⟨fun z hz => ?_, by simp, ?_⟩
  · simp only [List.mem_cons, List.not_mem_nil, or_false] at hz
    rcases hz with rfl | rfl
    · exact hx.ok
    · exact hy.ok
  · have h1 := len_szs (flat1 k x)
    have h2 := len_szs (flat1 k y)
    have h3 := flat1_sz k x
    have h4 := flat1_sz k y
    have h5 := hx.sz
    have h6 := hy.sz
    simp only [flatK, List.flatMap_cons, List.flatMap_nil, List.append_nil, List.length_append]
    omega
end Go.Hk
/- Ranges over functions and over maps, ars rules of a walk; a round that writes into a Builder. -/
namespace Go.Hk
section
variable {P : Program} {Γ : Gam} {mu : Bool} {n hk tk : Nat} {Q : Exit → St → Prop} {e : List (Nat × AVal)} {m : AMem}
theorem w_rangeFunc {g : Operand} {ps : Array Tmp} {asg body : Code} (f : FuncId) (first caps : List AVal) (r : AVal) (m2 : AMem) (st : LoopState) (pend : Option Code) (hg : ev e g = .fn f first caps)
    (hc : RCall P f (first ++ [.yld m.H.length] ++ caps) ⟨m.H ++ [.loop .ready none ps asg body e Γ.nt], m.T⟩ r m2)
    (h2 : m2.H[m.H.length]? = some (.loop st pend ps asg body e Γ.nt)) (hst : st ≠ .busy)
    (hq : pendQ Q pend ⟨e, { m2 with H := m2.H.set m.H.length (.loop .exhausted pend ps asg body e Γ.nt) }⟩) : W P Γ mu hk tk (.rangeFunc g ps asg body) Q ⟨e, m⟩ := by
  rw [W_eq]
  exact ⟨f, first, caps, r, m2, st, pend, hg, hc, h2, hst, hq⟩
theorem w_region_3 {x : List (Nat × OT)} {L : List (FuncId × Con)} {l : List Oper} {id : Nat} {d : Bool} {t : OT} {l1 l2 l3 : List Oper} (h : (gamx x L).ex id = some t) (ho : (orders t).map (pickO' l.toArray) = [some l1, some l2, some l3])
    (h1 : regW (opsO P (gamx x L) mu (prep l l1) (some ⟨e, m⟩)) Q) (h2 : regW (opsO P (gamx x L) mu (prep l l2) (some ⟨e, m⟩)) Q) (h3 : regW (opsO P (gamx x L) mu (prep l l3) (some ⟨e, m⟩)) Q) : W P (gamx x L) mu hk tk (.region id l.toArray d) Q ⟨e, m⟩ := by
  rw [W_eq]
  have hn : (gamx x L).nx id = false := rfl
  simp only [W0, h, hn, Bool.false_eq_true, if_false]
  refine otW_orders t _ fun p hp => ?_
  have hm : pickO' l.toArray p ∈ [some l1, some l2, some l3] := by rw [← ho]; exact List.mem_map.2 ⟨p, hp, rfl⟩
  simp only [List.mem_cons, List.not_mem_nil, or_false] at hm
  have key : ∀ l', regW (opsO P (gamx x L) mu (prep l l') (some ⟨e, m⟩)) Q → pickO' l.toArray p = some l' → ∃ l'' s', pickO' l.toArray p = some l'' ∧ aops P (gamx x L) mu l.toArray l'' ⟨e, m⟩ = some s' ∧ Q .normal s' := fun l' h' hp' => by
    rw [← aops_opsO] at h'
    cases hs : aops P (gamx x L) mu l.toArray l' ⟨e, m⟩ with
    | none => rw [hs] at h'; exact h'.elim
    | some s' => rw [hs] at h'; exact ⟨l', s', hp', hs, h'⟩
  rcases hm with hm | hm | hm
  · exact key _ h1 hm
  · exact key _ h2 hm
  · exact key _ h3 hm
theorem e_w_regionx2 {k k2 : Nat} {t t2 : OT} {L : List (FuncId × Con)} {l : List Oper} {id : Nat} {d : Bool} (h : ¬ id = k) (h2 : ¬ id = k2) : W P (gamx [(k, t), (k2, t2)] L) mu hk tk (.region id l.toArray d) Q ⟨e, m⟩ = regW (opsO P (gamx [(k, t), (k2, t2)] L) mu (prep l l) (some ⟨e, m⟩)) Q := e_w_region0 (by
  have h1 : (k == id) = false := beq_eq_false_iff_ne.2 fun h' => h h'.symm
  have h3 : (k2 == id) = false := beq_eq_false_iff_ne.2 fun h' => h2 h'.symm
  simp only [gamx, List.find?, h1, h3]; rfl) rfl
attribute [go_sem] e_w_regionx2
theorem YCall.of_w {b : Nat} {args : List AVal} {m' : AMem} {r : AVal} {pend : Option Code} {ps : Array Tmp} {asg body : Code} {env : List (Nat × AVal)} (hΓ : Sound P Γ) (hm : P.follows .mixedOrders = true)
    (hb : m.H[b]? = some (.loop .ready pend ps asg body env n)) (hps : args.length = ps.size) (hpn : ps.toList.all (decide <| · < n) = true) (ha : rf asg = false) (hbd : rf body = false) (hH : m.H.length ≤ m'.H.length) (hT : m.T.length ≤ m'.T.length)
    (ok1 : codeOKx Γ mu n asg = true) (ok2 : codeOKx Γ mu n body = true)
    (h : W P Γ mu m.H.length m.T.length asg (fun x s1 => x = .normal ∧ s1.m.H[b]? = some (.loop .ready pend ps asg body env n) ∧
      W P Γ mu m.H.length m.T.length body (roundQ b ps asg body env n r m') ⟨s1.env, { s1.m with H := s1.m.H.set b (.loop .busy pend ps asg body env n) }⟩) ⟨bindP ps.toList args env, m⟩) : YCall P b args m r m' :=
  YCall.of_body hb hps hpn ha hbd hH hT (AWp.w hΓ hm asg _ _ ok1 (h.mono fun x s1 h' => ⟨h'.1, h'.2.1, AWp.w hΓ hm body _ _ ok2 h'.2.2⟩))
end
end Go.Hk
namespace Go.Hk
end Go.Hk
