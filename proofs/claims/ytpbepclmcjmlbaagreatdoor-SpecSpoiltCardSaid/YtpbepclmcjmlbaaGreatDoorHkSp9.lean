/- Layer 6, the plain law: rules by numbers. -/
import Derived.Test.YtpbepclmcjmlbaaGreatDoorHkPh
import Derived.Test.YtpbepclmcjmlbaaGreatDoorHkSp3
import Derived.Test.YtpbepclmcjmlbaaGreatDoorHkMk
set_option linter.unusedSimpArgs false
set_option linter.unusedVariables false
namespace Go.Hk
def nulX : Rx := .mk 0 0 0 0 []
def smallM (L : List UInt8) (a : Nat) : Rx × Nat := (if 12 < size (rxM L 2 a).1 then chX 98 else (rxM L 2 a).1, (rxM L 2 a).2)
/-- The numbers from nought on that are drawn. -/
def cdT (L : List UInt8) (a i : Nat) : List Int := ((List.range i).filter fun c => decide (pickV L (a + c) 2 = 1)).map fun c => ((c : Nat) : Int)
def actM (L : List UInt8) (n a : Nat) : Int × Int × Nat := if pickV L a 3 = 2 then (3, (pickV L (a + 1) n : Nat), a + 2) else (1 + (pickV L a 3 : Nat), 0, a + 1)
def whM (L : List UInt8) (n a : Nat) : Bool × List Int × Nat := if pickV L a 4 = 0 then (true, [], a + 1) else if pickV L a 4 = 1 then (false, cdT L (a + 1) n, a + 1 + n) else (false, [], a + 1)
def rxsM (L : List UInt8) (p : Bool) (a : Nat) : Bool × Rx × Rx × Bool × Nat :=
  if pickV L a 12 = 11 then (false, nulX, nulX, true, a + 1)
  else if p = true then (false, (smallM L (a + 1)).1, nulX, false, (smallM L (a + 1)).2)
  else if pickV L ((smallM L (a + 1)).2 + 1) 5 = 4 then (decide (pickV L (smallM L (a + 1)).2 6 = 5), (smallM L (a + 1)).1, (smallM L ((smallM L (a + 1)).2 + 2)).1, false, (smallM L ((smallM L (a + 1)).2 + 2)).2)
  else (decide (pickV L (smallM L (a + 1)).2 6 = 5), (smallM L (a + 1)).1, nulX, false, (smallM L (a + 1)).2 + 2)
/-- A rule, and the next place. -/
def ruM (L : List UInt8) (n : Nat) (p : Bool) (a : Nat) : Ru × Nat :=
  let A := actM L n a
  let W := whM L n A.2.2
  let X := rxsM L p W.2.2
  (⟨W.2.1, W.1, X.1, X.2.1, X.2.2.1, X.2.2.2.1, A.1, A.2.1⟩, X.2.2.2.2)
/-- Some rules, and the next place. -/
def rusM (L : List UInt8) (n : Nat) (p : Bool) (a : Nat) : Nat → List Ru × Nat
  | 0 => ([], a)
  | i + 1 => ((rusM L n p a i).1 ++ [(ruM L n p (rusM L n p a i).2).1], (ruM L n p (rusM L n p a i).2).2)
def cd3 (x : Bool) : List Cd := [⟨initial, false⟩, ⟨[66], x⟩, ⟨[67, 95, 49], false⟩]
/-- Rules out of a row of bytes. -/
def spM (M : List UInt8) (p : Bool) : Sp := ⟨(cd3 (decide (pickV M 1 2 = 1))).take (1 + pickV M 0 3), decide (0 < pickV M 2 3), (rusM M (1 + pickV M 0 3) p 4 (1 + pickV M 3 4)).1⟩
def madeS (L : List UInt8) (p : Bool) : Sp := spM (L.take 60) p
/-! ### Where it ends -/
theorem smallM_at (L : List UInt8) (a : Nat) : a < (smallM L a).2 ∧ (smallM L a).2 ≤ a + 32 := by
  have := rxM_at L 2 a
  simp only [smallM]; omega
theorem ruM_at (L : List UInt8) (n : Nat) (p : Bool) (a : Nat) : a < (ruM L n p a).2 ∧ (ruM L n p a).2 ≤ a + 80 + n := by
  have h1 : a < (actM L n a).2.2 ∧ (actM L n a).2.2 ≤ a + 2 := by unfold actM; split <;> simp
  have h2 : (actM L n a).2.2 < (whM L n (actM L n a).2.2).2.2 ∧ (whM L n (actM L n a).2.2).2.2 ≤ (actM L n a).2.2 + 1 + n := by unfold whM; split; simp; split <;> simp <;> omega
  have h3 : ∀ b, b < (rxsM L p b).2.2.2.2 ∧ (rxsM L p b).2.2.2.2 ≤ b + 70 := by
    intro b
    have s1 := smallM_at L (b + 1)
    have s2 := smallM_at L ((smallM L (b + 1)).2 + 2)
    unfold rxsM
    split
    · simp
    · split
      · simp only; omega
      · split <;> simp only <;> omega
  have := h3 (whM L n (actM L n a).2.2).2.2
  simp only [ruM]; omega
theorem rusM_at (L : List UInt8) (n : Nat) (p : Bool) (a : Nat) : ∀ i, (rusM L n p a i).2 ≤ a + i * (80 + n) ∧ (rusM L n p a i).1.length = i
  | 0 => by simp [rusM]
  | i + 1 => by
    have h := rusM_at L n p a i
    have := ruM_at L n p (rusM L n p a i).2
    simp only [rusM, List.length_append, List.length_cons, List.length_nil, h.2, and_true]
    rw [Nat.succ_mul]; omega
theorem cdT_zero {L : List UInt8} {a : Nat} : cdT L a 0 = [] := rfl
theorem cdT_in {L : List UInt8} {a i : Nat} (h : pickV L (a + i) 2 = 1) : cdT L a (i + 1) = cdT L a i ++ [(i : Int)] := by
  simp [cdT, List.range_succ, List.filter_append, h]
theorem cdT_out {L : List UInt8} {a i : Nat} (h : ¬ pickV L (a + i) 2 = 1) : cdT L a (i + 1) = cdT L a i := by
  simp [cdT, List.range_succ, List.filter_append, h]
theorem cdT_len {L : List UInt8} {a i : Nat} : (cdT L a i).length ≤ i := by
  simp only [cdT, List.length_map]
  exact Nat.le_trans (List.length_filter_le ..) (by simp)
/-! ### What is made may be -/
theorem smallM_good (L : List UInt8) (a : Nat) : okX (smallM L a).1 ∧ rightT (smallM L a).1 = true := by
  have key : ∀ x : Rx, okX x → right x 20 = true → sz x ≤ 7 → size x ≤ 12 → okX x ∧ rightT x = true := by
    intro x h1 h2 h3 h4
    refine ⟨h1, ?_⟩
    have := nodes_sz x 1000 (by omega)
    simp only [rightT, h2, Bool.true_and, Bool.and_eq_true, decide_eq_true_eq]
    omega
  have hg := rxM_good L 2 a (by omega)
  unfold smallM
  simp only
  split
  · refine key _ (chX_ok _) (leaf_right rfl (chX_own (by omega)) (by omega)) (by decide) ?_
    rw [size_eq]; decide
  · exact key _ hg.ok (right_mono _ _ _ (by decide) hg.right) hg.sz (by omega)
theorem nulX_okX : okX nulX := noX_okX
theorem rise_append {n : Int} : ∀ (l : List Int) (a c : Int), rise n a l = true → (∀ x ∈ l, x < c) → a < c → c < n → rise n a (l ++ [c]) = true
  | [], a, c, _, _, h1, h2 => by simp [rise, h1, h2]
  | x :: l, a, c, h, hx, h1, h2 => by
    simp only [rise, Bool.and_eq_true, decide_eq_true_eq, List.cons_append] at h ⊢
    exact ⟨h.1, rise_append l x c h.2 (fun y hy => hx y (by simp [hy])) (hx x (by simp)) h2⟩
theorem cdT_rise {L : List UInt8} {a n : Nat} : ∀ i, i ≤ n → rise n (-1) (cdT L a i) = true ∧ ∀ x ∈ cdT L a i, x < (i : Nat)
  | 0, _ => ⟨rfl, fun x hx => by cases hx⟩
  | i + 1, hi => by
    obtain ⟨h1, h2⟩ := cdT_rise (L := L) (a := a) (n := n) i (by omega)
    by_cases h : pickV L (a + i) 2 = 1
    · rw [cdT_in h]
      refine ⟨rise_append (n := (n : Int)) (cdT L a i) (-1) ((i : Nat) : Int) h1 h2 (by omega) (by omega), fun x hx => ?_⟩
      rcases List.mem_append.1 hx with hx | hx
      · have := h2 x hx; omega
      · simp at hx; omega
    · rw [cdT_out h]
      exact ⟨h1, fun x hx => by have := h2 x hx; omega⟩
theorem ruM_good (L : List UInt8) (n : Nat) (p : Bool) (a : Nat) (hn : 0 < n) (hn8 : n ≤ 8) : okRu (ruM L n p a).1 ∧ ruleB n (ruM L n p a).1 = true := by
  have hw : (whM L n (actM L n a).2.2).2.1.length ≤ n ∧ rise n (-1) (whM L n (actM L n a).2.2).2.1 = true ∧ ((whM L n (actM L n a).2.2).1 = true → (whM L n (actM L n a).2.2).2.1 = []) := by
    unfold whM
    split
    · exact ⟨by simp, rfl, fun _ => rfl⟩
    · split
      · exact ⟨cdT_len, (cdT_rise n (Nat.le_refl _)).1, fun h => by cases h⟩
      · exact ⟨by simp, rfl, fun _ => rfl⟩
  have ha : ((actM L n a).1 = 3 ∧ 0 ≤ (actM L n a).2.1 ∧ (actM L n a).2.1 < n) ∨ (((actM L n a).1 = 1 ∨ (actM L n a).1 = 2) ∧ (actM L n a).2.1 = 0) := by
    unfold actM
    have h1 := pickV_lt (L := L) (a := a + 1) hn
    have h3 := pickV_lt (L := L) (a := a) (n := 3) (by omega)
    split
    · exact .inl ⟨rfl, Int.natCast_nonneg _, by simpa using h1⟩
    · rename_i hk
      refine .inr ⟨?_, rfl⟩
      show (1 + ((pickV L a 3 : Nat) : Int) = 1) ∨ (1 + ((pickV L a 3 : Nat) : Int) = 2)
      omega
  have hx : ∀ b, okX (rxsM L p b).2.1 ∧ okX (rxsM L p b).2.2.1 ∧ (((rxsM L p b).2.2.2.1 = true ∧ (rxsM L p b).1 = false ∧ (rxsM L p b).2.1 = nulX ∧ (rxsM L p b).2.2.1 = nulX) ∨ ((rxsM L p b).2.2.2.1 = false ∧ rightT (rxsM L p b).2.1 = true ∧ ((rxsM L p b).2.2.1 = nulX ∨ rightT (rxsM L p b).2.2.1 = true))) := by
    intro b
    have s1 := smallM_good L (b + 1)
    have s2 := smallM_good L ((smallM L (b + 1)).2 + 2)
    unfold rxsM
    split
    · exact ⟨nulX_okX, nulX_okX, .inl ⟨rfl, rfl, rfl, rfl⟩⟩
    · split
      · exact ⟨s1.1, nulX_okX, .inr ⟨rfl, s1.2, .inl rfl⟩⟩
      · split
        · exact ⟨s1.1, s2.1, .inr ⟨rfl, s1.2, .inr s2.2⟩⟩
        · exact ⟨s1.1, nulX_okX, .inr ⟨rfl, s1.2, .inl rfl⟩⟩
  obtain ⟨x1, x2, x3⟩ := hx (whM L n (actM L n a).2.2).2.2
  have hnn : noneX nulX = true := rfl
  simp only [ruM]
  refine ⟨⟨?_, x1, x2⟩, ?_⟩
  · show (whM L n (actM L n a).2.2).2.1.length < 9223372036854775808
    have := hw.1; omega
  · simp only [ruleB, Bool.and_eq_true]
    refine ⟨⟨?_, ?_⟩, ?_⟩
    · simp only [holdsB, hw.2.1, Bool.true_and, Bool.or_eq_true, Bool.not_eq_true', decide_eq_true_eq]
      cases hb : (whM L n (actM L n a).2.2).1
      · exact .inl rfl
      · right; rw [hw.2.2 hb]; rfl
    · simp only [doesB]
      rcases ha with ⟨h1, h2, h3⟩ | ⟨h1, h2⟩
      · simp [h1, h2, h3]
      · rcases h1 with h1 | h1 <;> simp [h1, h2]
    · simp only [matchB]
      rcases x3 with ⟨h1, h2, h3, h4⟩ | ⟨h1, h2, h3⟩
      · simp [h1, h2, h3, h4, hnn]
      · rcases h3 with h3 | h3 <;> simp [h1, h2, h3, hnn]
theorem rusM_good (L : List UInt8) (n : Nat) (p : Bool) (a : Nat) (hn : 0 < n) (hn8 : n ≤ 8) : ∀ i, ∀ r ∈ (rusM L n p a i).1, okRu r ∧ ruleB n r = true
  | 0, r, h => by cases h
  | i + 1, r, h => by
    simp only [rusM] at h
    rcases List.mem_append.1 h with h | h
    · exact rusM_good L n p a hn hn8 i r h
    · simp only [List.mem_cons, List.not_mem_nil, or_false] at h
      subst h
      exact ruM_good L n p _ hn hn8
theorem madeS_good (L : List UInt8) (p : Bool) : okSp (madeS L p) ∧ rightS (madeS L p) = true := by
  unfold madeS
  generalize L.take 60 = M
  have h3 := pickV_lt (L := M) (a := 0) (n := 3) (by omega)
  have h4 := pickV_lt (L := M) (a := 3) (n := 4) (by omega)
  have hr := rusM_good M (1 + pickV M 0 3) p 4 (by omega) (by omega) (1 + pickV M 3 4)
  have hl := (rusM_at M (1 + pickV M 0 3) p 4 (1 + pickV M 3 4)).2
  have hc : ∀ (x : Bool) (k : Nat), k < 3 → ((cd3 x).take (1 + k)).length = 1 + k ∧ (((cd3 x).take (1 + k)).getD 0 ⟨[], false⟩).name = initial ∧ (((cd3 x).take (1 + k)).getD 0 ⟨[], false⟩).ex = false ∧ ((cd3 x).take (1 + k)).all (fun c => nameB c.name) = true ∧ diff (((cd3 x).take (1 + k)).map Cd.name) = true := by
    intro x k hk
    have : k = 0 ∨ k = 1 ∨ k = 2 := by omega
    rcases this with rfl | rfl | rfl <;> cases x <;> decide +kernel
  obtain ⟨c1, c2, c3, c4, c5⟩ := hc (decide (pickV M 1 2 = 1)) (pickV M 0 3) h3
  have hrs : rightS (spM M p) = true := by
    simp only [rightS, spM, c1, c2, c3, c4, c5, hl, Bool.and_eq_true, decide_eq_true_eq, List.all_eq_true, Bool.not_false, and_true, true_and]
    refine ⟨⟨⟨by omega, by omega⟩, by omega⟩, fun r h => ?_⟩
    exact (hr r h).2
  refine ⟨⟨?_, ?_, ?_, fun r h => (hr r h).1⟩, hrs⟩
  · simp only [spM, c1]; omega
  · simp only [spM, hl]; omega
  · intro c hm
    have := (rightS_spec hrs).2.2.2.1 c hm
    omega
end Go.Hk
