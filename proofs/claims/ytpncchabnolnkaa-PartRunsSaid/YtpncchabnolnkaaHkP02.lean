/- Classes by a relation: the first of its kind gives a class its number. -/
import Derived.Test.YtpncchabnolnkaaHkX
set_option linter.unusedSimpArgs false
set_option linter.unusedSectionVars false
namespace Go.Hk

/-! ### Where a number stands -/
/-- Where a number stands first: -1 where it stands nowhere. -/
def idx (m : List Int) (k : Int) : Int := match m with
  | [] => -1
  | x :: l => if k = x then 0 else (if idx l k < 0 then -1 else idx l k + 1)
theorem idx_bound (k : Int) : ∀ m : List Int, -1 ≤ idx m k ∧ idx m k < m.length
  | [] => by simp [idx]
  | x :: l => by
    have := idx_bound k l
    simp only [idx, List.length_cons]
    split
    · omega
    · split <;> omega
/-- What stands first, from a place on. -/
theorem idx_drop (k : Int) : ∀ (m : List Int) (i : Nat), (∀ j, j < i → m[j]? ≠ some k) → i < m.length → m[i]? = some k → idx m k = i
  | [], i, _, h, _ => by simp at h
  | x :: l, 0, _, _, h => by
    simp only [List.getElem?_cons_zero, Option.some.injEq] at h
    simp [idx, h]
  | x :: l, i + 1, h, hl, hk => by
    have h0 : ¬ k = x := fun e => h 0 (by omega) (by simp [e])
    have := idx_drop k l i (fun j hj => by have := h (j + 1) (by omega); simpa using this) (by simpa using hl) (by simpa using hk)
    simp only [idx, h0, if_false, this]
    rw [if_neg (by omega)]
    omega
theorem idx_none (k : Int) : ∀ m : List Int, (∀ j, j < m.length → m[j]? ≠ some k) → idx m k = -1
  | [], _ => rfl
  | x :: l, h => by
    have h0 : ¬ k = x := fun e => h 0 (by simp) (by simp [e])
    have := idx_none k l fun j hj => by have := h (j + 1) (by simpa using hj); simpa using this
    simp [idx, h0, this]
/-- What is there has a first place. -/
theorem idx_mem (k : Int) : ∀ (m : List Int) (j : Nat), m[j]? = some k → ∃ i : Nat, idx m k = i ∧ i ≤ j ∧ m[i]? = some k
  | [], j, h => by simp at h
  | x :: l, j, h => by
    by_cases h0 : k = x
    · exact ⟨0, by simp [idx, h0], Nat.zero_le _, by simp [h0]⟩
    · cases j with
      | zero => simp at h; exact absurd h.symm h0
      | succ j =>
        obtain ⟨i, h1, h2, h3⟩ := idx_mem k l j (by simpa using h)
        refine ⟨i + 1, ?_, by omega, by simpa using h3⟩
        simp only [idx, h0, if_false, h1]
        rw [if_neg (by omega)]; rfl
def mstep (a b : Int) : Int := if b > a then b else a
def mx : List Int → Int
  | [] => 0
  | x :: l => l.foldl mstep x
theorem mx_add {l : List Int} (h : l ≠ []) (b : Int) : mx (l ++ [b]) = mstep (mx l) b := by
  cases l with
  | nil => exact absurd rfl h
  | cons x l => simp [mx]
/-- The least places of the first so many classes. -/
def leastN (m : List Int) : Nat → List Int
  | 0 => []
  | n + 1 => leastN m n ++ [idx m (n : Int)]
theorem leastN_len (m : List Int) (n : Nat) : (leastN m n).length = n := by
  induction n with
  | zero => rfl
  | succ n ih => simp [leastN, ih]
theorem leastN_get (m : List Int) {k : Nat} : ∀ {n : Nat}, k < n → (leastN m n)[k]? = some (idx m k)
  | n + 1, h => by
    simp only [leastN]
    by_cases hk : k < n
    · rw [List.getElem?_append_left (by rw [leastN_len]; exact hk), leastN_get m hk]
    · have : k = n := by omega
      subst this
      rw [List.getElem?_append_right (by rw [leastN_len]; exact Nat.le_refl _), leastN_len]
      simp

/-! ### Classes -/
section
variable {R R' : Nat → Nat → Bool}
/-- The first from a on, of so many, that is like b. -/
def firstR (R : Nat → Nat → Bool) (b : Nat) : Nat → Nat → Option Nat
  | _, 0 => none
  | a, n + 1 => if R a b then some a else firstR R b (a + 1) n
theorem firstR_some {b : Nat} : ∀ (n a c : Nat), firstR R b a n = some c → a ≤ c ∧ c < a + n ∧ R c b = true
  | 0, a, c, h => by simp [firstR] at h
  | n + 1, a, c, h => by
    simp only [firstR] at h
    split at h
    · rename_i hs; cases h; exact ⟨Nat.le_refl _, by omega, hs⟩
    · have := firstR_some n (a + 1) c h; exact ⟨by omega, by omega, this.2.2⟩
theorem firstR_none {b : Nat} : ∀ (n a : Nat), firstR R b a n = none → ∀ c, a ≤ c → c < a + n → R c b = false
  | 0, a, _, c, h1, h2 => by omega
  | n + 1, a, h, c, h1, h2 => by
    simp only [firstR] at h
    split at h
    · cases h
    · rename_i hs
      by_cases hc : c = a
      · subst hc; simpa using hs
      · exact firstR_none n (a + 1) h c (by omega) (by omega)
theorem firstR_is {b c : Nat} (n a : Nat) (h1 : a ≤ c) (h2 : c < a + n) (h3 : R c b = true) : ∃ d, firstR R b a n = some d := by
  cases h : firstR R b a n with
  | some d => exact ⟨d, rfl⟩
  | none => have := firstR_none n a h c h1 h2; rw [this] at h3; cases h3
theorem firstR_congr {b : Nat} : ∀ (n a : Nat), (∀ c, a ≤ c → c < a + n → R c b = R' c b) → firstR R b a n = firstR R' b a n
  | 0, a, _ => rfl
  | n + 1, a, h => by
    simp only [firstR, h a (Nat.le_refl _) (by omega), firstR_congr n (a + 1) fun c h1 h2 => h c (by omega) (by omega)]
/-- Classes of those below b, and how many there are. -/
def cn (R : Nat → Nat → Bool) : Nat → List Int × Nat
  | 0 => ([], 0)
  | b + 1 => match firstR R b 0 b with
    | some a => ((cn R b).1 ++ [(cn R b).1[a]?.getD 0], (cn R b).2)
    | none => ((cn R b).1 ++ [((cn R b).2 : Int)], (cn R b).2 + 1)
theorem cn_len (R : Nat → Nat → Bool) : ∀ b, (cn R b).1.length = b
  | 0 => rfl
  | b + 1 => by
    have := cn_len R b
    simp only [cn]
    split <;> simp [this]
theorem cn_cnt (R : Nat → Nat → Bool) : ∀ b, (cn R b).2 ≤ b
  | 0 => Nat.le_refl _
  | b + 1 => by
    have := cn_cnt R b
    simp only [cn]
    split <;> simp <;> omega
theorem cn_old {b a : Nat} (h : firstR R b 0 b = some a) : cn R (b + 1) = ((cn R b).1 ++ [(cn R b).1[a]?.getD 0], (cn R b).2) := by simp only [cn, h]
theorem cn_new {b : Nat} (h : firstR R b 0 b = none) : cn R (b + 1) = ((cn R b).1 ++ [((cn R b).2 : Int)], (cn R b).2 + 1) := by simp only [cn, h]
theorem cn_mem (R : Nat → Nat → Bool) : ∀ b, ∀ x ∈ (cn R b).1, 0 ≤ x ∧ x < (cn R b).2
  | 0, x, hx => by simp [cn] at hx
  | b + 1, x, hx => by
    have ih := cn_mem R b
    have hlen := cn_len R b
    simp only [cn] at hx ⊢
    split at hx
    · rename_i a ha
      simp only [ha]
      rcases List.mem_append.1 hx with h | h
      · exact ih x h
      · simp only [List.mem_singleton] at h
        subst h
        by_cases hab : a < (cn R b).1.length
        · have := ih _ (List.getElem_mem hab)
          simpa [hab] using this
        · exact absurd (firstR_some b 0 a ha).2.1 (by omega)
    · rename_i ha
      simp only [ha]
      rcases List.mem_append.1 hx with h | h
      · have := ih x h; omega
      · simp only [List.mem_singleton] at h
        omega
theorem cn_pre : ∀ (n b : Nat), b ≤ n → (cn R b).1 = (cn R n).1.take b
  | 0, b, h => by
    have : b = 0 := by omega
    subst this; rfl
  | n + 1, b, h => by
    by_cases hb : b = n + 1
    · subst hb; rw [List.take_of_length_le (by rw [cn_len]; exact Nat.le_refl _)]
    · have hb : b ≤ n := by omega
      rw [cn_pre n b hb]
      have hl := cn_len R n
      simp only [cn]
      split <;> rw [List.take_append_of_le_length (by omega)]
theorem cn_at {n b : Nat} (h : b < n) : (cn R n).1[b]? = (cn R (b + 1)).1[b]? := by
  rw [cn_pre n (b + 1) h, List.getElem?_take, if_pos (by omega)]
theorem cn_congr : ∀ n, (∀ a b, a < n → b < n → R a b = R' a b) → cn R n = cn R' n
  | 0, _ => rfl
  | n + 1, h => by
    simp only [cn, cn_congr n fun a b ha hb => h a b (by omega) (by omega), firstR_congr n 0 fun c _ hc => h c n (by omega) (by omega)]
/-- Two are in one class just if they are alike. -/
theorem cn_iff {n : Nat} (hr : ∀ a, a < n → R a a = true) (hs : ∀ a b, a < n → b < n → R a b = true → R b a = true) (ht : ∀ a b c, a < n → b < n → c < n → R a b = true → R b c = true → R a c = true) :
    ∀ k, k ≤ n → ∀ a b, a < k → b < k → ((cn R k).1[a]? = (cn R k).1[b]? ↔ R a b = true)
  | 0, _, a, b, ha, _ => by omega
  | k + 1, hk, a, b, ha, hb => by
    have ih := cn_iff hr hs ht k (by omega)
    have hl := cn_len R k
    have hm := cn_mem R k
    -- what the new one is
    have hnew : ∀ c, c < k → ((cn R (k + 1)).1[c]? = (cn R (k + 1)).1[k]? ↔ R c k = true) := by
      intro c hc
      cases hf : firstR R k 0 k with
      | some d =>
        obtain ⟨_, hd, hR⟩ := firstR_some k 0 d hf
        have hd : d < k := by omega
        rw [cn_old hf]
        simp only
        rw [List.getElem?_append_left (by omega), List.getElem?_append_right (by omega), hl, Nat.sub_self]
        have hd' : (cn R k).1[d]? = some ((cn R k).1[d]?.getD 0) := by simp [hl, hd]
        simp only [List.getElem?_cons_zero]
        rw [← hd', ih c d hc hd]
        constructor
        · exact fun h => ht c d k (by omega) (by omega) (by omega) h hR
        · exact fun h => ht c k d (by omega) (by omega) (by omega) h (hs d k (by omega) (by omega) hR)
      | none =>
        have hR := firstR_none k 0 hf c (Nat.zero_le _) (by omega)
        rw [cn_new hf]
        simp only
        rw [List.getElem?_append_left (by omega), List.getElem?_append_right (by omega), hl, Nat.sub_self]
        simp only [List.getElem?_cons_zero, hR, Bool.false_eq_true, iff_false]
        intro he
        have := hm _ (List.mem_of_getElem? he)
        omega
    by_cases ha' : a = k <;> by_cases hb' : b = k
    · rw [ha', hb']; simp [hr k (by omega)]
    · subst ha'
      rw [eq_comm, hnew b (by omega)]
      exact ⟨hs b a (by omega) (by omega), hs a b (by omega) (by omega)⟩
    · subst hb'; exact hnew a (by omega)
    · rw [cn_at (n := k + 1) ha, cn_at (n := k + 1) hb]
      have := ih a b (by omega) (by omega)
      rw [cn_at (n := k) (b := a) (by omega), cn_at (n := k) (b := b) (by omega)] at this
      exact this
/-- Every number below the count is one's class. -/
theorem cn_all : ∀ (n : Nat) (k : Nat), k < (cn R n).2 → ∃ j : Nat, j < n ∧ (cn R n).1[j]? = some (k : Int)
  | 0, k, h => by simp [cn] at h
  | n + 1, k, h => by
    have hl := cn_len R n
    cases hf : firstR R n 0 n with
    | some d =>
      rw [cn_old hf] at h ⊢
      obtain ⟨j, h1, h2⟩ := cn_all n k h
      exact ⟨j, by omega, by simp only; rw [List.getElem?_append_left (by omega)]; exact h2⟩
    | none =>
      rw [cn_new hf] at h ⊢
      by_cases hk : k < (cn R n).2
      · obtain ⟨j, h1, h2⟩ := cn_all n k hk
        exact ⟨j, by omega, by simp only; rw [List.getElem?_append_left (by omega)]; exact h2⟩
      · simp only at h
        have : k = (cn R n).2 := by omega
        subst this
        exact ⟨n, by omega, by simp only; rw [List.getElem?_append_right (by omega), hl, Nat.sub_self]; simp⟩
/-- A class comes behind the one ahead of it. -/
theorem cn_ahead : ∀ (n j k : Nat), (cn R n).1[j]? = some ((k + 1 : Nat) : Int) → ∃ i, i < j ∧ (cn R n).1[i]? = some (k : Int)
  | 0, j, k, h => by simp [cn] at h
  | n + 1, j, k, h => by
    have hl := cn_len R n
    have hj : j < n + 1 := by
      have := (List.getElem?_eq_some_iff.1 h).1
      rw [cn_len] at this; exact this
    by_cases hjn : j < n
    · rw [cn_at (n := n + 1) hj, ← cn_at (n := n) hjn] at h
      obtain ⟨i, h1, h2⟩ := cn_ahead n j k h
      exact ⟨i, h1, by rw [cn_at (n := n + 1) (by omega), ← cn_at (n := n) (by omega)]; exact h2⟩
    · have hjn : j = n := by omega
      subst hjn
      have up : ∀ i, i < j → (cn R j).1[i]? = some (k : Int) → ∃ i, i < j ∧ (cn R (j + 1)).1[i]? = some (k : Int) := fun i h1 h2 =>
        ⟨i, h1, by rw [cn_at (n := j + 1) (by omega), ← cn_at (n := j) h1]; exact h2⟩
      cases hf : firstR R j 0 j with
      | some d =>
        obtain ⟨_, hd, _⟩ := firstR_some j 0 d hf
        rw [cn_old hf] at h
        simp only at h
        rw [List.getElem?_append_right (by omega), hl, Nat.sub_self] at h
        simp only [List.getElem?_cons_zero, Option.some.injEq] at h
        have hd' : (cn R j).1[d]? = some ((k + 1 : Nat) : Int) := by
          rw [← h]; simp [hl, show d < j by omega]
        obtain ⟨i, h1, h2⟩ := cn_ahead j d k hd'
        exact up i (by omega) h2
      | none =>
        rw [cn_new hf] at h
        simp only at h
        rw [List.getElem?_append_right (by omega), hl, Nat.sub_self] at h
        simp only [List.getElem?_cons_zero, Option.some.injEq] at h
        obtain ⟨i, h1, h2⟩ := cn_all (R := R) j k (by omega)
        exact up i h1 h2
theorem cn_max : ∀ n, 0 < n → mx (cn R n).1 = ((cn R n).2 : Int) - 1
  | 1, _ => by simp [cn, firstR, mx]
  | n + 2, _ => by
    have ih := cn_max (n + 1) (by omega)
    have hl := cn_len R (n + 1)
    have hne : (cn R (n + 1)).1 ≠ [] := fun h => by rw [h] at hl; simp at hl
    cases hf : firstR R (n + 1) 0 (n + 1) with
    | some d =>
      obtain ⟨_, hd, _⟩ := firstR_some _ 0 d hf
      rw [cn_old hf]
      simp only
      rw [mx_add hne, ih]
      have := cn_mem R (n + 1) ((cn R (n + 1)).1[d]?.getD 0) (by
        rw [List.getElem?_eq_getElem (by omega)]; exact List.getElem_mem _)
      simp only [mstep]
      rw [if_neg (by omega)]
    | none =>
      rw [cn_new hf]
      simp only
      rw [mx_add hne, ih]
      simp only [mstep]
      rw [if_pos (by omega)]
      omega
/-- What tells more apart has no fewer classes. -/
theorem cn_le : ∀ n, (∀ a b, a < n → b < n → R a b = true → R' a b = true) → (cn R' n).2 ≤ (cn R n).2
  | 0, _ => Nat.le_refl _
  | n + 1, h => by
    have ih := cn_le n fun a b ha hb => h a b (by omega) (by omega)
    cases hf : firstR R n 0 n with
    | none =>
      rw [cn_new hf]
      cases hf' : firstR R' n 0 n with
      | none => rw [cn_new hf']; simp only; omega
      | some d => rw [cn_old hf']; simp only; omega
    | some d =>
      obtain ⟨_, hd, hR⟩ := firstR_some n 0 d hf
      obtain ⟨d', hd'⟩ := firstR_is (R := R') (b := n) n 0 (Nat.zero_le d) (by omega) (h d n (by omega) (by omega) hR)
      rw [cn_old hf, cn_old hd']
      exact ih

/-! ### A map of the keys that came first -/
variable {κ : Type} [DecidableEq κ]
def ents (key : Nat → κ) (R : Nat → Nat → Bool) : Nat → List (κ × Int)
  | 0 => []
  | b + 1 => match firstR R b 0 b with
    | some _ => ents key R b
    | none => ents key R b ++ [(key b, ((cn R b).2 : Int))]
theorem ents_len (key : Nat → κ) (R : Nat → Nat → Bool) : ∀ b, (ents key R b).length = (cn R b).2
  | 0 => rfl
  | b + 1 => by
    simp only [ents, cn]
    split <;> simp [ents_len key R b]
theorem firstR_last {b : Nat} : ∀ (n a : Nat), firstR R b a (n + 1) = match firstR R b a n with | some d => some d | none => if R (a + n) b then some (a + n) else none
  | 0, a => by simp [firstR]
  | n + 1, a => by
    rw [firstR]
    rw [show firstR R b a (n + 1) = if R a b then some a else firstR R b (a + 1) n from rfl]
    split
    · rfl
    · rw [firstR_last n (a + 1), show a + 1 + n = a + (n + 1) by omega]
theorem ents_get {key : Nat → κ} (hk : ∀ a b, R a b = decide (key a = key b)) : ∀ (b c : Nat), mget (ents key R b) (key c) = (firstR R c 0 b).map fun a => (cn R b).1[a]?.getD 0
  | 0, c => rfl
  | b + 1, c => by
    have ih := ents_get hk b c
    have hl := cn_len R b
    rw [firstR_last]
    cases hf : firstR R b 0 b with
    | some d =>
      obtain ⟨_, hd, hR⟩ := firstR_some b 0 d hf
      rw [cn_old hf]
      simp only [ents, hf, ih]
      cases hc : firstR R c 0 b with
      | some e =>
        obtain ⟨_, he, _⟩ := firstR_some b 0 e hc
        simp only [Option.map_some]
        rw [List.getElem?_append_left (by omega)]
      | none =>
        have h0 : R (0 + b) c = false := by
          rw [Nat.zero_add, hk, decide_eq_false_iff_not]
          intro e
          have h1 := firstR_none b 0 hc d (Nat.zero_le _) (by omega)
          rw [hk, decide_eq_false_iff_not] at h1
          rw [hk, decide_eq_true_eq] at hR
          exact h1 (hR.trans e)
        rw [Nat.zero_add] at h0
        simp [h0]
    | none =>
      rw [cn_new hf]
      simp only [ents, hf, mget_append, ih]
      cases hc : firstR R c 0 b with
      | some e =>
        obtain ⟨_, he, _⟩ := firstR_some b 0 e hc
        simp only [Option.map_some]
        rw [List.getElem?_append_left (by omega)]
      | none =>
        simp only [Option.map_none, mget, Nat.zero_add, hk]
        by_cases hkc : key c = key b
        · rw [if_pos hkc]
          simp only [hkc, decide_true, if_true, Option.map_some]
          rw [List.getElem?_append_right (by omega), hl, Nat.sub_self]
          rfl
        · rw [if_neg hkc]
          have : ¬ key b = key c := fun e => hkc e.symm
          simp [this]
end
end Go.Hk
