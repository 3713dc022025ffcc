/- Layer 3, the plain law: a text is of one pattern only. -/
import Derived.Test.YtpbepclmcjmlbaaDoorHkPg
set_option linter.unusedSimpArgs false
set_option linter.unusedVariables false
namespace Go.Hk
/-! ### Sets -/
theorem runs_bit (A : Nat) : ∀ (n i : Nat), i < n → (A.testBit i = true ↔ ∃ p ∈ runsN A n, p.1 ≤ (i : Int) ∧ (i : Int) ≤ p.2)
  | 0, i, h => by omega
  | n + 1, i, h => by
    have ih := runs_bit A n
    cases hb : A.testBit n with
    | false =>
      have hr : runsN A (n + 1) = runsN A n := by simp [runsN, hb]
      rw [hr]
      by_cases hi : i = n
      · subst hi
        constructor
        · intro h'; rw [hb] at h'; cases h'
        · rintro ⟨p, hp, h1, h2⟩
          have := (runs_lt hp).2.2
          omega
      · exact ih i (by omega)
    | true =>
      by_cases hp : 0 < n ∧ A.testBit (n - 1) = true
      · obtain ⟨l, q, hl⟩ := (runsN_last A n).1 hp
        have hr : runsN A (n + 1) = l ++ [(q, (n : Int))] := by
          have : runsN A (n + 1) = setLast (runsN A n) n := by simp [runsN, hb, hp]
          rw [this, hl, setLast_add]
        have hq := runs_lt (A := A) (n := n) (p := (q, (n : Int) - 1)) (by rw [hl]; simp)
        simp only at hq
        rw [hr]
        by_cases hi : i = n
        · subst hi
          exact ⟨fun _ => ⟨(q, (i : Int)), by simp, by simp only; omega, by simp only; omega⟩, fun _ => hb⟩
        · rw [ih i (by omega), hl]
          constructor
          · rintro ⟨p, hp, h1, h2⟩
            rcases List.mem_append.1 hp with hp | hp
            · exact ⟨p, List.mem_append_left _ hp, h1, h2⟩
            · have hp := List.mem_singleton.1 hp
              subst hp
              exact ⟨(q, (n : Int)), by simp, h1, by simp only; omega⟩
          · rintro ⟨p, hp, h1, h2⟩
            rcases List.mem_append.1 hp with hp | hp
            · exact ⟨p, List.mem_append_left _ hp, h1, h2⟩
            · have hp := List.mem_singleton.1 hp
              subst hp
              exact ⟨(q, (n : Int) - 1), by simp, h1, by simp only; omega⟩
      · have hr : runsN A (n + 1) = runsN A n ++ [((n : Int), (n : Int))] := by
          simp only [runsN, hb, if_true, if_neg hp]
        rw [hr]
        by_cases hi : i = n
        · subst hi
          exact ⟨fun _ => ⟨((i : Int), (i : Int)), by simp, by simp, by simp⟩, fun _ => hb⟩
        · rw [ih i (by omega)]
          constructor
          · rintro ⟨p, hp, h1, h2⟩
            exact ⟨p, List.mem_append_left _ hp, h1, h2⟩
          · rintro ⟨p, hp, h1, h2⟩
            rcases List.mem_append.1 hp with hp | hp
            · exact ⟨p, hp, h1, h2⟩
            · have hp := List.mem_singleton.1 hp
              subst hp
              simp only at h1 h2
              omega
theorem runs_inj {A B : Nat} (hA : A < 2 ^ 256) (hB : B < 2 ^ 256) (h : runsN A 256 = runsN B 256) : A = B := by
  apply Nat.eq_of_testBit_eq
  intro i
  by_cases hi : i < 256
  · have a := runs_bit A 256 i hi
    have b := runs_bit B 256 i hi
    rw [h] at a
    have := a.trans b.symm
    cases h1 : A.testBit i <;> cases h2 : B.testBit i <;> simp_all
  · have hp : (2 : Nat) ^ 256 ≤ 2 ^ i := Nat.pow_le_pow_right (by omega) (by omega)
    rw [Nat.testBit_lt_two_pow (by omega), Nat.testBit_lt_two_pow (by omega)]
/-! ### Bytes of a set -/
/-- How a byte's text begins: a plain byte or a backslash. -/
def cSt (b : UInt8) : Prop := plain b.toNat = true ∨ b = 92
instance (b : UInt8) : Decidable (cSt b) := inferInstanceAs (Decidable (_ ∨ _))
theorem cSt_ne : ∀ b : UInt8, cSt b → b ≠ 91 ∧ b ≠ 93 ∧ b ≠ 45 ∧ b ≠ 40 ∧ b ≠ 41 ∧ b ≠ 124 ∧ b ≠ 123 := by
  have : ∀ k : Fin 256, cSt (UInt8.ofNat k.val) → UInt8.ofNat k.val ≠ 91 ∧ UInt8.ofNat k.val ≠ 93 ∧ UInt8.ofNat k.val ≠ 45 ∧ UInt8.ofNat k.val ≠ 40 ∧ UInt8.ofNat k.val ≠ 41 ∧ UInt8.ofNat k.val ≠ 124 ∧ UInt8.ofNat k.val ≠ 123 := by decide +kernel
  intro b
  have h := this ⟨b.toNat, b.toNat_lt⟩
  simpa using h
theorem charT_st {n : Nat} (h : n < 256) : ∃ b t, charT n = b :: t ∧ cSt b := by
  have : ∀ k : Fin 256, cSt ((charT k.val).headD 0) := by decide +kernel
  have h1 := this ⟨n, h⟩
  have h2 := charT_len n
  simp only at h1
  cases hc : charT n with
  | nil => rw [hc] at h2; simp at h2
  | cons b t => rw [hc] at h1; exact ⟨b, t, rfl, h1⟩
theorem hexd_inj : ∀ i j : Fin 16, hexd i.val = hexd j.val → i = j := by decide +kernel
theorem charT_inj {n m : Nat} {u v : List UInt8} (hn : n < 256) (hm : m < 256) (h : charT n ++ u = charT m ++ v) : n = m ∧ u = v := by
  have np : ∀ k : Fin 256, plain k.val = true → UInt8.ofNat k.val ≠ 92 := by decide +kernel
  unfold charT at h
  split at h
  · rename_i p1
    split at h
    · simp only [List.cons_append, List.nil_append, List.cons.injEq] at h
      have := congrArg UInt8.toNat h.1
      simp at this
      exact ⟨by omega, h.2⟩
    · simp only [List.cons_append, List.nil_append, List.cons.injEq] at h
      exact absurd h.1 (np ⟨n, hn⟩ p1)
  · split at h
    · rename_i p2
      simp only [List.cons_append, List.nil_append, List.cons.injEq] at h
      exact absurd h.1.symm (np ⟨m, hm⟩ p2)
    · simp only [List.cons_append, List.nil_append, List.cons.injEq, true_and] at h
      have h1 := hexd_inj ⟨n / 16, by omega⟩ ⟨m / 16, by omega⟩ h.1
      have h2 := hexd_inj ⟨n % 16, by omega⟩ ⟨m % 16, by omega⟩ h.2.1
      simp only [Fin.mk.injEq] at h1 h2
      exact ⟨by omega, h.2.2⟩
def byteI (n : Int) : Prop := 0 ≤ n ∧ n ≤ 255
theorem charI_st {n : Int} (h : byteI n) : ∃ b t, charI n = b :: t ∧ cSt b := charT_st (by have := h.1; have := h.2; omega)
theorem charI_inj {n m : Int} {u v : List UInt8} (hn : byteI n) (hm : byteI m) (h : charI n ++ u = charI m ++ v) : n = m ∧ u = v := by
  obtain ⟨a, b⟩ := hn
  obtain ⟨c, d⟩ := hm
  obtain ⟨e, f⟩ := charT_inj (by omega) (by omega) h
  exact ⟨by omega, f⟩
def okRun (p : Int × Int) : Prop := 0 ≤ p.1 ∧ p.1 ≤ p.2 ∧ p.2 ≤ 255
theorem rT_st {l : List (Int × Int)} {u : List UInt8} (hl : ∀ p ∈ l, okRun p) : ∃ b t, rT l ++ 93 :: u = b :: t ∧ b ≠ 45 := by
  cases l with
  | nil => exact ⟨93, u, rfl, by decide⟩
  | cons p l =>
    have hp := hl p (by simp)
    unfold okRun at hp
    obtain ⟨b, t, e, hb⟩ := charI_st (n := p.1) ⟨by omega, by omega⟩
    refine ⟨b, ?_, ?_, (cSt_ne b hb).2.2.1⟩
    · exact (t ++ ((if p.1 < p.2 then 45 :: charI p.2 else []) ++ (rT l ++ 93 :: u)))
    · simp only [rT, runT]
      split <;> simp [e]
theorem rT_inj : ∀ (l r : List (Int × Int)) (u v : List UInt8), (∀ p ∈ l, okRun p) → (∀ p ∈ r, okRun p) → rT l ++ 93 :: u = rT r ++ 93 :: v → l = r ∧ u = v := by
  intro l
  induction l with
  | nil =>
    intro r u v hl hr h
    cases r with
    | nil => simpa [rT] using h
    | cons q r =>
      have hq := hr q (by simp)
      unfold okRun at hq
      obtain ⟨b, t, e, hb⟩ := charI_st (n := q.1) ⟨by omega, by omega⟩
      have hb := (cSt_ne b hb).2.1
      simp only [rT, runT, List.nil_append] at h
      split at h <;> simp [e] at h <;> exact absurd h.1.symm hb
  | cons p l ih =>
    intro r u v hl hr h
    have hp := hl p (by simp)
    unfold okRun at hp
    obtain ⟨b, t, e, hb⟩ := charI_st (n := p.1) ⟨by omega, by omega⟩
    cases r with
    | nil =>
      have hb := (cSt_ne b hb).2.1
      simp only [rT, runT, List.nil_append] at h
      split at h <;> simp [e] at h <;> exact absurd h.1 hb
    | cons q r =>
      have hq := hr q (by simp)
      unfold okRun at hq
      have hl' : ∀ p ∈ l, okRun p := fun z hz => hl z (by simp [hz])
      have hr' : ∀ p ∈ r, okRun p := fun z hz => hr z (by simp [hz])
      obtain ⟨b1, t1, e1, n1⟩ := rT_st (u := u) hl'
      obtain ⟨b2, t2, e2, n2⟩ := rT_st (u := v) hr'
      simp only [rT, runT, List.append_assoc] at h
      split at h
      · split at h
        · simp only [List.append_assoc] at h
          obtain ⟨k1, h⟩ := charI_inj ⟨by omega, by omega⟩ ⟨by omega, by omega⟩ h
          have h := List.append_cancel_left h
          obtain ⟨k2, h⟩ := charI_inj ⟨by omega, by omega⟩ ⟨by omega, by omega⟩ h
          obtain ⟨rfl, rfl⟩ := ih r u v hl' hr' h
          exact ⟨by rw [Prod.ext k1 k2], rfl⟩
        · simp only [List.append_assoc] at h
          obtain ⟨k1, h⟩ := charI_inj ⟨by omega, by omega⟩ ⟨by omega, by omega⟩ h
          rw [e2] at h
          simp only [List.cons_append, List.nil_append, List.cons.injEq] at h
          exact absurd h.1.symm n2
      · split at h
        · simp only [List.append_assoc] at h
          obtain ⟨k1, h⟩ := charI_inj ⟨by omega, by omega⟩ ⟨by omega, by omega⟩ h
          rw [e1] at h
          simp only [List.cons_append, List.nil_append, List.cons.injEq] at h
          exact absurd h.1 n1
        · obtain ⟨k1, h⟩ := charI_inj ⟨by omega, by omega⟩ ⟨by omega, by omega⟩ h
          obtain ⟨rfl, rfl⟩ := ih r u v hl' hr' h
          exact ⟨by rw [Prod.ext k1 (show p.2 = q.2 by omega)], rfl⟩
theorem runs_ok {A : Nat} : ∀ p ∈ runsN A 256, okRun p := fun p hp => by have := runs_lt hp; unfold okRun; omega
/-- A set's text: one byte, or a list in brackets. -/
theorem btext_cases {A : Nat} (hA : A < 2 ^ 256) (h : A ≠ 0) : (∃ n, byteI n ∧ runsN A 256 = [(n, n)] ∧ btext A = charI n) ∨ btext A = 91 :: (rT (runsN A 256) ++ [93]) := by
  unfold btext
  split
  · rename_i hc
    left
    obtain ⟨h1, h2⟩ := hc
    match hr : runsN A 256, h1 with
    | [(a, b)], _ =>
      rw [hr] at h2
      simp only [List.getD_cons_zero] at h2 ⊢
      subst h2
      have := runs_ok (A := A) (a, a) (by rw [hr]; simp)
      unfold okRun at this
      exact ⟨a, ⟨by simp only at this; omega, by simp only at this; omega⟩, rfl, rfl⟩
  · right; simp
theorem btext_inj {A B : Nat} {u v : List UInt8} (hA : A < 2 ^ 256) (hB : B < 2 ^ 256) (h0 : A ≠ 0) (h1 : B ≠ 0) (h : btext A ++ u = btext B ++ v) : A = B ∧ u = v := by
  rcases btext_cases hA h0 with ⟨n, bn, rn, tn⟩ | ta <;> rcases btext_cases hB h1 with ⟨m, bm, rm, tm⟩ | tb
  · rw [tn, tm] at h
    obtain ⟨rfl, rfl⟩ := charI_inj bn bm h
    exact ⟨runs_inj hA hB (by rw [rn, rm]), rfl⟩
  · obtain ⟨b, t, e, hb⟩ := charI_st bn
    rw [tn, tb, e] at h
    simp only [List.cons_append, List.cons.injEq] at h
    exact absurd h.1 (cSt_ne b hb).1
  · obtain ⟨b, t, e, hb⟩ := charI_st bm
    rw [tm, ta, e] at h
    simp only [List.cons_append, List.cons.injEq] at h
    exact absurd h.1.symm (cSt_ne b hb).1
  · rw [ta, tb] at h
    simp only [List.cons_append, List.cons.injEq, true_and, List.append_assoc, List.nil_append] at h
    obtain ⟨e, f⟩ := rT_inj _ _ u v runs_ok runs_ok h
    exact ⟨runs_inj hA hB e, f⟩
/-- How a text may begin. -/
def sOk (b : UInt8) : Prop := b ≠ 41 ∧ b ≠ 124 ∧ b ≠ 123
theorem btext_st {A : Nat} (hA : A < 2 ^ 256) (h : A ≠ 0) : ∃ b t, btext A = b :: t ∧ b ≠ 40 ∧ sOk b := by
  rcases btext_cases hA h with ⟨n, bn, rn, tn⟩ | ta
  · obtain ⟨b, t, e, hb⟩ := charI_st bn
    have := cSt_ne b hb
    exact ⟨b, t, by rw [tn, e], this.2.2.2.1, this.2.2.2.2.1, this.2.2.2.2.2.1, this.2.2.2.2.2.2⟩
  · exact ⟨91, _, ta, by decide, by decide, by decide, by decide⟩
/-! ### Numbers -/
theorem u8n {k : Nat} (h : k < 256) : (UInt8.ofNat k).toNat = k := by simp; omega
theorem itoa_inj {n m : Int} {c : UInt8} {u v : List UInt8} (hn : 0 ≤ n ∧ n ≤ 20) (hm : 0 ≤ m ∧ m ≤ 20) (hc : c = 44 ∨ c = 125) (h : itoa n ++ c :: u = itoa m ++ c :: v) : n = m ∧ u = v := by
  have hd : ∀ k : Nat, k < 10 → c ≠ UInt8.ofNat (48 + k) := fun k hk e => by
    have := congrArg UInt8.toNat e
    rw [u8n (by omega)] at this
    rcases hc with rfl | rfl
    · have e : (44 : UInt8).toNat = 44 := rfl
      omega
    · have e : (125 : UInt8).toNat = 125 := rfl
      omega
  have ue : ∀ i j : Nat, i < 256 → j < 256 → UInt8.ofNat i = UInt8.ofNat j → i = j := fun i j hi hj e => by
    have := congrArg UInt8.toNat e
    rwa [u8n hi, u8n hj] at this
  unfold itoa at h
  split at h <;> split at h <;> simp only [List.cons_append, List.nil_append, List.cons.injEq] at h
  · have := ue _ _ (by omega) (by omega) h.1
    exact ⟨by omega, h.2.2⟩
  · exact absurd h.2.1 (hd _ (by omega))
  · exact absurd h.2.1.symm (hd _ (by omega))
  · have h1 := ue _ _ (by omega) (by omega) h.1
    have h2 := ue _ _ (by omega) (by omega) h.2.1
    exact ⟨by omega, h.2.2.2⟩
theorem itoa_st {n : Int} (hn : 0 ≤ n ∧ n ≤ 20) : ∃ b t, itoa n = b :: t ∧ b ≠ 125 := by
  have hd : ∀ k : Nat, k < 10 → UInt8.ofNat (48 + k) ≠ 125 := fun k hk e => by
    have := congrArg UInt8.toNat e
    rw [u8n (by omega)] at this
    have e : (125 : UInt8).toNat = 125 := rfl
    omega
  unfold itoa
  split
  · exact ⟨_, _, rfl, hd _ (by omega)⟩
  · exact ⟨_, _, rfl, hd _ (by omega)⟩
theorem times_of {lo hi : Int} (h : times lo hi = true) : (0 ≤ lo ∧ lo ≤ 20) ∧ (hi = -1 ∨ (0 ≤ hi ∧ hi ≤ 20)) := by
  unfold times imax at h
  simp only [Bool.and_eq_true, Bool.or_eq_true, decide_eq_true_eq] at h
  refine ⟨h.1, ?_⟩
  rcases h.2 with h2 | h2
  · exact .inl h2
  · right
    have := h2.1
    split at this <;> omega
theorem tail5_inj {lo hi lo' hi' : Int} {u v : List UInt8} (h1 : times lo hi = true) (h2 : times lo' hi' = true) (h : tail5 lo hi ++ u = tail5 lo' hi' ++ v) : lo = lo' ∧ hi = hi' ∧ u = v := by
  obtain ⟨a1, b1⟩ := times_of h1
  obtain ⟨a2, b2⟩ := times_of h2
  simp only [tail5, List.append_assoc, List.cons_append, List.nil_append, List.cons.injEq, true_and] at h
  obtain ⟨e0, h0⟩ := itoa_inj a1 a2 (.inl rfl) h
  clear h
  subst e0
  refine ⟨rfl, ?_⟩
  split at h0 <;> split at h0
  · exact itoa_inj (by omega) (by omega) (.inr rfl) h0
  · obtain ⟨b, t, e, hb⟩ := itoa_st (n := hi) (by omega)
    rw [e] at h0
    simp only [List.cons_append, List.nil_append, List.cons.injEq] at h0
    exact absurd h0.1 hb
  · obtain ⟨b, t, e, hb⟩ := itoa_st (n := hi') (by omega)
    rw [e] at h0
    simp only [List.cons_append, List.nil_append, List.cons.injEq] at h0
    exact absurd h0.1.symm hb
  · simp only [List.nil_append, List.cons.injEq, true_and] at h0
    exact ⟨by omega, h0⟩
/-! ### Patterns -/
/-- Patterns of any depth that may be, with sets of bytes. -/
structure WR (x : Rx) : Prop where
  ok : okX x
  r : inR x
theorem WR.kid {x y : Rx} (h : WR x) (hy : y ∈ x.l) : WR y := ⟨h.ok.mem hy, h.r.kid hy⟩
theorem inR.zero {x : Rx} (h : inR x) : x.k ≠ 5 → x.lo = 0 ∧ x.hi = 0 ∧ (x.k = 1 → x.s = 0) := by
  intro h5
  have h := h.own
  unfold Hk.own at h
  rw [if_neg h5] at h
  split at h
  · simp only [Bool.and_eq_true, decide_eq_true_eq] at h
    refine ⟨h.1.1.2, h.1.2, fun h1 => ?_⟩
    have := h.1.1.1
    rw [h1] at this
    simpa using this
  · split at h
    · simp only [Bool.and_eq_true, decide_eq_true_eq] at h
      exact ⟨h.1.1.2, h.1.2, fun h1 => by omega⟩
    · cases h
/-- The kinds. -/
theorem WR.cases {x : Rx} (h : WR x) : x = .mk 1 0 0 0 [] ∨ (∃ s, x = .mk 2 s 0 0 [] ∧ s ≠ 0 ∧ s < 2 ^ 256) ∨ (∃ l, x = .mk 3 0 0 0 l ∧ 2 ≤ l.length ∧ ∀ y ∈ l, WR y ∧ y.k ≠ 3) ∨ (∃ l, x = .mk 4 0 0 0 l ∧ 2 ≤ l.length ∧ ∀ y ∈ l, WR y ∧ y.k ≠ 4) ∨ (∃ lo hi y, x = .mk 5 0 lo hi [y] ∧ times lo hi = true ∧ WR y) := by
  have hz := h.r.zero
  have hk := fun y hy => h.kid (y := y) hy
  have hu := fun y hy => h.r.unlike (y := y) hy
  have hs := h.ok.st
  have hc := h.r.cases
  obtain ⟨k, s, lo, hi, l⟩ := x
  simp only [Rx.k, Rx.s, Rx.lo, Rx.hi, Rx.l] at *
  have hk5 : ∀ y ∈ l, k ≠ 5 → y.k ≠ k := fun y hy h5 he => by
    have := hu y hy
    simp [unlike, he, h5] at this
  rcases hc with ⟨h1, h2⟩ | ⟨h1, h2, h3⟩ | ⟨h1, h2, h3⟩ | ⟨h1, h2, h3, y, h4⟩
  · subst h1; subst h2
    obtain ⟨rfl, rfl, h3⟩ := hz (by decide)
    obtain rfl := h3 rfl
    exact .inl rfl
  · subst h1; subst h3
    obtain ⟨rfl, rfl, _⟩ := hz (by decide)
    exact .inr (.inl ⟨s, rfl, h2, hs⟩)
  · subst h2
    rcases h1 with rfl | rfl
    · obtain ⟨rfl, rfl, _⟩ := hz (by decide)
      exact .inr (.inr (.inl ⟨l, rfl, h3, fun y hy => ⟨hk y hy, hk5 y hy (by decide)⟩⟩))
    · obtain ⟨rfl, rfl, _⟩ := hz (by decide)
      exact .inr (.inr (.inr (.inl ⟨l, rfl, h3, fun y hy => ⟨hk y hy, hk5 y hy (by decide)⟩⟩)))
  · subst h1; subst h2; subst h4
    exact .inr (.inr (.inr (.inr ⟨lo, hi, y, rfl, h3, hk y (by simp)⟩)))
theorem text_1 : text (.mk 1 0 0 0 []) = [40, 41] := by rw [text_eq]; rfl
theorem text_2 {s : Nat} : text (.mk 2 s 0 0 []) = btext s := by rw [text_eq]; rfl
theorem text_3 {l : List Rx} : text (.mk 3 0 0 0 l) = joinS [] (l.map (kidT 3)) := by rw [text_eq]; rfl
theorem text_4 {l : List Rx} : text (.mk 4 0 0 0 l) = joinS [124] (l.map (kidT 4)) := by rw [text_eq]; rfl
theorem text_5 {lo hi : Int} {y : Rx} : text (.mk 5 0 lo hi [y]) = kidT 5 y ++ tail5 lo hi := by
  rw [text_eq]
  simp only [Rx.k, Rx.l, Rx.lo, Rx.hi, List.map_cons, List.map_nil, joinS, jt, List.append_nil]
  rfl
theorem join_nil : ∀ l : List (List UInt8), joinS [] l = l.flatten := by
  have key : ∀ l : List (List UInt8), jt [] l = l.flatten := by
    intro l
    induction l with
    | nil => rfl
    | cons x l ih => rw [jt, ih]; rfl
  intro l
  cases l with
  | nil => rfl
  | cons x l => rw [joinS, key]; rfl
theorem kid_st {k : Int} {y : Rx} (h : ∃ b t, text y = b :: t ∧ sOk b) : ∃ b t, kidT k y = b :: t ∧ sOk b := by
  unfold kidT par
  split
  · exact ⟨40, _, rfl, by unfold sOk; decide⟩
  · exact h
theorem text_st (x : Rx) (h : WR x) : ∃ b t, text x = b :: t ∧ sOk b := by
  induction x using Rx.ind with
  | h x ih =>
    rcases h.cases with rfl | ⟨s, rfl, hs, hb⟩ | ⟨l, rfl, hl, hk⟩ | ⟨l, rfl, hl, hk⟩ | ⟨lo, hi, y, rfl, ht, hy⟩
    · exact ⟨40, [41], text_1, by unfold sOk; decide⟩
    · obtain ⟨b, t, e, _, h2⟩ := btext_st hb hs
      exact ⟨b, t, by rw [text_2, e], h2⟩
    · match l, hl with
      | y :: l, _ =>
        obtain ⟨b, t, e, h2⟩ := kid_st (k := 3) (ih y (by simp [Rx.l]) (hk y (by simp)).1)
        exact ⟨b, _, by rw [text_3, List.map_cons, joinS, e]; rfl, h2⟩
    · match l, hl with
      | y :: l, _ =>
        obtain ⟨b, t, e, h2⟩ := kid_st (k := 4) (ih y (by simp [Rx.l]) (hk y (by simp)).1)
        exact ⟨b, _, by rw [text_4, List.map_cons, joinS, e]; rfl, h2⟩
    · obtain ⟨b, t, e, h2⟩ := kid_st (k := 5) (ih y (by simp [Rx.l]) hy)
      exact ⟨b, _, by rw [text_5, e]; rfl, h2⟩
/-! What may follow. -/
def ends (u : List UInt8) : Prop := u = [] ∨ ∃ r, u = 41 :: r
def endQ (u : List UInt8) : Prop := u = [] ∨ (∃ r, u = 41 :: r) ∨ ∃ r, u = 124 :: r
def noB (u : List UInt8) : Prop := ∀ r, u ≠ 123 :: r
theorem endQ.noB {u : List UInt8} (h : endQ u) : noB u := by
  intro r e
  rcases h with h | ⟨q, h⟩ | ⟨q, h⟩ <;> rw [h] at e <;> cases e
theorem endQ.not {u t : List UInt8} {b : UInt8} (h : endQ u) (hb : sOk b) : u ≠ b :: t := by
  intro e
  rcases h with h | ⟨q, h⟩ | ⟨q, h⟩ <;> rw [h] at e
  · cases e
  · exact hb.1 (List.cons.inj e).1.symm
  · exact hb.2.1 (List.cons.inj e).1.symm
/-- An atom's text ends where it ends. -/
def PA (x : Rx) : Prop := ∀ y u v, WR y → kidT 5 x ++ u = kidT 5 y ++ v → x = y ∧ u = v
def PU (x : Rx) : Prop := ∀ y u v, WR y → y.k ≠ 3 → noB u → noB v → kidT 3 x ++ u = kidT 3 y ++ v → x = y ∧ u = v
def PQ (x : Rx) : Prop := ∀ y u v, WR y → y.k ≠ 4 → endQ u → endQ v → text x ++ u = text y ++ v → x = y ∧ u = v
def PT (x : Rx) : Prop := ∀ y u v, WR y → ends u → ends v → text x ++ u = text y ++ v → x = y ∧ u = v
theorem kid5_1 : kidT 5 (.mk 1 0 0 0 []) = [40, 41] := by rw [kidT, text_1]; rfl
theorem kid5_2 {s : Nat} : kidT 5 (.mk 2 s 0 0 []) = btext s := by rw [kidT, text_2]; rfl
theorem kid5_3 {x : Rx} (h : 3 ≤ x.k) : kidT 5 x = 40 :: (text x ++ [41]) := by
  have : pk 5 x.k = true := by simp [pk, h]
  rw [kidT, this]; rfl
/-- The kinds of atoms. -/
theorem WR.atom {x : Rx} (h : WR x) : x = .mk 1 0 0 0 [] ∨ (∃ s, x = .mk 2 s 0 0 [] ∧ s ≠ 0 ∧ s < 2 ^ 256) ∨ 3 ≤ x.k := by
  rcases h.cases with h | h | ⟨l, rfl, hl, hk⟩ | ⟨l, rfl, hl, hk⟩ | ⟨lo, hi, y, rfl, ht, hy⟩
  · exact .inl h
  · exact .inr (.inl h)
  all_goals exact .inr (.inr (by simp only [Rx.k]; decide))
theorem PA12 {x : Rx} (hx : WR x) (h : ¬ 3 ≤ x.k) : PA x := by
  intro y u v hy he
  rcases hx.atom with rfl | ⟨s, rfl, hs, hb⟩ | h3
  · rw [kid5_1] at he
    rcases hy.atom with rfl | ⟨t, rfl, ht, hc⟩ | h3
    · rw [kid5_1] at he
      exact ⟨rfl, by simpa using he⟩
    · obtain ⟨b, r, e, hb, _⟩ := btext_st hc ht
      rw [kid5_2, e] at he
      exact absurd (List.cons.inj he).1.symm hb
    · obtain ⟨b, r, e, hb⟩ := text_st y hy
      rw [kid5_3 h3, e] at he
      simp only [List.cons_append, List.nil_append, List.cons.injEq, true_and] at he
      exact absurd he.1.symm hb.1
  · obtain ⟨b, r, e, hb1, _⟩ := btext_st hb hs
    rcases hy.atom with rfl | ⟨t, rfl, ht, hc⟩ | h3
    · rw [kid5_1, kid5_2, e] at he
      exact absurd (List.cons.inj he).1 hb1
    · rw [kid5_2, kid5_2] at he
      obtain ⟨rfl, e2⟩ := btext_inj hb hc hs ht he
      exact ⟨rfl, e2⟩
    · rw [kid5_2, kid5_3 h3, e] at he
      exact absurd (List.cons.inj he).1 hb1
  · exact absurd h3 h
theorem PA3 {x : Rx} (hx : WR x) (h : 3 ≤ x.k) (ht : PT x) : PA x := by
  intro y u v hy he
  obtain ⟨b, r, e, hb⟩ := text_st x hx
  rcases hy.atom with rfl | ⟨t, rfl, ht, hc⟩ | h3
  · rw [kid5_1, kid5_3 h, e] at he
    simp only [List.cons_append, List.nil_append, List.cons.injEq, true_and] at he
    exact absurd he.1 hb.1
  · obtain ⟨c, q, e2, hc1, _⟩ := btext_st hc ht
    rw [kid5_2, kid5_3 h, e2] at he
    exact absurd (List.cons.inj he).1.symm hc1
  · rw [kid5_3 h, kid5_3 h3] at he
    simp only [List.cons_append, List.append_assoc, List.nil_append, List.cons.injEq, true_and] at he
    obtain ⟨e1, e2⟩ := ht y _ _ hy (.inr ⟨u, rfl⟩) (.inr ⟨v, rfl⟩) he
    exact ⟨e1, (List.cons.inj e2).2⟩
/-! Units: an atom, or one that is repeated. -/
theorem WR.unit {x : Rx} (h : WR x) (h3 : x.k ≠ 3) : (∃ lo hi y, x = .mk 5 0 lo hi [y] ∧ times lo hi = true ∧ WR y ∧ kidT 3 x = kidT 5 y ++ tail5 lo hi) ∨ (x.k ≠ 5 ∧ kidT 3 x = kidT 5 x) := by
  rcases h.cases with rfl | ⟨s, rfl, hs, hb⟩ | ⟨l, rfl, hl, hk⟩ | ⟨l, rfl, hl, hk⟩ | ⟨lo, hi, y, rfl, ht, hy⟩
  · exact .inr ⟨by decide, rfl⟩
  · exact .inr ⟨by simp [Rx.k], rfl⟩
  · exact absurd rfl h3
  · exact .inr ⟨by simp [Rx.k], rfl⟩
  · refine .inl ⟨lo, hi, y, rfl, ht, hy, ?_⟩
    rw [← text_5]; rfl
theorem tail_b {lo hi : Int} {u : List UInt8} : ∃ r, tail5 lo hi ++ u = 123 :: r := ⟨_, rfl⟩
theorem unit_inj {x : Rx} (hx : WR x) (h3 : x.k ≠ 3) (h1 : x.k ≠ 5 → PA x) (h2 : ∀ z ∈ x.l, PA z) : PU x := by
  intro y u v hy hy3 hu hv he
  rcases hx.unit h3 with ⟨lo, hi, z, rfl, ht, hz, e⟩ | ⟨hx5, e⟩ <;> rcases hy.unit hy3 with ⟨lo', hi', z', rfl, ht', hz', e'⟩ | ⟨hy5, e'⟩
  · rw [e, e', List.append_assoc, List.append_assoc] at he
    obtain ⟨e1, e2⟩ := h2 z (by simp [Rx.l]) z' _ _ hz' he
    obtain ⟨f1, f2, f3⟩ := tail5_inj ht ht' e2
    exact ⟨by rw [e1, f1, f2], f3⟩
  · rw [e, e', List.append_assoc] at he
    obtain ⟨r, hr⟩ := tail_b (lo := lo) (hi := hi) (u := u)
    exact absurd ((h2 z (by simp [Rx.l]) y _ _ hy he).2.symm.trans hr) (hv r)
  · rw [e, e', List.append_assoc] at he
    obtain ⟨r, hr⟩ := tail_b (lo := lo') (hi := hi') (u := v)
    exact absurd ((h1 hx5 z' _ _ hz' he).2.trans hr) (hu r)
  · rw [e, e'] at he
    exact h1 hx5 y _ _ hy he
/-! Units one behind the other. -/
def cat (l : List Rx) : List UInt8 := (l.map (kidT 3)).flatten
theorem cat_cons {x : Rx} {l : List Rx} {u : List UInt8} : cat (x :: l) ++ u = kidT 3 x ++ (cat l ++ u) := by simp [cat]
theorem cat_noB {l : List Rx} {u : List UInt8} (hl : ∀ y ∈ l, WR y) (hu : endQ u) : noB (cat l ++ u) := by
  cases l with
  | nil => exact hu.noB
  | cons x l =>
    obtain ⟨b, t, e, hb⟩ := kid_st (k := 3) (text_st x (hl x (by simp)))
    rw [cat_cons, e]
    intro r h
    exact hb.2.2 (List.cons.inj h).1
theorem cat_inj : ∀ (l r : List Rx) (u v : List UInt8), (∀ x ∈ l, WR x ∧ PU x) → (∀ y ∈ r, WR y ∧ y.k ≠ 3) → endQ u → endQ v → cat l ++ u = cat r ++ v → l = r ∧ u = v
  | [], [], u, v, _, _, _, _, h => ⟨rfl, h⟩
  | [], y :: r, u, v, hl, hr, hu, hv, h => by
    obtain ⟨b, t, e, hb⟩ := kid_st (k := 3) (text_st y (hr y (by simp)).1)
    rw [cat_cons, e] at h
    exact absurd h (hu.not hb)
  | x :: l, [], u, v, hl, hr, hu, hv, h => by
    obtain ⟨b, t, e, hb⟩ := kid_st (k := 3) (text_st x (hl x (by simp)).1)
    rw [cat_cons, e] at h
    exact absurd h.symm (hv.not hb)
  | x :: l, y :: r, u, v, hl, hr, hu, hv, h => by
    rw [cat_cons, cat_cons] at h
    have hl' : ∀ x ∈ l, WR x ∧ PU x := fun z hz => hl z (by simp [hz])
    have hr' : ∀ y ∈ r, WR y ∧ y.k ≠ 3 := fun z hz => hr z (by simp [hz])
    obtain ⟨e, h⟩ := (hl x (by simp)).2 y _ _ (hr y (by simp)).1 (hr y (by simp)).2 (cat_noB (fun z hz => (hl' z hz).1) hu) (cat_noB (fun z hz => (hr' z hz).1) hv) h
    obtain ⟨e2, e3⟩ := cat_inj l r u v hl' hr' hu hv h
    exact ⟨by rw [e, e2], e3⟩
def units (x : Rx) : List Rx := if x.k = 3 then x.l else [x]
theorem WR.units {x : Rx} (h : WR x) (h4 : x.k ≠ 4) : text x = cat (Hk.units x) ∧ ∀ y ∈ Hk.units x, WR y ∧ y.k ≠ 3 := by
  rcases h.cases with rfl | ⟨s, rfl, hs, hb⟩ | ⟨l, rfl, hl, hk⟩ | ⟨l, rfl, hl, hk⟩ | ⟨lo, hi, y, rfl, ht, hy⟩
  · refine ⟨?_, ?_⟩
    · simp [Hk.units, Rx.k, cat, kidT, pk, par]
    · intro y hy; simp [Hk.units, Rx.k] at hy; subst hy; exact ⟨h, by decide⟩
  · refine ⟨?_, ?_⟩
    · simp [Hk.units, Rx.k, cat, kidT, pk, par]
    · intro y hy; simp [Hk.units, Rx.k] at hy; subst hy; exact ⟨h, by simp [Rx.k]⟩
  · refine ⟨?_, ?_⟩
    · rw [text_3, join_nil]; rfl
    · exact hk
  · exact absurd rfl h4
  · refine ⟨?_, ?_⟩
    · simp [Hk.units, Rx.k, cat, kidT, pk, par]
    · intro z hz; simp [Hk.units, Rx.k] at hz; subst hz; exact ⟨h, by simp [Rx.k]⟩
theorem units_inj {x y : Rx} (hx : WR x) (hy : WR y) (h : units x = units y) : x = y := by
  unfold units at h
  split at h <;> split at h
  · rename_i a b
    rcases hx.cases with rfl | ⟨s, rfl, hs, hb⟩ | ⟨l, rfl, hl, hk⟩ | ⟨l, rfl, hl, hk⟩ | ⟨lo, hi, z, rfl, ht, hz⟩ <;> simp only [Rx.k] at a <;> try omega
    rcases hy.cases with rfl | ⟨s, rfl, hs, hb⟩ | ⟨l', rfl, hl', hk'⟩ | ⟨l', rfl, hl', hk'⟩ | ⟨lo, hi, z, rfl, ht, hz⟩ <;> simp only [Rx.k] at b <;> try omega
    simp only [Rx.l] at h
    rw [h]
  · rename_i a b
    rcases hx.cases with rfl | ⟨s, rfl, hs, hb⟩ | ⟨l, rfl, hl, hk⟩ | ⟨l, rfl, hl, hk⟩ | ⟨lo, hi, z, rfl, ht, hz⟩ <;> simp only [Rx.k] at a <;> try omega
    simp only [Rx.l] at h
    rw [h] at hl
    simp at hl
  · rename_i a b
    rcases hy.cases with rfl | ⟨s, rfl, hs, hb⟩ | ⟨l, rfl, hl, hk⟩ | ⟨l, rfl, hl, hk⟩ | ⟨lo, hi, z, rfl, ht, hz⟩ <;> simp only [Rx.k] at b <;> try omega
    simp only [Rx.l] at h
    rw [← h] at hl
    simp at hl
  · exact (List.cons.inj h).1
theorem branch_inj {x : Rx} (hx : WR x) (h4 : x.k ≠ 4) (hu : ∀ z ∈ units x, PU z) : PQ x := by
  intro y u v hy hy4 hu' hv he
  obtain ⟨e1, k1⟩ := hx.units h4
  obtain ⟨e2, k2⟩ := hy.units hy4
  rw [e1, e2] at he
  obtain ⟨e, f⟩ := cat_inj _ _ u v (fun z hz => ⟨(k1 z hz).1, hu z hz⟩) k2 hu' hv he
  exact ⟨units_inj hx hy e, f⟩
/-! Alternatives. -/
theorem jt_endQ {l : List Rx} {u : List UInt8} (hu : ends u) : endQ (jt [124] (l.map text) ++ u) := by
  cases l with
  | nil =>
    rcases hu with h | h
    · exact .inl h
    · exact .inr (.inl h)
  | cons x l => exact .inr (.inr ⟨_, rfl⟩)
theorem ends.not {u r : List UInt8} (h : ends u) : u ≠ 124 :: r := by
  intro e
  rcases h with h | ⟨q, h⟩ <;> rw [h] at e <;> cases e
theorem jt_inj : ∀ (l r : List Rx) (u v : List UInt8), (∀ x ∈ l, PQ x) → (∀ y ∈ r, WR y ∧ y.k ≠ 4) → ends u → ends v → jt [124] (l.map text) ++ u = jt [124] (r.map text) ++ v → l = r ∧ u = v
  | [], [], u, v, _, _, _, _, h => ⟨rfl, h⟩
  | [], y :: r, u, v, hl, hr, hu, hv, h => absurd h hu.not
  | x :: l, [], u, v, hl, hr, hu, hv, h => absurd h.symm hv.not
  | x :: l, y :: r, u, v, hl, hr, hu, hv, h => by
    simp only [List.map_cons, jt, List.append_assoc, List.cons_append, List.nil_append, List.cons.injEq, true_and] at h
    obtain ⟨e, h⟩ := hl x (by simp) y _ _ (hr y (by simp)).1 (hr y (by simp)).2 (jt_endQ hu) (jt_endQ hv) h
    obtain ⟨e2, e3⟩ := jt_inj l r u v (fun z hz => hl z (by simp [hz])) (fun z hz => hr z (by simp [hz])) hu hv h
    exact ⟨by rw [e, e2], e3⟩
def brs (x : Rx) : List Rx := if x.k = 4 then x.l else [x]
theorem WR.brs {x : Rx} (h : WR x) : ∃ y l, Hk.brs x = y :: l ∧ text x = text y ++ jt [124] (l.map text) ∧ ∀ z ∈ Hk.brs x, WR z ∧ z.k ≠ 4 := by
  by_cases h4 : x.k = 4
  · rcases h.cases with rfl | ⟨s, rfl, hs, hb⟩ | ⟨l, rfl, hl, hk⟩ | ⟨l, rfl, hl, hk⟩ | ⟨lo, hi, z, rfl, ht, hz⟩ <;> simp only [Rx.k] at h4 <;> try omega
    match l, hl with
    | y :: l, _ =>
      refine ⟨y, l, rfl, ?_, hk⟩
      have e : kidT 4 = text := by
        funext z
        have h1 : ¬ ((4 : Int) = 5) := by decide
        have h2 : ¬ ((4 : Int) = 3) := by decide
        simp [kidT, pk, par]
      rw [text_4, e]; rfl
  · refine ⟨x, [], by rw [Hk.brs, if_neg h4], by simp [jt], ?_⟩
    intro z hz
    rw [Hk.brs, if_neg h4] at hz
    have hz := List.mem_singleton.1 hz
    subst hz
    exact ⟨h, h4⟩
theorem brs_inj {x y : Rx} (hx : WR x) (hy : WR y) (h : brs x = brs y) : x = y := by
  unfold brs at h
  split at h <;> split at h
  · rename_i a b
    rcases hx.cases with rfl | ⟨s, rfl, hs, hb⟩ | ⟨l, rfl, hl, hk⟩ | ⟨l, rfl, hl, hk⟩ | ⟨lo, hi, z, rfl, ht, hz⟩ <;> simp only [Rx.k] at a <;> try omega
    rcases hy.cases with rfl | ⟨s, rfl, hs, hb⟩ | ⟨l', rfl, hl', hk'⟩ | ⟨l', rfl, hl', hk'⟩ | ⟨lo, hi, z, rfl, ht, hz⟩ <;> simp only [Rx.k] at b <;> try omega
    simp only [Rx.l] at h
    rw [h]
  · rename_i a b
    rcases hx.cases with rfl | ⟨s, rfl, hs, hb⟩ | ⟨l, rfl, hl, hk⟩ | ⟨l, rfl, hl, hk⟩ | ⟨lo, hi, z, rfl, ht, hz⟩ <;> simp only [Rx.k] at a <;> try omega
    simp only [Rx.l] at h
    rw [h] at hl
    simp at hl
  · rename_i a b
    rcases hy.cases with rfl | ⟨s, rfl, hs, hb⟩ | ⟨l, rfl, hl, hk⟩ | ⟨l, rfl, hl, hk⟩ | ⟨lo, hi, z, rfl, ht, hz⟩ <;> simp only [Rx.k] at b <;> try omega
    simp only [Rx.l] at h
    rw [← h] at hl
    simp at hl
  · exact (List.cons.inj h).1
theorem text_inj0 {x : Rx} (hx : WR x) (hq : ∀ z ∈ brs x, PQ z) : PT x := by
  intro y u v hy hu hv he
  obtain ⟨a, l, e1, t1, k1⟩ := hx.brs
  obtain ⟨b, r, e2, t2, k2⟩ := hy.brs
  rw [t1, t2, List.append_assoc, List.append_assoc] at he
  have ka := k1 a (by rw [e1]; simp)
  have kb := k2 b (by rw [e2]; simp)
  obtain ⟨e, he⟩ := hq a (by rw [e1]; simp) b _ _ kb.1 kb.2 (jt_endQ hu) (jt_endQ hv) he
  obtain ⟨f, g⟩ := jt_inj l r u v (fun z hz => hq z (by rw [e1]; simp [hz])) (fun z hz => k2 z (by rw [e2]; simp [hz])) hu hv he
  exact ⟨brs_inj hx hy (by rw [e1, e2, e, f]), g⟩
theorem sz_in {x y : Rx} (h : y ∈ x.l) : sz y < sz x := by
  have := szs_mem h
  rw [sz_eq x]; omega
theorem all_inj : ∀ (n : Nat) (x : Rx), sz x ≤ n → WR x → PA x ∧ PT x := by
  intro n
  induction n with
  | zero =>
    intro x h
    rw [sz_eq] at h
    omega
  | succ n ih =>
    intro x hn hx
    have pu : ∀ w, WR w → w.k ≠ 3 → sz w ≤ sz x → (¬ 3 ≤ w.k ∨ w.k = 5 ∨ sz w < sz x) → PU w := by
      intro w hw h3 hs hc
      refine unit_inj hw h3 (fun h5 => ?_) (fun z hz => ?_)
      · by_cases hk : 3 ≤ w.k
        · exact (ih w (by omega) hw).1
        · exact PA12 hw hk
      · have := sz_in hz
        exact (ih z (by omega) (hw.kid hz)).1
    have pq : ∀ b, WR b → b.k ≠ 4 → sz b ≤ sz x → PQ b := by
      intro b hb h4 hs
      refine branch_inj hb h4 fun z hz => ?_
      have hz2 := (hb.units h4).2 z hz
      unfold units at hz
      split at hz
      · have := sz_in hz
        exact pu z hz2.1 hz2.2 (by omega) (.inr (.inr (by omega)))
      · have hz := List.mem_singleton.1 hz
        subst hz
        refine pu z hb hz2.2 hs ?_
        have h5 : z.k = 1 ∨ z.k = 2 ∨ z.k = 3 ∨ z.k = 4 ∨ z.k = 5 := by
          rcases hb.cases with rfl | ⟨s, rfl, _⟩ | ⟨l, rfl, _⟩ | ⟨l, rfl, _⟩ | ⟨lo, hi, y, rfl, _⟩ <;> simp [Rx.k]
        omega
    have pt : PT x := by
      refine text_inj0 hx fun z hz => ?_
      obtain ⟨_, _, _, _, hb0⟩ := hx.brs
      have hb := hb0 z hz
      clear hb0
      unfold brs at hz
      split at hz
      · have := sz_in hz
        exact pq z hb.1 hb.2 (by omega)
      · have hz := List.mem_singleton.1 hz
        subst hz
        exact pq z hb.1 hb.2 (Nat.le_refl _)
    refine ⟨?_, pt⟩
    by_cases hk : 3 ≤ x.k
    · exact PA3 hx hk pt
    · exact PA12 hx hk
/-- Two patterns of one text are the same. -/
theorem text_inj {x y : Rx} (hx : WR x) (hy : WR y) (h : text x = text y) : x = y :=
  ((all_inj (sz x) x (Nat.le_refl _) hx).2 y [] [] hy (.inl rfl) (.inl rfl) (by rw [h])).1
end Go.Hk
