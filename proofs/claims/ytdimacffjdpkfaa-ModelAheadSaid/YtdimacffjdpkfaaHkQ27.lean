import Derived.Test.YtdimacffjdpkfaaHkQ26
import Derived.Test.YtdimacffjdpkfaaHkQ21
/- Layer 8, the plain law: what is picked does not look ahead. -/
set_option linter.unusedSimpArgs false
set_option linter.unusedVariables false
namespace Go.Hk
theorem last_max : ∀ {l : List Nat} {d : Nat}, l.Pairwise (· < ·) → ∀ m ∈ l, m ≤ l.getLastD d
  | [], d, _, m, hm => by cases hm
  | [a], d, _, m, hm => by simp at hm; simp [hm]
  | a :: b :: l, d, h, m, hm => by
    rw [List.pairwise_cons] at h
    have ih := last_max (l := b :: l) (d := d) h.2
    have e : (a :: b :: l).getLastD d = (b :: l).getLastD d := by simp [List.getLastD]
    rw [e]
    rcases List.mem_cons.1 hm with rfl | hm
    · have := h.1 b (by simp)
      have := ih b (by simp)
      omega
    · exact ih m hm
/-- A rule matches so many bytes. -/
def Hits (r : Ru) (s : List UInt8) (m : Nat) : Prop := if r.trail.k = 0 then R s r.rx 0 m else ∃ h, 0 < h ∧ R s r.rx 0 h ∧ R s r.trail h m
theorem fold_ge {r : Ru} {s : List UInt8} (hk : r.trail.k ≠ 0) : ∀ (l : List Nat) (m0 : Nat), m0 ≤ l.foldl (longStep r s) m0 ∧ ∀ h ∈ l, 0 < h → ∀ m ∈ endsN r.trail s h, m ≤ l.foldl (longStep r s) m0
  | [], m0 => ⟨Nat.le_refl _, fun h hh => by cases hh⟩
  | a :: l, m0 => by
    rw [List.foldl_cons]
    obtain ⟨h1, h2⟩ := fold_ge (s := s) hk l (longStep r s m0 a)
    have h3 : m0 ≤ longStep r s m0 a := by
      unfold longStep
      rw [if_neg hk]
      split <;> omega
    refine ⟨by omega, fun h hh h0 m hm => ?_⟩
    rcases List.mem_cons.1 hh with rfl | hh
    · have h4 := last_max (d := 0) (endsN_rise r.trail s h) m hm
      have h5 : m ≤ longStep r s m0 h := by
        unfold longStep
        rw [if_neg hk, if_pos ⟨h0, List.length_pos_of_mem hm⟩]
        omega
      omega
    · exact h2 h hh h0 m hm
theorem long_max {r : Ru} {s : List UInt8} (hr : rightT r.rx = true) (ht : r.trail.k = 0 ∨ rightT r.trail = true) (hl : s.length ≤ 10000) : (∀ m, Hits r s m → m ≤ longP r s) ∧ (longP r s = 0 ∨ Hits r s (longP r s)) := by
  unfold Hits
  by_cases hk : r.trail.k = 0
  · have e : longP r s = (endsN r.rx s 0).getLastD 0 := by
      unfold longP
      rw [← foldl_last]
      congr 1
      funext m h
      simp [longStep, hk]
    rw [if_pos hk, e]
    refine ⟨fun m hm => ?_, ?_⟩
    · rw [if_pos hk] at hm
      exact last_max (endsN_rise _ _ _) m ((endsN_mem hr hl (Nat.zero_le _)).2 hm)
    · by_cases hne : endsN r.rx s 0 = []
      · left; rw [hne]; rfl
      · right
        rw [← endsN_mem hr hl (Nat.zero_le _), List.getLastD_eq_getLast?, List.getLast?_eq_some_getLast hne]
        exact List.getLast_mem hne
  · have htr : rightT r.trail = true := by rcases ht with ht | ht; exact absurd ht hk; exact ht
    rw [if_neg hk]
    refine ⟨fun m hm => ?_, ?_⟩
    · rw [if_neg hk] at hm
      obtain ⟨h, h0, h1, h2⟩ := hm
      have h1' := (endsN_mem hr hl (Nat.zero_le _)).2 h1
      exact (fold_ge (s := s) hk (endsN r.rx s 0) 0).2 h h1' h0 m ((endsN_mem htr hl (endsN_le h1').2).2 h2)
    · rcases long_spec (s := s) hk (endsN r.rx s 0) 0 with e | ⟨g, g1, g2, g3⟩
      · exact .inl e
      · right
        exact ⟨g, g2, (endsN_mem hr hl (Nat.zero_le _)).1 g1, (endsN_mem htr hl (endsN_le g1).2).1 g3⟩
theorem cut_R {x : Rx} {s : List UInt8} {b i j : Nat} (hb : b ≤ s.length) (hj : j ≤ b) : R (s.take b) x i j ↔ R s x i j := by
  have := R_cut (t := s) (a := 0) (b := b) (by omega) x i j hj
  simpa using this
theorem hits_cut {r : Ru} {s : List UInt8} {b m : Nat} (hb : b ≤ s.length) : Hits r (s.take b) m → Hits r s m := by
  have hlen : (s.take b).length = b := by simp; omega
  unfold Hits
  split
  · intro h
    have := R_le r.rx 0 m h (Nat.zero_le _)
    exact (cut_R hb (by omega)).1 h
  · rintro ⟨h, h0, h1, h2⟩
    have e1 := R_le r.rx 0 h h1 (Nat.zero_le _)
    have e2 := R_le r.trail h m h2 e1
    exact ⟨h, h0, (cut_R hb (by omega)).1 h1, (cut_R hb (by omega)).1 h2⟩
theorem hits_cut' {r : Ru} {s : List UInt8} {b m : Nat} (hb : b ≤ s.length) (hm : m ≤ b) : Hits r s m → Hits r (s.take b) m := by
  unfold Hits
  split
  · exact fun h => (cut_R hb hm).2 h
  · rintro ⟨h, h0, h1, h2⟩
    have := R_mono s r.trail h m h2
    exact ⟨h, h0, (cut_R hb (by omega)).2 h1, (cut_R hb hm).2 h2⟩
theorem long_cut {r : Ru} {s : List UInt8} {b : Nat} (hr : rightT r.rx = true) (ht : r.trail.k = 0 ∨ rightT r.trail = true) (hl : s.length ≤ 10000) (hb : b ≤ s.length) (h : longP r s ≤ b) : longP r (s.take b) = longP r s := by
  obtain ⟨a1, a2⟩ := long_max hr ht hl
  obtain ⟨b1, b2⟩ := long_max (s := s.take b) hr ht (by simp; omega)
  have h1 : longP r s ≤ longP r (s.take b) := by
    rcases a2 with e | e
    · omega
    · exact b1 _ (hits_cut' hb h e)
  have h2 : longP r (s.take b) ≤ longP r s := by
    rcases b2 with e | e
    · omega
    · exact a1 _ (hits_cut hb e)
  omega
/-! ### Rules that may be -/
theorem noneX_k {x : Rx} (h : noneX x = true) : x.k = 0 := by
  rw [noneX_eq h]; rfl
theorem rule_right {s : Sp} (h : rightS s = true) {i : Nat} {r : Ru} (hr : s.rules[i]? = some r) (he : r.eof = false) : rightT r.rx = true ∧ (r.trail.k = 0 ∨ rightT r.trail = true) := by
  simp only [rightS, Bool.and_eq_true, List.all_eq_true] at h
  have := h.2 r (List.mem_of_getElem? hr)
  simp only [ruleB, matchB, he, Bool.false_eq_true, if_false, Bool.and_eq_true, Bool.or_eq_true] at this
  obtain ⟨_, h1, h2⟩ := this
  refine ⟨h1, ?_⟩
  rcases h2 with h2 | h2
  · exact .inl (noneX_k h2)
  · exact .inr h2
/-- The same is picked where all that was looked at is there. -/
theorem pick_cut {s : Sp} {w : List UInt8} {at_ b : Nat} {cond : Int} (h : rightS s = true) (hl : w.length ≤ 10000) (hb : b ≤ w.length) (ha : at_ ≤ b) (hn : at_ + (pickP s w at_ cond).2 ≤ b) : pickP s (w.take b) at_ cond = pickP s w at_ cond := by
  have hdrop : (w.take b).drop at_ = (w.drop at_).take (b - at_) := by rw [List.drop_take]
  have hbol : bolB (w.take b) at_ = bolB w at_ := by
    unfold bolB
    by_cases h0 : at_ = 0
    · simp [h0]
    · have : (w.take b).getD (at_ - 1) 0 = w.getD (at_ - 1) 0 := by
        rw [List.getD_eq_getElem?_getD, List.getElem?_take, if_pos (by omega), ← List.getD_eq_getElem?_getD]
      rw [this]
  have hm : ∀ n, (pickTo s w at_ cond n).2 ≤ (pickTo s w at_ cond (n + 1)).2 := fun n => by
    simp only [pickTo]
    split
    · unfold pickStep
      split
      · simp only; omega
      · exact Nat.le_refl _
    · exact Nat.le_refl _
  have hmono : ∀ a c, a ≤ c → (pickTo s w at_ cond a).2 ≤ (pickTo s w at_ cond c).2 := by
    intro a c hac
    induction c with
    | zero => obtain rfl : a = 0 := by omega
              exact Nat.le_refl _
    | succ c ih =>
      rcases Nat.lt_or_ge a (c + 1) with h1 | h1
      · exact Nat.le_trans (ih (by omega)) (hm c)
      · obtain rfl : a = c + 1 := by omega
        exact Nat.le_refl _
  have key : ∀ n, n ≤ s.rules.length → pickTo s (w.take b) at_ cond n = pickTo s w at_ cond n := by
    intro n
    induction n with
    | zero => intro _; rfl
    | succ n ih =>
      intro hn2
      have ih := ih (by omega)
      cases hr : s.rules[n]? with
      | none => simp only [pickTo, hr]; exact ih
      | some r =>
        rw [pickTo_next hr, pickTo_next hr, ih]
        unfold pickStep
        have hmay : mayB s (w.take b) at_ cond n r = mayB s w at_ cond n r := by unfold mayB; rw [hbol]
        rw [hmay, hdrop]
        by_cases hmy : mayB s w at_ cond n r = true
        · have he : r.eof = false := by
            unfold mayB at hmy
            simp only [Bool.and_eq_true, Bool.not_eq_true'] at hmy
            exact hmy.1.1
          obtain ⟨q1, q2⟩ := rule_right h hr he
          have hdl : (w.drop at_).length ≤ 10000 := by simp; omega
          have hle : longP r (w.drop at_) ≤ b - at_ := by
            have h1 := hmono (n + 1) s.rules.length (by omega)
            rw [pickTo_next hr] at h1
            unfold pickStep at h1
            have hpp : (pickTo s w at_ cond s.rules.length).2 = (pickP s w at_ cond).2 := rfl
            split at h1
            · simp only at h1; omega
            · rename_i hc
              have h2 := hmono n s.rules.length (by omega)
              have : ¬ (pickTo s w at_ cond n).2 < longP r (w.drop at_) := fun h' => hc ⟨hmy, h'⟩
              omega
          rw [long_cut q1 q2 hdl (by simp; omega) hle]
        · simp only [hmy, false_and, if_false]
          rfl
  exact key _ (Nat.le_refl _)
end Go.Hk
namespace Go.Hk
theorem head_match {r : Ru} {s : List UInt8} (hr : rightT r.rx = true) (hl : s.length ≤ 10000) (h : 0 < headP r s) : R s r.rx 0 (headP r s) := by
  unfold headP at h ⊢
  split at h
  · rename_i hk
    rw [if_pos hk]
    split at h
    · rename_i hm
      rw [if_pos hm]
      exact (endsN_mem hr hl (Nat.zero_le _)).1 hm
    · omega
  · rename_i hk
    rw [if_neg hk]
    cases hf : (endsN r.rx s 0).reverse.find? fun h => decide (s.length ∈ endsN r.trail s h) with
    | none => rw [hf] at h; simp at h
    | some v =>
      rw [Option.getD_some]
      exact (endsN_mem hr hl (Nat.zero_le _)).1 (List.mem_reverse.1 (List.mem_of_find?_eq_some hf))
/-- What is picked, and what comes of it. -/
theorem next_spec {s : Sp} {w : List UInt8} {at_ : Nat} {cond : Int} (h : rightS s = true) (hl : w.length ≤ 10000) (ha : at_ < w.length) :
    (pickP s w at_ cond = (-1, 0) ∧ nextT s w at_ cond = if s.deft then some (⟨-1, at_, at_ + 1, cond⟩, at_ + 1, cond) else none) ∨
    ∃ i r, s.rules[i]? = some r ∧ mayB s w at_ cond i r = true ∧ pickP s w at_ cond = ((i : Int), longP r (w.drop at_)) ∧ 0 < longP r (w.drop at_) ∧ at_ + longP r (w.drop at_) ≤ w.length ∧
      0 < headP r ((w.drop at_).take (longP r (w.drop at_))) ∧ headP r ((w.drop at_).take (longP r (w.drop at_))) ≤ longP r (w.drop at_) ∧
      R w r.rx at_ (at_ + headP r ((w.drop at_).take (longP r (w.drop at_)))) ∧
      nextT s w at_ cond = some (⟨(i : Int), at_, at_ + headP r ((w.drop at_).take (longP r (w.drop at_))), cond⟩, at_ + headP r ((w.drop at_).take (longP r (w.drop at_))), if r.act = 3 then r.to else cond) := by
  rcases pickTo_spec (s := s) (w := w) (at_ := at_) (cond := cond) s.rules.length with e | ⟨i, r, h1, h2, h3, h4, h5⟩
  · left
    have e : pickP s w at_ cond = (-1, 0) := e
    refine ⟨e, ?_⟩
    unfold nextT
    rw [e]
    simp only
    split
    · rw [if_neg (by omega)]
    · rfl
  · right
    have h4 : pickP s w at_ cond = ((i : Int), longP r (w.drop at_)) := h4
    have he : r.eof = false := by
      unfold mayB at h3
      simp only [Bool.and_eq_true, Bool.not_eq_true'] at h3
      exact h3.1.1
    obtain ⟨q1, q2⟩ := rule_right h h2 he
    have hdl : (w.drop at_).length = w.length - at_ := by simp
    obtain ⟨p1, p2, p3⟩ := head_pos q1 q2 (by rw [hdl]; omega) h5
    rw [hdl] at p1
    have hm := head_match (s := (w.drop at_).take (longP r (w.drop at_))) q1 (by simp; omega) p2
    have hR := (R_cut (t := w) (a := at_) (b := longP r (w.drop at_)) (by omega) r.rx 0 _ p3).1 hm
    refine ⟨i, r, h2, h3, h4, h5, by omega, p2, p3, by simpa using hR, ?_⟩
    unfold nextT
    rw [h4]
    simp only [Int.toNat_natCast, h2]
    rw [if_pos (by omega)]
/-- What an input is. -/
inductive Run (s : Sp) (w : List UInt8) : Nat → Int → List Tok → Int → Prop
  | step {at_ a : Nat} {cond c : Int} {t : Tok} {l : List Tok} {j : Int} (h : at_ < w.length) (hn : nextT s w at_ cond = some (t, a, c)) (hr : Run s w a c l j) : Run s w at_ cond (t :: l) j
  | jam {at_ : Nat} {cond : Int} (h : at_ < w.length) (hn : nextT s w at_ cond = none) : Run s w at_ cond [] (at_ : Int)
  | eof {at_ : Nat} {cond : Int} (h : at_ = w.length) (he : 0 ≤ eofP s cond) : Run s w at_ cond [⟨eofP s cond, at_, at_, cond⟩] (-1)
  | fin {at_ : Nat} {cond : Int} (h : at_ = w.length) (he : eofP s cond < 0) : Run s w at_ cond [] (-1)
theorem next_at {s : Sp} {w : List UInt8} {at_ a : Nat} {cond c : Int} {t : Tok} (h : rightS s = true) (hl : w.length ≤ 10000) (ha : at_ < w.length) (hn : nextT s w at_ cond = some (t, a, c)) : at_ < a ∧ a ≤ w.length := by
  rcases next_spec (cond := cond) h hl ha with ⟨_, e⟩ | ⟨i, r, _, _, _, h1, h2, h3, h4, _, e⟩
  · rw [e] at hn
    split at hn
    · simp only [Option.some.injEq, Prod.mk.injEq] at hn
      obtain ⟨_, rfl, _⟩ := hn
      omega
    · cases hn
  · rw [e] at hn
    simp only [Option.some.injEq, Prod.mk.injEq] at hn
    obtain ⟨_, rfl, _⟩ := hn
    omega
theorem toks_run {s : Sp} {w : List UInt8} (h : rightS s = true) (hl : w.length ≤ 10000) : ∀ (f at_ : Nat) (cond : Int), at_ ≤ w.length → w.length - at_ < f → Run s w at_ cond (toksP s w f at_ cond).1 (toksP s w f at_ cond).2
  | 0, at_, cond, _, hf => by omega
  | f + 1, at_, cond, ha, hf => by
    rw [toksP]
    by_cases hlt : at_ < w.length
    · rw [if_pos hlt]
      cases hn : nextT s w at_ cond with
      | none => exact .jam hlt hn
      | some p =>
        obtain ⟨t, a, c⟩ := p
        have := next_at h hl hlt hn
        exact .step hlt hn (toks_run h hl f a c this.2 (by omega))
    · rw [if_neg hlt]
      by_cases he : 0 ≤ eofP s cond
      · rw [if_pos he]; exact .eof (by omega) he
      · rw [if_neg he]; exact .fin (by omega) (by omega)
end Go.Hk
namespace Go.Hk
theorem next_tok {s : Sp} {w : List UInt8} {at_ a : Nat} {cond c : Int} {t : Tok} (hn : nextT s w at_ cond = some (t, a, c)) : t.st = at_ ∧ t.cond = cond ∧ t.en = a := by
  unfold nextT at hn
  simp only at hn
  split at hn
  · split at hn
    · simp only [Option.some.injEq, Prod.mk.injEq] at hn
      obtain ⟨rfl, rfl, _⟩ := hn
      exact ⟨rfl, rfl, rfl⟩
    · split at hn
      · simp only [Option.some.injEq, Prod.mk.injEq] at hn
        obtain ⟨rfl, rfl, _⟩ := hn
        exact ⟨rfl, rfl, rfl⟩
      · cases hn
  · split at hn
    · simp only [Option.some.injEq, Prod.mk.injEq] at hn
      obtain ⟨rfl, rfl, _⟩ := hn
      exact ⟨rfl, rfl, rfl⟩
    · cases hn
theorem next_cut {s : Sp} {w : List UInt8} {at_ b : Nat} {cond : Int} (h : rightS s = true) (hl : w.length ≤ 10000) (hb : b ≤ w.length) (ha : at_ < b) (hn : at_ + (pickP s w at_ cond).2 ≤ b) : nextT s (w.take b) at_ cond = nextT s w at_ cond := by
  unfold nextT
  rw [pick_cut h hl hb (by omega) hn]
  have : ((w.take b).drop at_).take (pickP s w at_ cond).2 = (w.drop at_).take (pickP s w at_ cond).2 := by
    rw [List.drop_take, List.take_take, Nat.min_eq_left (by omega)]
  simp only [this]
theorem run_cut {s : Sp} {w : List UInt8} {b : Nat} (h : rightS s = true) (hl : w.length ≤ 10000) (hb : b ≤ w.length) : ∀ (k : Nat) (l l' : List Tok) (at_ : Nat) (cond j j' : Int), Run s w at_ cond l j → Run s (w.take b) at_ cond l' j' →
    (∀ i, i ≤ k → ∃ t, l[i]? = some t ∧ t.st < w.length ∧ t.st + max (pickP s w t.st t.cond).2 1 ≤ b) → ∀ i, i ≤ k → l'[i]? = l[i]? := by
  have hlb : (w.take b).length = b := by simp; omega
  intro k
  induction k with
  | zero =>
    intro l l' at_ cond j j' hr hr' hk i hi
    obtain rfl : i = 0 := by omega
    obtain ⟨t, t1, t2, t3⟩ := hk 0 (Nat.le_refl _)
    cases hr with
    | jam _ _ => simp at t1
    | fin _ _ => simp at t1
    | eof h1 _ =>
      simp only [List.getElem?_cons_zero, Option.some.injEq] at t1
      subst t1
      simp only at t2
      omega
    | step h1 h2 h3 =>
      simp only [List.getElem?_cons_zero, Option.some.injEq] at t1
      subst t1
      obtain ⟨e1, e2, _⟩ := next_tok h2
      rw [e1, e2] at t3
      have hc := next_cut h hl hb (by omega) (by omega : at_ + (pickP s w at_ cond).2 ≤ b)
      cases hr' with
      | jam _ hn => rw [hc, h2] at hn; cases hn
      | fin hn _ => rw [hlb] at hn; omega
      | eof hn _ => rw [hlb] at hn; omega
      | step g1 g2 g3 =>
        rw [hc, h2] at g2
        simp only [Option.some.injEq, Prod.mk.injEq] at g2
        obtain ⟨rfl, _, _⟩ := g2
        rfl
  | succ k ih =>
    intro l l' at_ cond j j' hr hr' hk i hi
    obtain ⟨t, t1, t2, t3⟩ := hk 0 (Nat.zero_le _)
    cases hr with
    | jam _ _ => simp at t1
    | fin _ _ => simp at t1
    | eof h1 _ =>
      simp only [List.getElem?_cons_zero, Option.some.injEq] at t1
      subst t1
      simp only at t2
      omega
    | step h1 h2 h3 =>
      simp only [List.getElem?_cons_zero, Option.some.injEq] at t1
      subst t1
      obtain ⟨e1, e2, _⟩ := next_tok h2
      rw [e1, e2] at t3
      have hc := next_cut h hl hb (by omega) (by omega : at_ + (pickP s w at_ cond).2 ≤ b)
      cases hr' with
      | jam _ hn => rw [hc, h2] at hn; cases hn
      | fin hn _ => rw [hlb] at hn; omega
      | eof hn _ => rw [hlb] at hn; omega
      | step g1 g2 g3 =>
        rw [hc, h2] at g2
        simp only [Option.some.injEq, Prod.mk.injEq] at g2
        obtain ⟨rfl, rfl, rfl⟩ := g2
        cases i with
        | zero => rfl
        | succ i =>
          simp only [List.getElem?_cons_succ]
          refine ih _ _ _ _ _ _ h3 g3 (fun i hi => ?_) i (by omega)
          have := hk (i + 1) (by omega)
          simpa using this
end Go.Hk
/- Layer 8, the plain law: what an input is, token by token. -/
namespace Go.Hk
theorem rule_to {s : Sp} (h : rightS s = true) {i : Nat} {r : Ru} (hr : s.rules[i]? = some r) (ha : r.act = 3) : 0 ≤ r.to ∧ r.to < s.conds.length := by
  simp only [rightS, Bool.and_eq_true, List.all_eq_true] at h
  have := h.2 r (List.mem_of_getElem? hr)
  simp only [ruleB, doesB, ha, if_true, Bool.and_eq_true, decide_eq_true_eq] at this
  exact this.1.2
/-- The condition behind a token. -/
def condTo (s : Sp) (t : Tok) : Int := match s.rules[t.rule.toNat]? with
  | some r => if 0 ≤ t.rule ∧ r.act = 3 then r.to else t.cond
  | none => t.cond
theorem next_cond {s : Sp} {w : List UInt8} {at_ a : Nat} {cond c : Int} {t : Tok} (h : rightS s = true) (hl : w.length ≤ 10000) (ha : at_ < w.length) (hc : 0 ≤ cond ∧ cond < s.conds.length) (hn : nextT s w at_ cond = some (t, a, c)) : c = condTo s t ∧ 0 ≤ c ∧ c < s.conds.length := by
  rcases next_spec (cond := cond) h hl ha with ⟨_, e⟩ | ⟨i, r, h1, _, _, _, _, _, _, _, e⟩
  · rw [e] at hn
    split at hn
    · simp only [Option.some.injEq, Prod.mk.injEq] at hn
      obtain ⟨rfl, _, rfl⟩ := hn
      refine ⟨?_, hc⟩
      unfold condTo
      split <;> simp
    · cases hn
  · rw [e] at hn
    simp only [Option.some.injEq, Prod.mk.injEq] at hn
    obtain ⟨rfl, _, rfl⟩ := hn
    have ec : condTo s ⟨(i : Int), at_, at_ + headP r ((w.drop at_).take (longP r (w.drop at_))), cond⟩ = if r.act = 3 then r.to else cond := by
      unfold condTo
      simp [h1]
    rw [ec]
    refine ⟨rfl, ?_⟩
    split
    · rename_i ha
      exact rule_to h h1 ha
    · exact hc
/-- Each token. -/
theorem run_at {s : Sp} {w : List UInt8} (h : rightS s = true) (hl : w.length ≤ 10000) {at_ : Nat} {cond : Int} {l : List Tok} {j : Int} (hr : Run s w at_ cond l j) (hc : 0 ≤ cond ∧ cond < s.conds.length) : ∀ t ∈ l, (0 ≤ t.cond ∧ t.cond < s.conds.length) ∧
    ((t.st < w.length ∧ ∃ a c, nextT s w t.st t.cond = some (t, a, c)) ∨ (t.st = w.length ∧ t = ⟨eofP s t.cond, w.length, w.length, t.cond⟩)) := by
  induction hr with
  | @step at_ a cond c t l j h1 h2 h3 ih =>
    intro t' ht
    obtain ⟨e1, e2, e3⟩ := next_tok h2
    rcases List.mem_cons.1 ht with rfl | ht
    · rw [e1, e2]
      exact ⟨hc, .inl ⟨h1, a, c, h2⟩⟩
    · exact ih (next_cond h hl h1 hc h2).2 t' ht
  | jam _ _ => intro t ht; cases ht
  | fin _ _ => intro t ht; cases ht
  | @eof at_ cond h1 h2 =>
    intro t ht
    simp only [List.mem_cons, List.not_mem_nil, or_false] at ht
    subst ht
    subst h1
    exact ⟨hc, .inr ⟨rfl, rfl⟩⟩
theorem toks_len {s : Sp} {w : List UInt8} (h : rightS s = true) (hl : w.length ≤ 10000) {at_ : Nat} {cond : Int} {l : List Tok} {j : Int} (hr : Run s w at_ cond l j) : l.length ≤ w.length - at_ + 1 := by
  induction hr with
  | @step at_ a cond c t l j h1 h2 h3 ih =>
    have := next_at h hl h1 h2
    simp only [List.length_cons]
    omega
  | jam _ _ => simp
  | fin _ _ => simp
  | eof _ _ => simp
end Go.Hk
/- Regions in more than one order, in a function that ranges over a function; lists of places, read backwards. -/
namespace Go.Hk
def gamv (x : List (Nat × OT)) (n : Nat) (l : List (FuncId × Con)) : Gam := ⟨gamF l, fun i => (x.find? (·.1 == i)).map (·.2), fun _ => false, false, fun _ _ _ => none, n⟩
theorem Sound.v {P : Program} {x : List (Nat × OT)} {n : Nat} {l : List (FuncId × Con)} (h : Sound P (gam l)) : Sound P (gamv x n l) := ⟨h.fn, fun _ _ _ _ _ h => by cases h⟩
theorem e_gamv {x : List (Nat × OT)} {n : Nat} {l : List (FuncId × Con)} {f : FuncId} : (gamv x n l).con f = (gam l).con f := rfl
theorem e_gamv_dy {x : List (Nat × OT)} {n : Nat} {l : List (FuncId × Con)} : (gamv x n l).dy = false := rfl
section
variable {P : Program} {mu : Bool} {n hk tk : Nat} {Q : Exit → St → Prop} {e : List (Nat × AVal)} {m : AMem} {l : List Oper}
theorem e_w_regionv {k : Nat} {t : OT} {L : List (FuncId × Con)} {id : Nat} {d : Bool} (h : ¬ id = k) : W P (gamv [(k, t)] n L) mu hk tk (.region id l.toArray d) Q ⟨e, m⟩ = regW (opsO P (gamv [(k, t)] n L) mu (prep l l) (some ⟨e, m⟩)) Q := e_w_region0 (by
  have : (k == id) = false := beq_eq_false_iff_ne.2 fun h' => h h'.symm
  simp only [gamv, List.find?, this]; rfl) rfl
theorem w_region_2v {x : List (Nat × OT)} {L : List (FuncId × Con)} {id : Nat} {d : Bool} {t : OT} {l1 l2 : List Oper} (h : (gamv x n L).ex id = some t) (ho : (orders t).map (pickO' l.toArray) = [some l1, some l2])
    (h1 : regW (opsO P (gamv x n L) mu (prep l l1) (some ⟨e, m⟩)) Q) (h2 : regW (opsO P (gamv x n L) mu (prep l l2) (some ⟨e, m⟩)) Q) : W P (gamv x n L) mu hk tk (.region id l.toArray d) Q ⟨e, m⟩ := by
  rw [W_eq]
  have hn : (gamv x n L).nx id = false := rfl
  simp only [W0, h, hn, Bool.false_eq_true, if_false]
  refine otW_orders t _ fun p hp => ?_
  have hm : pickO' l.toArray p ∈ [some l1, some l2] := by rw [← ho]; exact List.mem_map.2 ⟨p, hp, rfl⟩
  simp only [List.mem_cons, List.not_mem_nil, or_false] at hm
  rcases hm with hm | hm
  · rw [← aops_opsO] at h1
    cases hs : aops P (gamv x n L) mu l.toArray l1 ⟨e, m⟩ with
    | none => rw [hs] at h1; exact h1.elim
    | some s' => rw [hs] at h1; exact ⟨l1, s', hm, hs, h1⟩
  · rw [← aops_opsO] at h2
    cases hs : aops P (gamv x n L) mu l.toArray l2 ⟨e, m⟩ with
    | none => rw [hs] at h2; exact h2.elim
    | some s' => rw [hs] at h2; exact ⟨l2, s', hm, hs, h2⟩
end
attribute [go_sem] e_gamv e_gamv_dy e_w_regionv
/-! ### Numbers ars cells -/
def cN (l : List Nat) : List AVal := fl cI (l.map fun j : Nat => (j : Int))
theorem cN_get {l : List Nat} {i v : Nat} (h : l[i]? = some v) : (cN l)[i]? = some (.int .i64 (v : Nat)) := fl_cI_get (by rw [List.getElem?_map, h]; rfl)
theorem slc_N {l : List Int} {k : List Nat} (h : l = k.map fun j : Nat => (j : Int)) : slc cI l = .sl .no k.length (cN k) := by subst h; simp [slc, cN]
theorem l_s_cN {l : List Nat} : stripL (cN l) = some (cN l) := fl_strip cI_strip _
theorem l_n_cN {l : List Nat} : (cN l).length = l.length := by unfold cN; rw [fl_len cI_len]; simp
attribute [go_sem] l_s_cN l_n_cN
theorem find_rev_at {p : Nat → Bool} {l : List Nat} {i v : Nat} (h : l[i]? = some v) (hq : ∀ y ∈ l.drop (i + 1), p y = false) (hp : p v = true) : l.reverse.find? p = some v := by
  have e : l = l.take i ++ (v :: l.drop (i + 1)) := by
    obtain ⟨hi, rfl⟩ := List.getElem?_eq_some_iff.1 h
    rw [← List.drop_eq_getElem_cons hi, List.take_append_drop]
  generalize l.drop (i + 1) = d at *
  generalize l.take i = c at *
  subst e
  rw [ List.reverse_append, List.reverse_cons, List.append_assoc, List.find?_append]
  have : d.reverse.find? p = none := List.find?_eq_none.2 fun y hy => by rw [hq y (List.mem_reverse.1 hy)]; simp
  rw [this]
  simp [hp]
theorem find_rev_none {p : Nat → Bool} {l : List Nat} (hq : ∀ y ∈ l, p y = false) : l.reverse.find? p = none := List.find?_eq_none.2 fun y hy => by rw [hq y (List.mem_reverse.1 hy)]; simp
theorem drop_step {p : Nat → Bool} {l : List Nat} {i v : Nat} (h : l[i]? = some v) (hq : ∀ y ∈ l.drop (i + 1), p y = false) (hp : p v = false) : ∀ y ∈ l.drop i, p y = false := by
  obtain ⟨hi, rfl⟩ := List.getElem?_eq_some_iff.1 h
  rw [List.drop_eq_getElem_cons hi]
  intro y hy
  rcases List.mem_cons.1 hy with rfl | hy
  · exact hp
  · exact hq y hy
end Go.Hk
/- Layer 8: tokens ars cells; what an input is, ars it is answered. -/
namespace Go.Hk
def tokV (t : Tok) : AVal := .agg (cTok t)
theorem cTok_len (t : Tok) : (cTok t).length = 4 := rfl
theorem cTok_strip (t : Tok) : stripL (cTok t) = some (cTok t) := rfl
theorem l_s_cTok {l : List Tok} : stripL (fl cTok l) = some (fl cTok l) := fl_strip cTok_strip l
theorem l_n_cTok {l : List Tok} : (fl cTok l).length = l.length * 4 := fl_len cTok_len l
theorem c_flTok {h t : Nat} {l : List Tok} : cloL h t (fl cTok l) = true := cloL_strip _ _ l_s_cTok
attribute [go_sem] l_s_cTok l_n_cTok c_flTok
/-- A result. -/
def cRes (l : List Tok) (j : Int) : List AVal := [.sl .no l.length (fl cTok l), .int .i64 j]
def resV (l : List Tok) (j : Int) : AVal := .agg (cRes l j)
noncomputable def toksQ (s : Sp) (w : List UInt8) : (List Tok × Int) × Int := if w.length ≤ 10000 ∧ rightS s = true then (toksP s w (w.length + 1) 0 0, 0) else (([], 0), 1)
end Go.Hk
