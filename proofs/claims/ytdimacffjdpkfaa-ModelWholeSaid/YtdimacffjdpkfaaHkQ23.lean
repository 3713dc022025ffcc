import Derived.Test.YtdimacffjdpkfaaHkQ22
import Derived.Test.YtdimacffjdpkfaaHkQ21
import Derived.Test.YtdimacffjdpkfaaHkQ18
/- Layer 8, the plain law: what a rule matches, and what is its own. -/
set_option linter.unusedSimpArgs false
set_option linter.unusedVariables false
namespace Go.Hk
/-- Where a pattern ends, from a place on, ars numbers. -/
noncomputable def endsN (x : Rx) (s : List UInt8) (i : Nat) : List Nat := if rightT x = true ∧ s.length ≤ 10000 ∧ i ≤ s.length then cset (s.length + 1) (R s x i) else []
theorem endsL_N (x : Rx) (s : List UInt8) (i : Nat) : endsL x s (i : Int) = (endsN x s i).map fun j : Nat => (j : Int) := by
  unfold endsL endsN
  by_cases h : rightT x = true ∧ s.length ≤ 10000 ∧ i ≤ s.length
  · rw [if_pos h, if_pos ⟨h.1, h.2.1, by omega, by omega⟩, Int.toNat_natCast]
  · rw [if_neg h, if_neg (fun h' => h ⟨h'.1, h'.2.1, by omega⟩)]
    rfl
theorem endsN_mem {x : Rx} {s : List UInt8} {i j : Nat} (hr : rightT x = true) (hl : s.length ≤ 10000) (hi : i ≤ s.length) : j ∈ endsN x s i ↔ R s x i j := by
  unfold endsN
  rw [if_pos ⟨hr, hl, hi⟩, cset_mem]
  exact ⟨fun h => h.2, fun h => ⟨by have := R_le x i j h hi; omega, h⟩⟩
theorem endsN_le {x : Rx} {s : List UInt8} {i j : Nat} (h : j ∈ endsN x s i) : i ≤ j ∧ j ≤ s.length := by
  unfold endsN at h
  split at h
  · have := cset_mem.1 h
    exact ⟨R_mono s x i j this.2, by omega⟩
  · cases h
theorem endsN_rise (x : Rx) (s : List UInt8) (i : Nat) : (endsN x s i).Pairwise (· < ·) := by
  unfold endsN
  split
  · exact List.Pairwise.sublist List.filter_sublist List.pairwise_lt_range
  · exact .nil
theorem inj_map {a b : List Nat} (h : (a.map fun j : Nat => (j : Int)) = b.map fun j : Nat => (j : Int)) : a = b :=
  (List.map_inj_right (fun x y e => Int.ofNat.inj e)).1 h
theorem endsN_shift {x : Rx} {s : List UInt8} {a b : Nat} (hr : rightT x = true) (hl : s.length ≤ 10000) (h : a + b ≤ s.length) : endsN x s (a + b) = (endsN x (s.drop a) b).map (· + a) := by
  have e1 := ends_shift (x := x) (s := s) (i := a + b) hr hl h
  have e2 := ends_shift (x := x) (s := s.drop a) (i := b) hr (by simp; omega) (by simp; omega)
  rw [List.drop_drop] at e2
  rw [endsL_N] at e1 e2
  apply inj_map
  rw [e1, List.map_map]
  have e3 : ((endsN x (s.drop a) b).map fun j : Nat => (j : Int)).map (· + (a : Int)) = ((endsL x (s.drop (a + b)) 0).map fun j => j + (b : Int)).map (· + (a : Int)) := by rw [e2]
  rw [List.map_map, List.map_map] at e3
  have e4 : (endsN x (s.drop a) b).map ((fun j : Nat => (j : Int)) ∘ (· + a)) = (endsN x (s.drop a) b).map ((· + (a : Int)) ∘ fun j : Nat => (j : Int)) := List.map_congr_left fun j _ => by simp
  rw [e4, e3]
  exact List.map_congr_left fun j _ => by simp; omega
/-! ### How many bytes a rule matches -/
noncomputable def longStep (r : Ru) (s : List UInt8) (m h : Nat) : Nat := if r.trail.k = 0 then h else if 0 < h ∧ 0 < (endsN r.trail s h).length then max m ((endsN r.trail s h).getLastD 0) else m
noncomputable def longP (r : Ru) (s : List UInt8) : Nat := (endsN r.rx s 0).foldl (longStep r s) 0
/-! ### How many are its own -/
noncomputable def headP (r : Ru) (s : List UInt8) : Nat := if r.trail.k = 0 then (if s.length ∈ endsN r.rx s 0 then s.length else 0) else ((endsN r.rx s 0).reverse.find? fun h => decide (s.length ∈ endsN r.trail s h)).getD 0
theorem foldl_last {l : List Nat} : ∀ m : Nat, l.foldl (fun _ h => h) m = l.getLastD m := by
  induction l with
  | nil => intro m; rfl
  | cons a l ih => intro m; rw [List.foldl_cons, ih]; cases l <;> rfl
theorem long_spec {r : Ru} {s : List UInt8} (hk : r.trail.k ≠ 0) : ∀ (l : List Nat) (m : Nat), (l.foldl (longStep r s) m = m ∨ ∃ h ∈ l, 0 < h ∧ l.foldl (longStep r s) m ∈ endsN r.trail s h)
  | [], m => .inl rfl
  | h :: l, m => by
    rw [List.foldl_cons]
    rcases long_spec hk l (longStep r s m h) with e | ⟨h', h1, h2, h3⟩
    · rw [e]
      unfold longStep
      rw [if_neg hk]
      split
      · rename_i hc
        rcases Nat.le_total ((endsN r.trail s h).getLastD 0) m with hm | hm
        · exact .inl (Nat.max_eq_left hm)
        · rw [Nat.max_eq_right hm]
          refine .inr ⟨h, by simp, hc.1, ?_⟩
          have hne : endsN r.trail s h ≠ [] := List.length_pos_iff.1 hc.2
          rw [List.getLastD_eq_getLast?, List.getLast?_eq_some_getLast hne]
          exact List.getLast_mem hne
      · exact .inl rfl
    · exact .inr ⟨h', by simp [h1], h2, h3⟩
/-- What is matched has a beginning of its own. -/
theorem head_pos {r : Ru} {s : List UInt8} (hr : rightT r.rx = true) (ht : r.trail.k = 0 ∨ rightT r.trail = true) (hl : s.length ≤ 10000) (h : 0 < longP r s) :
    longP r s ≤ s.length ∧ 0 < headP r (s.take (longP r s)) ∧ headP r (s.take (longP r s)) ≤ longP r s := by
  have hcut : ∀ {x : Rx} {n i j : Nat}, rightT x = true → n ≤ s.length → j ≤ n → (R (s.take n) x i j ↔ R s x i j) := fun {x n i j} hx hn hj => by
    have := R_cut (t := s) (a := 0) (b := n) (by omega) x i j hj
    simpa using this
  by_cases hk : r.trail.k = 0
  · have e : longP r s = (endsN r.rx s 0).getLastD 0 := by
      unfold longP
      rw [← foldl_last]
      congr 1
      funext m h
      simp [longStep, hk]
    have hne : endsN r.rx s 0 ≠ [] := fun h0 => by rw [e, h0] at h; simp at h
    have hm : longP r s ∈ endsN r.rx s 0 := by
      rw [e, List.getLastD_eq_getLast?, List.getLast?_eq_some_getLast hne]
      exact List.getLast_mem hne
    have hle := (endsN_le hm).2
    have hR := (endsN_mem hr hl (Nat.zero_le _)).1 hm
    have hlen : (s.take (longP r s)).length = longP r s := by simp; omega
    have hin : (s.take (longP r s)).length ∈ endsN r.rx (s.take (longP r s)) 0 := by
      rw [endsN_mem hr (by rw [hlen]; omega) (Nat.zero_le _), hlen, hcut hr hle (Nat.le_refl _)]
      exact hR
    unfold headP
    rw [if_pos hk, if_pos hin, hlen]
    exact ⟨hle, h, Nat.le_refl _⟩
  · have htr : rightT r.trail = true := by rcases ht with ht | ht; exact absurd ht hk; exact ht
    rcases long_spec (s := s) hk (endsN r.rx s 0) 0 with e | ⟨g, g1, g2, g3⟩
    · exact absurd e (by unfold longP at h; omega)
    · have g3 : longP r s ∈ endsN r.trail s g := g3
      have hle := (endsN_le g3).2
      have hgl := (endsN_le g3).1
      have hgs := (endsN_le g1).2
      have hR1 := (endsN_mem hr hl (Nat.zero_le _)).1 g1
      have hR2 := (endsN_mem htr hl hgs).1 g3
      have hlen : (s.take (longP r s)).length = longP r s := by simp; omega
      have hg : g ∈ endsN r.rx (s.take (longP r s)) 0 := by
        rw [endsN_mem hr (by rw [hlen]; omega) (Nat.zero_le _), hcut hr hle hgl]
        exact hR1
      have hq : decide ((s.take (longP r s)).length ∈ endsN r.trail (s.take (longP r s)) g) = true := by
        rw [decide_eq_true_eq, endsN_mem htr (by rw [hlen]; omega) (by rw [hlen]; exact hgl), hlen, hcut htr hle (Nat.le_refl _)]
        exact hR2
      unfold headP
      rw [if_neg hk]
      obtain ⟨l1, l2, hsp⟩ := List.append_of_mem (List.mem_reverse.2 hg)
      have hrise := endsN_rise r.rx (s.take (longP r s)) 0
      cases hf : (endsN r.rx (s.take (longP r s)) 0).reverse.find? fun h => decide ((s.take (longP r s)).length ∈ endsN r.trail (s.take (longP r s)) h) with
      | none =>
        have := List.find?_eq_none.1 hf g (List.mem_reverse.2 hg)
        exact absurd hq this
      | some v =>
        rw [Option.getD_some]
        have hvm := List.mem_reverse.1 (List.mem_of_find?_eq_some hf)
        have hvl := (endsN_le hvm).2
        rw [hlen] at hvl
        refine ⟨hle, ?_, hvl⟩
        rcases Nat.lt_or_ge v g with hlt | hge
        · exfalso
          -- g stands ahead of v in what is looked through
          have hrev : (endsN r.rx (s.take (longP r s)) 0).reverse.Pairwise (· > ·) := by
            rw [List.pairwise_reverse]; exact hrise
          obtain ⟨_, a1, a2, e1, e2⟩ := List.find?_eq_some_iff_append.1 hf
          have hgm := List.mem_reverse.2 hg
          rw [e1, List.mem_append, List.mem_cons] at hgm
          rcases hgm with hgm | rfl | hgm
          · have := e2 g hgm
            simp only [Bool.not_eq_true', decide_eq_false_iff_not] at this
            exact this (of_decide_eq_true hq)
          · omega
          · rw [e1, List.pairwise_append, List.pairwise_cons] at hrev
            have := hrev.2.1.1 g hgm
            omega
        · omega
end Go.Hk
/- Layer 8, the plain law: what is picked, and what an input is. -/
namespace Go.Hk
/-- Does a line begin here? -/
def bolB (w : List UInt8) (at_ : Nat) : Bool := decide (at_ = 0) || decide (w.getD (at_ - 1) 0 = 10)
def mayB (s : Sp) (w : List UInt8) (at_ : Nat) (cond : Int) (i : Nat) (r : Ru) : Bool := !r.eof && (bolB w at_ || !r.bol) && activeS s (i : Int) cond
/-- One rule more. -/
noncomputable def pickStep (s : Sp) (w : List UInt8) (at_ : Nat) (cond : Int) (p : Int × Nat) (i : Nat) (r : Ru) : Int × Nat :=
  if mayB s w at_ cond i r = true ∧ p.2 < longP r (w.drop at_) then ((i : Int), longP r (w.drop at_)) else p
noncomputable def pickTo (s : Sp) (w : List UInt8) (at_ : Nat) (cond : Int) : Nat → Int × Nat
  | 0 => (-1, 0)
  | i + 1 => match s.rules[i]? with
    | some r => pickStep s w at_ cond (pickTo s w at_ cond i) i r
    | none => pickTo s w at_ cond i
noncomputable def pickP (s : Sp) (w : List UInt8) (at_ : Nat) (cond : Int) : Int × Nat := pickTo s w at_ cond s.rules.length
theorem pickTo_next {s : Sp} {w : List UInt8} {at_ i : Nat} {cond : Int} {r : Ru} (h : s.rules[i]? = some r) : pickTo s w at_ cond (i + 1) = pickStep s w at_ cond (pickTo s w at_ cond i) i r := by
  simp only [pickTo, h]
theorem pickTo_spec {s : Sp} {w : List UInt8} {at_ : Nat} {cond : Int} : ∀ n : Nat, pickTo s w at_ cond n = (-1, 0) ∨ ∃ i r, i < n ∧ s.rules[i]? = some r ∧ mayB s w at_ cond i r = true ∧ pickTo s w at_ cond n = ((i : Int), longP r (w.drop at_)) ∧ 0 < longP r (w.drop at_)
  | 0 => .inl rfl
  | n + 1 => by
    have ih := pickTo_spec (s := s) (w := w) (at_ := at_) (cond := cond) n
    cases hr : s.rules[n]? with
    | none =>
      simp only [pickTo, hr]
      rcases ih with ih | ⟨i, r, h1, h2⟩
      · exact .inl ih
      · exact .inr ⟨i, r, by omega, h2⟩
    | some r =>
      rw [pickTo_next hr, pickStep]
      split
      · rename_i hc
        exact .inr ⟨n, r, by omega, hr, hc.1, rfl, by omega⟩
      · rcases ih with ih | ⟨i, r, h1, h2⟩
        · exact .inl ih
        · exact .inr ⟨i, r, by omega, h2⟩
/-- The rule for the end. -/
def eofTo (s : Sp) (cond : Int) (n : Nat) : Option Nat := (List.range n).find? fun i => match s.rules[i]? with | some r => r.eof && activeS s (i : Int) cond | none => false
def eofP (s : Sp) (cond : Int) : Int := match eofTo s cond s.rules.length with | some i => i | none => -1
/-- A token. -/
structure Tok where
  rule : Int
  st : Nat
  en : Nat
  cond : Int
def cTok (t : Tok) : List AVal := [.int .i64 t.rule, .int .i64 (t.st : Nat), .int .i64 (t.en : Nat), .int .i64 t.cond]
/-- What comes next, from a place on in a condition: a token, the place behind it, the condition there; or it jams. -/
noncomputable def nextT (s : Sp) (w : List UInt8) (at_ : Nat) (cond : Int) : Option (Tok × Nat × Int) :=
  let p := pickP s w at_ cond
  match s.rules[p.1.toNat]? with
  | some r => if 0 ≤ p.1 then
      let h := headP r ((w.drop at_).take p.2)
      some (⟨p.1, at_, at_ + h, cond⟩, at_ + h, if r.act = 3 then r.to else cond)
    else if s.deft then some (⟨-1, at_, at_ + 1, cond⟩, at_ + 1, cond) else none
  | none => if s.deft then some (⟨-1, at_, at_ + 1, cond⟩, at_ + 1, cond) else none
noncomputable def toksP (s : Sp) (w : List UInt8) : Nat → Nat → Int → List Tok × Int
  | 0, _, _ => ([], -1)
  | f + 1, at_, cond =>
    if at_ < w.length then
      match nextT s w at_ cond with
      | some (t, a, c) => (t :: (toksP s w f a c).1, (toksP s w f a c).2)
      | none => ([], (at_ : Int))
    else if 0 ≤ eofP s cond then ([⟨eofP s cond, at_, at_, cond⟩], -1) else ([], -1)
end Go.Hk
/- Layer 8, the plain law: what is picked does not look ahead. -/
namespace Go.Hk
/-! ### Rules that may be -/
theorem noneX_k {x : Rx} (h : noneX x = true) : x.k = 0 := by
  rw [noneX_eq h]; rfl
theorem rule_right {s : Sp} (h : rightS s = true) {i : Nat} {r : Ru} (hr : s.rules[i]? = some r) (he : r.eof = false) : rightT r.rx = true ∧ (r.trail.k = 0 ∨ rightT r.trail = true) := by
  simp only [rightS, Bool.and_eq_true, List.all_eq_true] at h
  have := h.2 r (List.mem_of_getElem? hr)
  simp only [ruleB, matchB, he, Bool.false_eq_true, if_false, Bool.and_eq_true, Bool.or_eq_true] at this
  obtain ⟨_, h1, h2⟩ := this
  refine ⟨h1, ?_⟩
  rcases h2 with h2 | h2
  · exact .inl (noneX_k h2)
  · exact .inr h2
end Go.Hk
namespace Go.Hk
theorem head_match {r : Ru} {s : List UInt8} (hr : rightT r.rx = true) (hl : s.length ≤ 10000) (h : 0 < headP r s) : R s r.rx 0 (headP r s) := by
  unfold headP at h ⊢
  split at h
  · rename_i hk
    rw [if_pos hk]
    split at h
    · rename_i hm
      rw [if_pos hm]
      exact (endsN_mem hr hl (Nat.zero_le _)).1 hm
    · omega
  · rename_i hk
    rw [if_neg hk]
    cases hf : (endsN r.rx s 0).reverse.find? fun h => decide (s.length ∈ endsN r.trail s h) with
    | none => rw [hf] at h; simp at h
    | some v =>
      rw [Option.getD_some]
      exact (endsN_mem hr hl (Nat.zero_le _)).1 (List.mem_reverse.1 (List.mem_of_find?_eq_some hf))
/-- What is picked, and what comes of it. -/
theorem next_spec {s : Sp} {w : List UInt8} {at_ : Nat} {cond : Int} (h : rightS s = true) (hl : w.length ≤ 10000) (ha : at_ < w.length) :
    (pickP s w at_ cond = (-1, 0) ∧ nextT s w at_ cond = if s.deft then some (⟨-1, at_, at_ + 1, cond⟩, at_ + 1, cond) else none) ∨
    ∃ i r, s.rules[i]? = some r ∧ mayB s w at_ cond i r = true ∧ pickP s w at_ cond = ((i : Int), longP r (w.drop at_)) ∧ 0 < longP r (w.drop at_) ∧ at_ + longP r (w.drop at_) ≤ w.length ∧
      0 < headP r ((w.drop at_).take (longP r (w.drop at_))) ∧ headP r ((w.drop at_).take (longP r (w.drop at_))) ≤ longP r (w.drop at_) ∧
      R w r.rx at_ (at_ + headP r ((w.drop at_).take (longP r (w.drop at_)))) ∧
      nextT s w at_ cond = some (⟨(i : Int), at_, at_ + headP r ((w.drop at_).take (longP r (w.drop at_))), cond⟩, at_ + headP r ((w.drop at_).take (longP r (w.drop at_))), if r.act = 3 then r.to else cond) := by
  rcases pickTo_spec (s := s) (w := w) (at_ := at_) (cond := cond) s.rules.length with e | ⟨i, r, h1, h2, h3, h4, h5⟩
  · left
    have e : pickP s w at_ cond = (-1, 0) := e
    refine ⟨e, ?_⟩
    unfold nextT
    rw [e]
    simp only
    split
    · rw [if_neg (by omega)]
    · rfl
  · right
    have h4 : pickP s w at_ cond = ((i : Int), longP r (w.drop at_)) := h4
    have he : r.eof = false := by
      unfold mayB at h3
      simp only [Bool.and_eq_true, Bool.not_eq_true'] at h3
      exact h3.1.1
    obtain ⟨q1, q2⟩ := rule_right h h2 he
    have hdl : (w.drop at_).length = w.length - at_ := by simp
    obtain ⟨p1, p2, p3⟩ := head_pos q1 q2 (by rw [hdl]; omega) h5
    rw [hdl] at p1
    have hm := head_match (s := (w.drop at_).take (longP r (w.drop at_))) q1 (by simp; omega) p2
    have hR := (R_cut (t := w) (a := at_) (b := longP r (w.drop at_)) (by omega) r.rx 0 _ p3).1 hm
    refine ⟨i, r, h2, h3, h4, h5, by omega, p2, p3, by simpa using hR, ?_⟩
    unfold nextT
    rw [h4]
    simp only [Int.toNat_natCast, h2]
    rw [if_pos (by omega)]
/-- What an input is. -/
inductive Run (s : Sp) (w : List UInt8) : Nat → Int → List Tok → Int → Prop
  | step {at_ a : Nat} {cond c : Int} {t : Tok} {l : List Tok} {j : Int} (h : at_ < w.length) (hn : nextT s w at_ cond = some (t, a, c)) (hr : Run s w a c l j) : Run s w at_ cond (t :: l) j
  | jam {at_ : Nat} {cond : Int} (h : at_ < w.length) (hn : nextT s w at_ cond = none) : Run s w at_ cond [] (at_ : Int)
  | eof {at_ : Nat} {cond : Int} (h : at_ = w.length) (he : 0 ≤ eofP s cond) : Run s w at_ cond [⟨eofP s cond, at_, at_, cond⟩] (-1)
  | fin {at_ : Nat} {cond : Int} (h : at_ = w.length) (he : eofP s cond < 0) : Run s w at_ cond [] (-1)
theorem next_at {s : Sp} {w : List UInt8} {at_ a : Nat} {cond c : Int} {t : Tok} (h : rightS s = true) (hl : w.length ≤ 10000) (ha : at_ < w.length) (hn : nextT s w at_ cond = some (t, a, c)) : at_ < a ∧ a ≤ w.length := by
  rcases next_spec (cond := cond) h hl ha with ⟨_, e⟩ | ⟨i, r, _, _, _, h1, h2, h3, h4, _, e⟩
  · rw [e] at hn
    split at hn
    · simp only [Option.some.injEq, Prod.mk.injEq] at hn
      obtain ⟨_, rfl, _⟩ := hn
      omega
    · cases hn
  · rw [e] at hn
    simp only [Option.some.injEq, Prod.mk.injEq] at hn
    obtain ⟨_, rfl, _⟩ := hn
    omega
theorem toks_run {s : Sp} {w : List UInt8} (h : rightS s = true) (hl : w.length ≤ 10000) : ∀ (f at_ : Nat) (cond : Int), at_ ≤ w.length → w.length - at_ < f → Run s w at_ cond (toksP s w f at_ cond).1 (toksP s w f at_ cond).2
  | 0, at_, cond, _, hf => by omega
  | f + 1, at_, cond, ha, hf => by
    rw [toksP]
    by_cases hlt : at_ < w.length
    · rw [if_pos hlt]
      cases hn : nextT s w at_ cond with
      | none => exact .jam hlt hn
      | some p =>
        obtain ⟨t, a, c⟩ := p
        have := next_at h hl hlt hn
        exact .step hlt hn (toks_run h hl f a c this.2 (by omega))
    · rw [if_neg hlt]
      by_cases he : 0 ≤ eofP s cond
      · rw [if_pos he]; exact .eof (by omega) he
      · rw [if_neg he]; exact .fin (by omega) (by omega)
end Go.Hk
namespace Go.Hk
theorem next_tok {s : Sp} {w : List UInt8} {at_ a : Nat} {cond c : Int} {t : Tok} (hn : nextT s w at_ cond = some (t, a, c)) : t.st = at_ ∧ t.cond = cond ∧ t.en = a := by
  unfold nextT at hn
  simp only at hn
  split at hn
  · split at hn
    · simp only [Option.some.injEq, Prod.mk.injEq] at hn
      obtain ⟨rfl, rfl, _⟩ := hn
      exact ⟨rfl, rfl, rfl⟩
    · split at hn
      · simp only [Option.some.injEq, Prod.mk.injEq] at hn
        obtain ⟨rfl, rfl, _⟩ := hn
        exact ⟨rfl, rfl, rfl⟩
      · cases hn
  · split at hn
    · simp only [Option.some.injEq, Prod.mk.injEq] at hn
      obtain ⟨rfl, rfl, _⟩ := hn
      exact ⟨rfl, rfl, rfl⟩
    · cases hn
end Go.Hk
/- Layer 8, the plain law: what an input is, token by token. -/
namespace Go.Hk
theorem rule_to {s : Sp} (h : rightS s = true) {i : Nat} {r : Ru} (hr : s.rules[i]? = some r) (ha : r.act = 3) : 0 ≤ r.to ∧ r.to < s.conds.length := by
  simp only [rightS, Bool.and_eq_true, List.all_eq_true] at h
  have := h.2 r (List.mem_of_getElem? hr)
  simp only [ruleB, doesB, ha, if_true, Bool.and_eq_true, decide_eq_true_eq] at this
  exact this.1.2
/-- The condition behind a token. -/
def condTo (s : Sp) (t : Tok) : Int := match s.rules[t.rule.toNat]? with
  | some r => if 0 ≤ t.rule ∧ r.act = 3 then r.to else t.cond
  | none => t.cond
theorem next_cond {s : Sp} {w : List UInt8} {at_ a : Nat} {cond c : Int} {t : Tok} (h : rightS s = true) (hl : w.length ≤ 10000) (ha : at_ < w.length) (hc : 0 ≤ cond ∧ cond < s.conds.length) (hn : nextT s w at_ cond = some (t, a, c)) : c = condTo s t ∧ 0 ≤ c ∧ c < s.conds.length := by
  rcases next_spec (cond := cond) h hl ha with ⟨_, e⟩ | ⟨i, r, h1, _, _, _, _, _, _, _, e⟩
  · rw [e] at hn
    split at hn
    · simp only [Option.some.injEq, Prod.mk.injEq] at hn
      obtain ⟨rfl, _, rfl⟩ := hn
      refine ⟨?_, hc⟩
      unfold condTo
      split <;> simp
    · cases hn
  · rw [e] at hn
    simp only [Option.some.injEq, Prod.mk.injEq] at hn
    obtain ⟨rfl, _, rfl⟩ := hn
    have ec : condTo s ⟨(i : Int), at_, at_ + headP r ((w.drop at_).take (longP r (w.drop at_))), cond⟩ = if r.act = 3 then r.to else cond := by
      unfold condTo
      simp [h1]
    rw [ec]
    refine ⟨rfl, ?_⟩
    split
    · rename_i ha
      exact rule_to h h1 ha
    · exact hc
theorem eof_spec {s : Sp} {cond : Int} (he : 0 ≤ eofP s cond) : ∃ i r, eofP s cond = (i : Nat) ∧ s.rules[i]? = some r ∧ r.eof = true ∧ activeS s (i : Int) cond = true := by
  unfold eofP at he ⊢
  cases hf : eofTo s cond s.rules.length with
  | none => rw [hf] at he; simp at he
  | some i =>
    unfold eofTo at hf
    have := List.find?_some hf
    split at this
    · rename_i r hr
      rw [Bool.and_eq_true] at this
      exact ⟨i, r, rfl, hr, this.1, this.2⟩
    · cases this
theorem next_none {s : Sp} {w : List UInt8} {at_ : Nat} {cond : Int} (h : rightS s = true) (hl : w.length ≤ 10000) (ha : at_ < w.length) (hn : nextT s w at_ cond = none) : s.deft = false ∧ pickP s w at_ cond = (-1, 0) := by
  rcases next_spec (cond := cond) h hl ha with ⟨e1, e⟩ | ⟨i, r, h1, _, _, _, _, _, _, _, e⟩
  · rw [e] at hn
    split at hn
    · cases hn
    · rename_i hd
      exact ⟨by simpa using hd, e1⟩
  · rw [e] at hn; cases hn
/-- A token that is no end. -/
theorem tok_spec {s : Sp} {w : List UInt8} {t : Tok} {a : Nat} {c : Int} (h : rightS s = true) (hl : w.length ≤ 10000) (ha : t.st < w.length) (hn : nextT s w t.st t.cond = some (t, a, c)) :
    (t.rule = -1 ∧ t.en = t.st + 1 ∧ s.deft = true ∧ pickP s w t.st t.cond = (-1, 0)) ∨
    ∃ (i : Nat) (r : Ru) (n : Nat), t.rule = (i : Int) ∧ s.rules[i]? = some r ∧ r.eof = false ∧ (bolB w t.st = true ∨ r.bol = false) ∧ activeS s (i : Int) t.cond = true ∧ pickP s w t.st t.cond = ((i : Int), n) ∧ 0 < n ∧ t.st + n ≤ w.length ∧ t.st < t.en ∧ t.en ≤ t.st + n ∧ headP r ((w.drop t.st).take n) = t.en - t.st ∧ rightT r.rx = true ∧ R w r.rx t.st t.en := by
  rcases next_spec (cond := t.cond) h hl ha with ⟨e1, e⟩ | ⟨i, r, h1, h2, h3, h4, h5, h6, h7, h8, e⟩
  · rw [e] at hn
    split at hn
    · rename_i hd
      simp only [Option.some.injEq, Prod.mk.injEq] at hn
      left
      have e2 := hn.1
      exact ⟨by rw [← e2], by rw [← e2], hd, e1⟩
    · cases hn
  · rw [e] at hn
    simp only [Option.some.injEq, Prod.mk.injEq] at hn
    right
    have e2 := hn.1
    have er : t.rule = (i : Int) := by rw [← e2]
    have ee : t.en = t.st + headP r ((w.drop t.st).take (longP r (w.drop t.st))) := by
      have := congrArg Tok.en e2
      exact this.symm
    simp only [mayB, Bool.and_eq_true, Bool.not_eq_true', Bool.or_eq_true] at h2
    refine ⟨i, r, longP r (w.drop t.st), er, h1, h2.1.1, h2.1.2, h2.2, h3, h4, h5, by omega, by omega, by omega, (rule_right h h1 h2.1.1).1, ?_⟩
    rw [ee]; exact h8
theorem toks_len {s : Sp} {w : List UInt8} (h : rightS s = true) (hl : w.length ≤ 10000) {at_ : Nat} {cond : Int} {l : List Tok} {j : Int} (hr : Run s w at_ cond l j) : l.length ≤ w.length - at_ + 1 := by
  induction hr with
  | @step at_ a cond c t l j h1 h2 h3 ih =>
    have := next_at h hl h1 h2
    simp only [List.length_cons]
    omega
  | jam _ _ => simp
  | fin _ _ => simp
  | eof _ _ => simp
end Go.Hk
/- Regions in more than one order, in a function that ranges over a function; lists of places, read backwards. -/
namespace Go.Hk
def gamv (x : List (Nat × OT)) (n : Nat) (l : List (FuncId × Con)) : Gam := ⟨gamF l, fun i => (x.find? (·.1 == i)).map (·.2), fun _ => false, false, fun _ _ _ => none, n⟩
theorem Sound.v {P : Program} {x : List (Nat × OT)} {n : Nat} {l : List (FuncId × Con)} (h : Sound P (gam l)) : Sound P (gamv x n l) := ⟨h.fn, fun _ _ _ _ _ h => by cases h⟩
theorem e_gamv {x : List (Nat × OT)} {n : Nat} {l : List (FuncId × Con)} {f : FuncId} : (gamv x n l).con f = (gam l).con f := rfl
theorem e_gamv_dy {x : List (Nat × OT)} {n : Nat} {l : List (FuncId × Con)} : (gamv x n l).dy = false := rfl
section
variable {P : Program} {mu : Bool} {n hk tk : Nat} {Q : Exit → St → Prop} {e : List (Nat × AVal)} {m : AMem} {l : List Oper}
theorem e_w_regionv {k : Nat} {t : OT} {L : List (FuncId × Con)} {id : Nat} {d : Bool} (h : ¬ id = k) : W P (gamv [(k, t)] n L) mu hk tk (.region id l.toArray d) Q ⟨e, m⟩ = regW (opsO P (gamv [(k, t)] n L) mu (prep l l) (some ⟨e, m⟩)) Q := e_w_region0 (by
  have : (k == id) = false := beq_eq_false_iff_ne.2 fun h' => h h'.symm
  simp only [gamv, List.find?, this]; rfl) rfl
theorem w_region_2v {x : List (Nat × OT)} {L : List (FuncId × Con)} {id : Nat} {d : Bool} {t : OT} {l1 l2 : List Oper} (h : (gamv x n L).ex id = some t) (ho : (orders t).map (pickO' l.toArray) = [some l1, some l2])
    (h1 : regW (opsO P (gamv x n L) mu (prep l l1) (some ⟨e, m⟩)) Q) (h2 : regW (opsO P (gamv x n L) mu (prep l l2) (some ⟨e, m⟩)) Q) : W P (gamv x n L) mu hk tk (.region id l.toArray d) Q ⟨e, m⟩ := by
  rw [W_eq]
  have hn : (gamv x n L).nx id = false := rfl
  simp only [W0, h, hn, Bool.false_eq_true, if_false]
  refine otW_orders t _ fun p hp => ?_
  have hm : pickO' l.toArray p ∈ [some l1, some l2] := by rw [← ho]; exact List.mem_map.2 ⟨p, hp, rfl⟩
  simp only [List.mem_cons, List.not_mem_nil, or_false] at hm
  rcases hm with hm | hm
  · rw [← aops_opsO] at h1
    cases hs : aops P (gamv x n L) mu l.toArray l1 ⟨e, m⟩ with
    | none => rw [hs] at h1; exact h1.elim
    | some s' => rw [hs] at h1; exact ⟨l1, s', hm, hs, h1⟩
  · rw [← aops_opsO] at h2
    cases hs : aops P (gamv x n L) mu l.toArray l2 ⟨e, m⟩ with
    | none => rw [hs] at h2; exact h2.elim
    | some s' => rw [hs] at h2; exact ⟨l2, s', hm, hs, h2⟩
end
attribute [go_sem] e_gamv e_gamv_dy e_w_regionv
/-! ### Numbers ars cells -/
def cN (l : List Nat) : List AVal := fl cI (l.map fun j : Nat => (j : Int))
theorem cN_get {l : List Nat} {i v : Nat} (h : l[i]? = some v) : (cN l)[i]? = some (.int .i64 (v : Nat)) := fl_cI_get (by rw [List.getElem?_map, h]; rfl)
theorem slc_N {l : List Int} {k : List Nat} (h : l = k.map fun j : Nat => (j : Int)) : slc cI l = .sl .no k.length (cN k) := by subst h; simp [slc, cN]
theorem l_s_cN {l : List Nat} : stripL (cN l) = some (cN l) := fl_strip cI_strip _
theorem l_n_cN {l : List Nat} : (cN l).length = l.length := by unfold cN; rw [fl_len cI_len]; simp
attribute [go_sem] l_s_cN l_n_cN
theorem find_rev_at {p : Nat → Bool} {l : List Nat} {i v : Nat} (h : l[i]? = some v) (hq : ∀ y ∈ l.drop (i + 1), p y = false) (hp : p v = true) : l.reverse.find? p = some v := by
  have e : l = l.take i ++ (v :: l.drop (i + 1)) := by
    obtain ⟨hi, rfl⟩ := List.getElem?_eq_some_iff.1 h
    rw [← List.drop_eq_getElem_cons hi, List.take_append_drop]
  generalize l.drop (i + 1) = d at *
  generalize l.take i = c at *
  subst e
  rw [ List.reverse_append, List.reverse_cons, List.append_assoc, List.find?_append]
  have : d.reverse.find? p = none := List.find?_eq_none.2 fun y hy => by rw [hq y (List.mem_reverse.1 hy)]; simp
  rw [this]
  simp [hp]
theorem find_rev_none {p : Nat → Bool} {l : List Nat} (hq : ∀ y ∈ l, p y = false) : l.reverse.find? p = none := List.find?_eq_none.2 fun y hy => by rw [hq y (List.mem_reverse.1 hy)]; simp
theorem drop_step {p : Nat → Bool} {l : List Nat} {i v : Nat} (h : l[i]? = some v) (hq : ∀ y ∈ l.drop (i + 1), p y = false) (hp : p v = false) : ∀ y ∈ l.drop i, p y = false := by
  obtain ⟨hi, rfl⟩ := List.getElem?_eq_some_iff.1 h
  rw [List.drop_eq_getElem_cons hi]
  intro y hy
  rcases List.mem_cons.1 hy with rfl | hy
  · exact hp
  · exact hq y hy
end Go.Hk
/- Layer 8: tokens ars cells; what an input is, ars it is answered. -/
namespace Go.Hk
def tokV (t : Tok) : AVal := .agg (cTok t)
theorem cTok_len (t : Tok) : (cTok t).length = 4 := rfl
theorem cTok_strip (t : Tok) : stripL (cTok t) = some (cTok t) := rfl
theorem l_s_cTok {l : List Tok} : stripL (fl cTok l) = some (fl cTok l) := fl_strip cTok_strip l
theorem l_n_cTok {l : List Tok} : (fl cTok l).length = l.length * 4 := fl_len cTok_len l
theorem c_flTok {h t : Nat} {l : List Tok} : cloL h t (fl cTok l) = true := cloL_strip _ _ l_s_cTok
attribute [go_sem] l_s_cTok l_n_cTok c_flTok
/-- A result. -/
def cRes (l : List Tok) (j : Int) : List AVal := [.sl .no l.length (fl cTok l), .int .i64 j]
def resV (l : List Tok) (j : Int) : AVal := .agg (cRes l j)
noncomputable def toksQ (s : Sp) (w : List UInt8) : (List Tok × Int) × Int := if w.length ≤ 10000 ∧ rightS s = true then (toksP s w (w.length + 1) 0 0, 0) else (([], 0), 1)
end Go.Hk
/- Layer 8: what is told at the beginning. -/
namespace Go.Hk
def azX : Rx := .mk 2 (ofN 97 122) 0 0 []
theorem azX_ok : okX azX := .mk (by omega) (ofN_lt _ _) (by omega) (by omega) (by simp) (fun y hy => by cases hy)
def mR0 : Ru := ⟨[], false, false, stK, noX, false, 1, 0⟩
def mR1 : Ru := ⟨[], false, false, chX 97, chX 98, false, 2, 0⟩
def mR2 : Ru := ⟨[], false, false, azX, noX, false, 1, 0⟩
def mS : Sp := ⟨[⟨initial, false⟩], false, [mR0, mR1, mR2]⟩
theorem mR0_ok : okRu mR0 := ⟨by simp [mR0], stK_ok, noX_ok⟩
theorem mR1_ok : okRu mR1 := ⟨by simp [mR1], chX_ok _, chX_ok _⟩
theorem mR2_ok : okRu mR2 := ⟨by simp [mR2], azX_ok, noX_ok⟩
theorem mS_ok : okSp mS := ⟨by simp [mS], by simp [mS], by simp [mS, initial], by simp [mS, mR0_ok, mR1_ok, mR2_ok]⟩
theorem mS_right : rightS mS = true := by decide +kernel
theorem R_az {t : List UInt8} {i j : Nat} : R t azX i j ↔ i < t.length ∧ (97 ≤ (t.getD i 0).toNat ∧ (t.getD i 0).toNat ≤ 122) ∧ j = i + 1 := by
  have hc := (t.getD i 0).toNat_lt
  rw [R_k2 (x := azX) rfl]
  have e : azX.s = ofN 97 122 := by simp only [azX, Rx.s]
  rw [e]
  have : (ofN 97 122).testBit (t.getD i 0).toNat = decide (97 ≤ (t.getD i 0).toNat ∧ (t.getD i 0).toNat ≤ 122) := by
    unfold ofN
    rw [mk_bit]
    simp only [inOf]
    rw [Bool.eq_iff_iff]
    simp only [Bool.and_eq_true, decide_eq_true_eq]
    omega
  rw [this, decide_eq_true_eq]
theorem endsN_eq {x : Rx} {s : List UInt8} {i : Nat} (A : List Nat) (hr : rightT x = true) (hl : s.length ≤ 10000) (hi : i ≤ s.length) (h : ∀ j, R s x i j ↔ j ∈ A) (hA : ((List.range (s.length + 1)).filter fun j => decide (j ∈ A)) = A) : endsN x s i = A := by
  unfold endsN
  rw [if_pos ⟨hr, hl, hi⟩, cset_of (A := A) fun j _ => h j, hA]
theorem stK_right : rightT stK = true := by decide +kernel
theorem ch97_right : rightT (chX 97) = true := by decide +kernel
theorem ch98_right : rightT (chX 98) = true := by decide +kernel
theorem azX_right : rightT azX = true := by decide +kernel
theorem en_stK {s : List UInt8} {i : Nat} (A : List Nat) (hl : s.length ≤ 10000) (hi : i ≤ s.length) (h : A = if i + 1 < s.length ∧ (s.getD i 0).toNat = 97 ∧ (s.getD (i + 1) 0).toNat = 98 then [i + 2] else []) (hA : ((List.range (s.length + 1)).filter fun j => decide (j ∈ A)) = A) : endsN stK s i = A :=
  endsN_eq A stK_right hl hi (fun j => by rw [R_stK, h]; split <;> simp <;> grind) hA
theorem en_ch {b : Nat} {s : List UInt8} {i : Nat} (A : List Nat) (hb : b < 256) (hr : rightT (chX (b : Int)) = true) (hl : s.length ≤ 10000) (hi : i ≤ s.length) (h : A = if i < s.length ∧ (s.getD i 0).toNat = b then [i + 1] else []) (hA : ((List.range (s.length + 1)).filter fun j => decide (j ∈ A)) = A) : endsN (chX (b : Int)) s i = A :=
  endsN_eq A hr hl hi (fun j => by rw [R_chX hb, h]; split <;> simp <;> grind) hA
theorem en_az {s : List UInt8} {i : Nat} (A : List Nat) (hl : s.length ≤ 10000) (hi : i ≤ s.length) (h : A = if i < s.length ∧ 97 ≤ (s.getD i 0).toNat ∧ (s.getD i 0).toNat ≤ 122 then [i + 1] else []) (hA : ((List.range (s.length + 1)).filter fun j => decide (j ∈ A)) = A) : endsN azX s i = A :=
  endsN_eq A azX_right hl hi (fun j => by rw [R_az, h]; split <;> simp <;> grind) hA
theorem lg_a {r : Ru} {s : List UInt8} {A : List Nat} (hk : r.trail.k = 0) (e : endsN r.rx s 0 = A) : longP r s = A.getLastD 0 := by
  unfold longP
  rw [e, ← foldl_last]
  congr 1
  funext m h
  simp [longStep, hk]
theorem lg_b {r : Ru} {s : List UInt8} {h : Nat} {A : List Nat} (hk : r.trail.k ≠ 0) (e : endsN r.rx s 0 = [h + 1]) (e2 : endsN r.trail s (h + 1) = A) : longP r s = A.getLastD 0 := by
  unfold longP
  rw [e]
  simp only [List.foldl_cons, List.foldl_nil, longStep, if_neg hk, e2]
  cases A <;> simp
theorem lg_c {r : Ru} {s : List UInt8} (e : endsN r.rx s 0 = []) : longP r s = 0 := by
  unfold longP
  rw [e]; rfl
theorem lga0 : longP mR0 [97, 98, 99, 45] = 2 := lg_a (A := [2]) (by decide) (en_stK [2] (by decide) (by decide) (by decide) (by decide))
theorem lga1 : longP mR1 [97, 98, 99, 45] = 2 := lg_b (h := 0) (A := [2]) (by decide) (en_ch (b := 97) [1] (by decide) ch97_right (by decide) (by decide) (by decide) (by decide)) (en_ch (b := 98) [2] (by decide) ch98_right (by decide) (by decide) (by decide) (by decide))
theorem lga2 : longP mR2 [97, 98, 99, 45] = 1 := lg_a (A := [1]) (by decide) (en_az [1] (by decide) (by decide) (by decide) (by decide))
theorem lgc0 : longP mR0 [99, 45] = 0 := lg_a (A := []) (by decide) (en_stK [] (by decide) (by decide) (by decide) (by decide))
theorem lgc1 : longP mR1 [99, 45] = 0 := lg_c (en_ch (b := 97) [] (by decide) ch97_right (by decide) (by decide) (by decide) (by decide))
theorem lgc2 : longP mR2 [99, 45] = 1 := lg_a (A := [1]) (by decide) (en_az [1] (by decide) (by decide) (by decide) (by decide))
theorem lgm0 : longP mR0 [45] = 0 := lg_a (A := []) (by decide) (en_stK [] (by decide) (by decide) (by decide) (by decide))
theorem lgm1 : longP mR1 [45] = 0 := lg_c (en_ch (b := 97) [] (by decide) ch97_right (by decide) (by decide) (by decide) (by decide))
theorem lgm2 : longP mR2 [45] = 0 := lg_a (A := []) (by decide) (en_az [] (by decide) (by decide) (by decide) (by decide))
theorem lgb0 : longP mR0 [97, 98] = 2 := lg_a (A := [2]) (by decide) (en_stK [2] (by decide) (by decide) (by decide) (by decide))
theorem lgb1 : longP mR1 [97, 98] = 2 := lg_b (h := 0) (A := [2]) (by decide) (en_ch (b := 97) [1] (by decide) ch97_right (by decide) (by decide) (by decide) (by decide)) (en_ch (b := 98) [2] (by decide) ch98_right (by decide) (by decide) (by decide) (by decide))
theorem lgb2 : longP mR2 [97, 98] = 1 := lg_a (A := [1]) (by decide) (en_az [1] (by decide) (by decide) (by decide) (by decide))
theorem act0 : activeS mS 0 0 = true := by decide +kernel
theorem act1 : activeS mS 1 0 = true := by decide +kernel
theorem act2 : activeS mS 2 0 = true := by decide +kernel
theorem pick3 {w : List UInt8} {a n0 n1 n2 : Nat} (h0 : longP mR0 (w.drop a) = n0) (h1 : longP mR1 (w.drop a) = n1) (h2 : longP mR2 (w.drop a) = n2) : pickP mS w a 0 =
    (let p0 : Int × Nat := if 0 < n0 then (0, n0) else (-1, 0); let p1 : Int × Nat := if p0.2 < n1 then (1, n1) else p0; if p1.2 < n2 then (2, n2) else p1) := by
  have m0 : mayB mS w a 0 0 mR0 = true := by unfold mayB; rw [show ((0 : Nat) : Int) = 0 from rfl, act0]; simp [mR0]
  have m1 : mayB mS w a 0 1 mR1 = true := by unfold mayB; rw [show ((1 : Nat) : Int) = 1 from rfl, act1]; simp [mR1]
  have m2 : mayB mS w a 0 2 mR2 = true := by unfold mayB; rw [show ((2 : Nat) : Int) = 2 from rfl, act2]; simp [mR2]
  have e : pickP mS w a 0 = pickStep mS w a 0 (pickStep mS w a 0 (pickStep mS w a 0 (-1, 0) 0 mR0) 1 mR1) 2 mR2 := rfl
  rw [e]
  simp only [pickStep, m0, m1, m2, h0, h1, h2, true_and]
  rfl
theorem pk_a : pickP mS [97, 98, 99, 45] 0 0 = (0, 2) := pick3 (w := [97, 98, 99, 45]) (a := 0) lga0 lga1 lga2
theorem pk_c : pickP mS [97, 98, 99, 45] 2 0 = (2, 1) := pick3 (w := [97, 98, 99, 45]) (a := 2) lgc0 lgc1 lgc2
theorem pk_m : pickP mS [97, 98, 99, 45] 3 0 = (-1, 0) := pick3 (w := [97, 98, 99, 45]) (a := 3) lgm0 lgm1 lgm2
theorem pk_b : pickP mS [97, 98] 0 0 = (0, 2) := pick3 (w := [97, 98]) (a := 0) lgb0 lgb1 lgb2
theorem hd_0 : headP mR0 [97, 98] = 2 := by
  have e : endsN mR0.rx [97, 98] 0 = [2] := en_stK [2] (by decide) (by decide) (by decide) (by decide)
  unfold headP
  rw [if_pos (by decide), e]; rfl
theorem hd_2 : headP mR2 [99] = 1 := by
  have e : endsN mR2.rx [99] 0 = [1] := en_az [1] (by decide) (by decide) (by decide) (by decide)
  unfold headP
  rw [if_pos (by decide), e]; rfl
theorem hd_1 : headP mR1 [97, 98] = 1 := by
  have e : endsN mR1.rx [97, 98] 0 = [1] := en_ch (b := 97) [1] (by decide) ch97_right (by decide) (by decide) (by decide) (by decide)
  have e2 : endsN mR1.trail [97, 98] 1 = [2] := en_ch (b := 98) [2] (by decide) ch98_right (by decide) (by decide) (by decide) (by decide)
  unfold headP
  rw [if_neg (by decide), e]
  simp [e2]
theorem nx_a : nextT mS [97, 98, 99, 45] 0 0 = some (⟨0, 0, 2, 0⟩, 2, 0) := by
  have hg : mS.rules[0]? = some mR0 := rfl
  have h0 : headP mR0 (List.take 2 (List.drop 0 [97, 98, 99, 45])) = 2 := hd_0
  unfold nextT
  rw [pk_a]
  simp only [show (0 : Int).toNat = 0 from rfl, hg, h0]
  rfl
theorem nx_c : nextT mS [97, 98, 99, 45] 2 0 = some (⟨2, 2, 3, 0⟩, 3, 0) := by
  have hg : mS.rules[2]? = some mR2 := rfl
  have h0 : headP mR2 (List.take 1 (List.drop 2 [97, 98, 99, 45])) = 1 := hd_2
  unfold nextT
  rw [pk_c]
  simp only [show (2 : Int).toNat = 2 from rfl, hg, h0]
  rfl
theorem nx_m : nextT mS [97, 98, 99, 45] 3 0 = none := by
  unfold nextT
  rw [pk_m]
  rfl
theorem toks_a : toksQ mS [97, 98, 99, 45] = (([⟨0, 0, 2, 0⟩, ⟨2, 2, 3, 0⟩], 3), 0) := by
  unfold toksQ
  rw [if_pos ⟨by decide, mS_right⟩]
  have e : ([97, 98, 99, 45] : List UInt8).length = 4 := rfl
  simp only [e, toksP, nx_a, nx_c, nx_m, show (0 : Nat) < 4 from by decide, show 2 < 4 from by decide, show 3 < 4 from by decide, if_true]
  rfl
theorem toks_n : toksQ noS [] = (([], 0), 1) := by
  unfold toksQ
  rw [if_neg (fun h => by have := h.2; rw [noS_right] at this; cases this)]
end Go.Hk
/- Layer 8: an input of rules by numbers. -/
namespace Go.Hk
structure InQ (s : Sp) (w : List UInt8) (L : List Tok) (J : Int) : Prop where
  ok : okSp s
  ri : rightS s = true
  wl : w.length ≤ 12
  ll : L.length ≤ 13
  c0 : (0 : Int) < s.conds.length
  run : Run s w 0 0 L J
  q : toksQ s w = ((L, J), 0)
theorem right_c0 {s : Sp} (h : rightS s = true) : (0 : Int) < s.conds.length := by
  simp only [rightS, Bool.and_eq_true, decide_eq_true_eq] at h
  omega
theorem inQ {s : Sp} {w : List UInt8} (ok : okSp s) (ri : rightS s = true) (wl : w.length ≤ 12) : ∃ L J, InQ s w L J := by
  have hr := toks_run (s := s) (w := w) ri (by omega) (w.length + 1) 0 0 (Nat.zero_le _) (by omega)
  have hl := toks_len ri (by omega) hr
  refine ⟨(toksP s w (w.length + 1) 0 0).1, (toksP s w (w.length + 1) 0 0).2, ok, ri, wl, by omega, right_c0 ri, hr, ?_⟩
  unfold toksQ
  rw [if_pos ⟨by omega, ri⟩]
end Go.Hk
namespace Go.Hk
end Go.Hk
