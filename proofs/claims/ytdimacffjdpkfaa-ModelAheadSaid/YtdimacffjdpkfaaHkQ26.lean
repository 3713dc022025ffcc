import Derived.Test.YtdimacffjdpkfaaHkQ25
import Derived.Test.YtdimacffjdpkfaaHkQ21
import Derived.Test.YtdimacffjdpkfaaHkQ24
/- Layer 6: what draws rules from a Maker. -/
set_option linter.unusedSimpArgs false
set_option linter.unusedVariables false
namespace Go.Hk
def iSmA (xs : List AVal) (m : AMem) : Option (AVal × AMem) :=
  match xs with
  | [.ptr b 0 0] => mkR (fun _ a => a ≤ 50000) (fun L a => (rV (smallM L a).1, (smallM L a).2)) b m.H m.T m.H[b]?
  | _ => none
theorem iSmA_eq {b : Nat} {H : List ABlk} {T : List (Nat × (Nat × Nat))} : iSmA [.ptr b 0 0] ⟨H, T⟩ = mkR (fun _ a => a ≤ 50000) (fun L a => (rV (smallM L a).1, (smallM L a).2)) b H T H[b]? := rfl
def iRuA (xs : List AVal) (m : AMem) : Option (AVal × AMem) :=
  match xs with
  | [.ptr b 0 0, .int .i64 n, .bool p] => if 1 ≤ n ∧ n ≤ 8 then mkR (fun _ a => a ≤ 10000) (fun L a => (ruV (ruM L n.toNat p a).1, (ruM L n.toNat p a).2)) b m.H m.T m.H[b]? else none
  | _ => none
theorem iRuA_eq {b : Nat} {n : Int} {p : Bool} {H : List ABlk} {T : List (Nat × (Nat × Nat))} (h : 1 ≤ n ∧ n ≤ 8) : iRuA [.ptr b 0 0, .int .i64 n, .bool p] ⟨H, T⟩ = mkR (fun _ a => a ≤ 10000) (fun L a => (ruV (ruM L n.toNat p a).1, (ruM L n.toNat p a).2)) b H T H[b]? := if_pos h
/-- Tokens of a list that grows from nothing, behind others. -/
def gwR0 (T : List (Nat × (Nat × Nat))) (n : Nat) : Rt := if n = 0 then .nil else .tok T.length
def gwT0 (T : List (Nat × (Nat × Nat))) (z : Nat × Nat) (n : Nat) : List (Nat × (Nat × Nat)) := if n = 0 then T else T ++ [(n, z)]
theorem gw_ok {T : List (Nat × (Nat × Nat))} {z : Nat × Nat} {n : Nat} : okR (gwT0 T z n) (gwR0 T n) n z = true := by
  unfold gwT0 gwR0
  split
  · rfl
  · simp [okR]
theorem gw_next {T : List (Nat × (Nat × Nat))} {z : Nat × Nat} {n k : Nat} (hk : k = n + 1) : nxR (gwT0 T z n) (gwR0 T n) = gwR0 T k ∧ nxT (gwT0 T z n) (gwR0 T n) k z = gwT0 T z k := by
  subst hk
  unfold gwT0 gwR0
  by_cases h : n = 0
  · simp [h, nxR, nxT]
  · simp [h, nxR, nxT]
end Go.Hk
namespace Go.Hk
theorem gw_len {T : List (Nat × (Nat × Nat))} {z : Nat × Nat} {n : Nat} : T.length ≤ (gwT0 T z n).length := by unfold gwT0; split <;> simp
theorem gw_clo {T : List (Nat × (Nat × Nat))} {z : Nat × Nat} {n : Nat} : cloR (gwT0 T z n).length (gwR0 T n) = true := by
  unfold gwT0 gwR0
  split
  · rfl
  · simp [cloR]
theorem gw_app {T : List (Nat × (Nat × Nat))} {z : Nat × Nat} {n : Nat} : ∃ X, gwT0 T z n = T ++ X := by
  unfold gwT0
  split
  · exact ⟨[], by simp⟩
  · exact ⟨_, rfl⟩
theorem left_gw {G l : List ABlk} {T : List (Nat × (Nat × Nat))} {z : Nat × Nat} {n : Nat} (h : shut ⟨G, T⟩ = true) : LeftM ⟨G, T⟩ ⟨G ++ l, gwT0 T z n⟩ := by
  obtain ⟨X, e⟩ := gw_app (T := T) (z := z) (n := n)
  rw [e]
  exact .inr ⟨⟨l, X, rfl⟩, h⟩
end Go.Hk
namespace Go.Hk
section
variable {b : Nat} {n : Int} {H : List ABlk} {T : List (Nat × (Nat × Nat))} {k : Nat} {L : List UInt8}
theorem pk_0 (hk : k = L.length) (hL : L.length < 1000000) (hn : 0 < n) (hn2 : n < 1000000) : pkR b n H T (some (.cells 0 [.sl .no k (fl cU L), .int .i64 0])) = some (.int .i64 (pickV L 0 n.toNat : Nat), ⟨H.set b (.cells 0 [.sl .no k (fl cU L), .int .i64 1]), T⟩) := pk_on (a := 0) hk hL (by omega) hn hn2
theorem pk_1 (hk : k = L.length) (hL : L.length < 1000000) (hn : 0 < n) (hn2 : n < 1000000) : pkR b n H T (some (.cells 0 [.sl .no k (fl cU L), .int .i64 1])) = some (.int .i64 (pickV L 1 n.toNat : Nat), ⟨H.set b (.cells 0 [.sl .no k (fl cU L), .int .i64 2]), T⟩) := pk_on (a := 1) hk hL (by omega) hn hn2
theorem pk_2 (hk : k = L.length) (hL : L.length < 1000000) (hn : 0 < n) (hn2 : n < 1000000) : pkR b n H T (some (.cells 0 [.sl .no k (fl cU L), .int .i64 2])) = some (.int .i64 (pickV L 2 n.toNat : Nat), ⟨H.set b (.cells 0 [.sl .no k (fl cU L), .int .i64 3]), T⟩) := pk_on (a := 2) hk hL (by omega) hn hn2
theorem pk_3 (hk : k = L.length) (hL : L.length < 1000000) (hn : 0 < n) (hn2 : n < 1000000) : pkR b n H T (some (.cells 0 [.sl .no k (fl cU L), .int .i64 3])) = some (.int .i64 (pickV L 3 n.toNat : Nat), ⟨H.set b (.cells 0 [.sl .no k (fl cU L), .int .i64 4]), T⟩) := pk_on (a := 3) hk hL (by omega) hn hn2
end
end Go.Hk
namespace Go.Hk
theorem gw_step {T : List (Nat × (Nat × Nat))} {z : Nat × Nat} {n k : Nat} (hk : k ≠ 0) : nxR (gwT0 T z n) (gwR0 T n) = gwR0 T k ∧ nxT (gwT0 T z n) (gwR0 T n) k z = gwT0 T z k := by
  unfold gwT0 gwR0
  by_cases h : n = 0
  · simp [h, hk, nxR, nxT]
  · simp [h, hk, nxR, nxT]
end Go.Hk
/- Layer 5, the plain law: the stage's theorems. -/
namespace Go.Hk
/-! ### All of a text -/
theorem match_not {x : Rx} {s : List UInt8} (hr : rightT x = false) : ¬ (s.length : Int) ∈ endsL x s 0 := by
  unfold endsL
  rw [hr]
  simp
/-! ### What Ends tells rises -/
theorem cset_succ {S : Nat → Prop} {n : Nat} : (S n → cset (n + 1) S = cset n S ++ [n]) ∧ (¬ S n → cset (n + 1) S = cset n S) := by
  unfold cset
  rw [List.range_succ, List.filter_append]
  exact ⟨fun h => by simp [h], fun h => by simp [h]⟩
/-! ### What stands ahead makes no difference -/
theorem ends_shift {x : Rx} {s : List UInt8} {i : Nat} (hr : rightT x = true) (hl : s.length ≤ 10000) (hi : i ≤ s.length) : endsL x s (i : Int) = (endsL x (s.drop i) 0).map fun j => j + (i : Int) := by
  have hdl : (s.drop i).length = s.length - i := by simp
  unfold endsL
  rw [if_pos ⟨hr, hl, by omega, by omega⟩, if_pos ⟨hr, by omega, by omega, by omega⟩, List.map_map, hdl]
  have hR : ∀ j, j ≤ s.length - i → (R (s.drop i) x 0 j ↔ R s x i (i + j)) := fun j hj => by
    have := R_cut (t := s) (a := i) (b := s.length - i) (by omega) x 0 j hj
    rw [List.take_of_length_le (by omega)] at this
    simpa using this
  have e : cset (s.length + 1) (R s x i) = (cset (s.length - i + 1) (R (s.drop i) x 0)).map fun j => j + i := by
    have hz : ∀ m, m ≤ s.length - i + 1 → cset (i + m) (R s x i) = (cset m (R (s.drop i) x 0)).map fun j => j + i := by
      intro m
      induction m with
      | zero =>
        intro _
        have : cset i (R s x i) = [] := List.eq_nil_iff_forall_not_mem.2 fun j hj => by
          obtain ⟨h1, h2⟩ := cset_mem.1 hj
          have := R_mono s x i j h2
          omega
        rw [Nat.add_zero, this]
        rfl
      | succ m ih =>
        intro hm
        have ih := ih (by omega)
        have hRm := hR m (by omega)
        rw [show i + (m + 1) = (i + m) + 1 by omega]
        by_cases hs : R s x i (i + m)
        · rw [cset_succ.1 hs, cset_succ.1 (hRm.2 hs), ih, List.map_append]
          simp; omega
        · rw [cset_succ.2 hs, cset_succ.2 (fun h => hs (hRm.1 h)), ih]
    have := hz (s.length - i + 1) (Nat.le_refl _)
    rw [← this]
    congr 1
    omega
  rw [Int.toNat_natCast, e, List.map_map]
  refine List.map_congr_left fun j _ => ?_
  simp
/-! ### Nothing -/
end Go.Hk
/- Layer 5, the plain law: again and again; parts. -/
namespace Go.Hk
/-! ### A loop without end -/
/-! ### Parts -/
end Go.Hk
namespace Go.Hk
end Go.Hk
/- Layer 8, the plain law: what a rule matches, and what is its own. -/
namespace Go.Hk
/-- Where a pattern ends, from a place on, ars numbers. -/
noncomputable def endsN (x : Rx) (s : List UInt8) (i : Nat) : List Nat := if rightT x = true ∧ s.length ≤ 10000 ∧ i ≤ s.length then cset (s.length + 1) (R s x i) else []
theorem endsL_N (x : Rx) (s : List UInt8) (i : Nat) : endsL x s (i : Int) = (endsN x s i).map fun j : Nat => (j : Int) := by
  unfold endsL endsN
  by_cases h : rightT x = true ∧ s.length ≤ 10000 ∧ i ≤ s.length
  · rw [if_pos h, if_pos ⟨h.1, h.2.1, by omega, by omega⟩, Int.toNat_natCast]
  · rw [if_neg h, if_neg (fun h' => h ⟨h'.1, h'.2.1, by omega⟩)]
    rfl
theorem endsN_mem {x : Rx} {s : List UInt8} {i j : Nat} (hr : rightT x = true) (hl : s.length ≤ 10000) (hi : i ≤ s.length) : j ∈ endsN x s i ↔ R s x i j := by
  unfold endsN
  rw [if_pos ⟨hr, hl, hi⟩, cset_mem]
  exact ⟨fun h => h.2, fun h => ⟨by have := R_le x i j h hi; omega, h⟩⟩
theorem endsN_le {x : Rx} {s : List UInt8} {i j : Nat} (h : j ∈ endsN x s i) : i ≤ j ∧ j ≤ s.length := by
  unfold endsN at h
  split at h
  · have := cset_mem.1 h
    exact ⟨R_mono s x i j this.2, by omega⟩
  · cases h
theorem endsN_rise (x : Rx) (s : List UInt8) (i : Nat) : (endsN x s i).Pairwise (· < ·) := by
  unfold endsN
  split
  · exact List.Pairwise.sublist List.filter_sublist List.pairwise_lt_range
  · exact .nil
theorem inj_map {a b : List Nat} (h : (a.map fun j : Nat => (j : Int)) = b.map fun j : Nat => (j : Int)) : a = b :=
  (List.map_inj_right (fun x y e => Int.ofNat.inj e)).1 h
theorem endsN_shift {x : Rx} {s : List UInt8} {a b : Nat} (hr : rightT x = true) (hl : s.length ≤ 10000) (h : a + b ≤ s.length) : endsN x s (a + b) = (endsN x (s.drop a) b).map (· + a) := by
  have e1 := ends_shift (x := x) (s := s) (i := a + b) hr hl h
  have e2 := ends_shift (x := x) (s := s.drop a) (i := b) hr (by simp; omega) (by simp; omega)
  rw [List.drop_drop] at e2
  rw [endsL_N] at e1 e2
  apply inj_map
  rw [e1, List.map_map]
  have e3 : ((endsN x (s.drop a) b).map fun j : Nat => (j : Int)).map (· + (a : Int)) = ((endsL x (s.drop (a + b)) 0).map fun j => j + (b : Int)).map (· + (a : Int)) := by rw [e2]
  rw [List.map_map, List.map_map] at e3
  have e4 : (endsN x (s.drop a) b).map ((fun j : Nat => (j : Int)) ∘ (· + a)) = (endsN x (s.drop a) b).map ((· + (a : Int)) ∘ fun j : Nat => (j : Int)) := List.map_congr_left fun j _ => by simp
  rw [e4, e3]
  exact List.map_congr_left fun j _ => by simp; omega
/-! ### How many bytes a rule matches -/
noncomputable def longStep (r : Ru) (s : List UInt8) (m h : Nat) : Nat := if r.trail.k = 0 then h else if 0 < h ∧ 0 < (endsN r.trail s h).length then max m ((endsN r.trail s h).getLastD 0) else m
noncomputable def longP (r : Ru) (s : List UInt8) : Nat := (endsN r.rx s 0).foldl (longStep r s) 0
/-! ### How many are its own -/
noncomputable def headP (r : Ru) (s : List UInt8) : Nat := if r.trail.k = 0 then (if s.length ∈ endsN r.rx s 0 then s.length else 0) else ((endsN r.rx s 0).reverse.find? fun h => decide (s.length ∈ endsN r.trail s h)).getD 0
theorem foldl_last {l : List Nat} : ∀ m : Nat, l.foldl (fun _ h => h) m = l.getLastD m := by
  induction l with
  | nil => intro m; rfl
  | cons a l ih => intro m; rw [List.foldl_cons, ih]; cases l <;> rfl
theorem long_spec {r : Ru} {s : List UInt8} (hk : r.trail.k ≠ 0) : ∀ (l : List Nat) (m : Nat), (l.foldl (longStep r s) m = m ∨ ∃ h ∈ l, 0 < h ∧ l.foldl (longStep r s) m ∈ endsN r.trail s h)
  | [], m => .inl rfl
  | h :: l, m => by
    rw [List.foldl_cons]
    rcases long_spec hk l (longStep r s m h) with e | ⟨h', h1, h2, h3⟩
    · rw [e]
      unfold longStep
      rw [if_neg hk]
      split
      · rename_i hc
        rcases Nat.le_total ((endsN r.trail s h).getLastD 0) m with hm | hm
        · exact .inl (Nat.max_eq_left hm)
        · rw [Nat.max_eq_right hm]
          refine .inr ⟨h, by simp, hc.1, ?_⟩
          have hne : endsN r.trail s h ≠ [] := List.length_pos_iff.1 hc.2
          rw [List.getLastD_eq_getLast?, List.getLast?_eq_some_getLast hne]
          exact List.getLast_mem hne
      · exact .inl rfl
    · exact .inr ⟨h', by simp [h1], h2, h3⟩
/-- What is matched has a beginning of its own. -/
theorem head_pos {r : Ru} {s : List UInt8} (hr : rightT r.rx = true) (ht : r.trail.k = 0 ∨ rightT r.trail = true) (hl : s.length ≤ 10000) (h : 0 < longP r s) :
    longP r s ≤ s.length ∧ 0 < headP r (s.take (longP r s)) ∧ headP r (s.take (longP r s)) ≤ longP r s := by
  have hcut : ∀ {x : Rx} {n i j : Nat}, rightT x = true → n ≤ s.length → j ≤ n → (R (s.take n) x i j ↔ R s x i j) := fun {x n i j} hx hn hj => by
    have := R_cut (t := s) (a := 0) (b := n) (by omega) x i j hj
    simpa using this
  by_cases hk : r.trail.k = 0
  · have e : longP r s = (endsN r.rx s 0).getLastD 0 := by
      unfold longP
      rw [← foldl_last]
      congr 1
      funext m h
      simp [longStep, hk]
    have hne : endsN r.rx s 0 ≠ [] := fun h0 => by rw [e, h0] at h; simp at h
    have hm : longP r s ∈ endsN r.rx s 0 := by
      rw [e, List.getLastD_eq_getLast?, List.getLast?_eq_some_getLast hne]
      exact List.getLast_mem hne
    have hle := (endsN_le hm).2
    have hR := (endsN_mem hr hl (Nat.zero_le _)).1 hm
    have hlen : (s.take (longP r s)).length = longP r s := by simp; omega
    have hin : (s.take (longP r s)).length ∈ endsN r.rx (s.take (longP r s)) 0 := by
      rw [endsN_mem hr (by rw [hlen]; omega) (Nat.zero_le _), hlen, hcut hr hle (Nat.le_refl _)]
      exact hR
    unfold headP
    rw [if_pos hk, if_pos hin, hlen]
    exact ⟨hle, h, Nat.le_refl _⟩
  · have htr : rightT r.trail = true := by rcases ht with ht | ht; exact absurd ht hk; exact ht
    rcases long_spec (s := s) hk (endsN r.rx s 0) 0 with e | ⟨g, g1, g2, g3⟩
    · exact absurd e (by unfold longP at h; omega)
    · have g3 : longP r s ∈ endsN r.trail s g := g3
      have hle := (endsN_le g3).2
      have hgl := (endsN_le g3).1
      have hgs := (endsN_le g1).2
      have hR1 := (endsN_mem hr hl (Nat.zero_le _)).1 g1
      have hR2 := (endsN_mem htr hl hgs).1 g3
      have hlen : (s.take (longP r s)).length = longP r s := by simp; omega
      have hg : g ∈ endsN r.rx (s.take (longP r s)) 0 := by
        rw [endsN_mem hr (by rw [hlen]; omega) (Nat.zero_le _), hcut hr hle hgl]
        exact hR1
      have hq : decide ((s.take (longP r s)).length ∈ endsN r.trail (s.take (longP r s)) g) = true := by
        rw [decide_eq_true_eq, endsN_mem htr (by rw [hlen]; omega) (by rw [hlen]; exact hgl), hlen, hcut htr hle (Nat.le_refl _)]
        exact hR2
      unfold headP
      rw [if_neg hk]
      obtain ⟨l1, l2, hsp⟩ := List.append_of_mem (List.mem_reverse.2 hg)
      have hrise := endsN_rise r.rx (s.take (longP r s)) 0
      cases hf : (endsN r.rx (s.take (longP r s)) 0).reverse.find? fun h => decide ((s.take (longP r s)).length ∈ endsN r.trail (s.take (longP r s)) h) with
      | none =>
        have := List.find?_eq_none.1 hf g (List.mem_reverse.2 hg)
        exact absurd hq this
      | some v =>
        rw [Option.getD_some]
        have hvm := List.mem_reverse.1 (List.mem_of_find?_eq_some hf)
        have hvl := (endsN_le hvm).2
        rw [hlen] at hvl
        refine ⟨hle, ?_, hvl⟩
        rcases Nat.lt_or_ge v g with hlt | hge
        · exfalso
          -- g stands ahead of v in what is looked through
          have hrev : (endsN r.rx (s.take (longP r s)) 0).reverse.Pairwise (· > ·) := by
            rw [List.pairwise_reverse]; exact hrise
          obtain ⟨_, a1, a2, e1, e2⟩ := List.find?_eq_some_iff_append.1 hf
          have hgm := List.mem_reverse.2 hg
          rw [e1, List.mem_append, List.mem_cons] at hgm
          rcases hgm with hgm | rfl | hgm
          · have := e2 g hgm
            simp only [Bool.not_eq_true', decide_eq_false_iff_not] at this
            exact this (of_decide_eq_true hq)
          · omega
          · rw [e1, List.pairwise_append, List.pairwise_cons] at hrev
            have := hrev.2.1.1 g hgm
            omega
        · omega
end Go.Hk
/- Layer 8, the plain law: what is picked, and what an input is. -/
namespace Go.Hk
/-- Does a line begin here? -/
def bolB (w : List UInt8) (at_ : Nat) : Bool := decide (at_ = 0) || decide (w.getD (at_ - 1) 0 = 10)
def mayB (s : Sp) (w : List UInt8) (at_ : Nat) (cond : Int) (i : Nat) (r : Ru) : Bool := !r.eof && (bolB w at_ || !r.bol) && activeS s (i : Int) cond
/-- One rule more. -/
noncomputable def pickStep (s : Sp) (w : List UInt8) (at_ : Nat) (cond : Int) (p : Int × Nat) (i : Nat) (r : Ru) : Int × Nat :=
  if mayB s w at_ cond i r = true ∧ p.2 < longP r (w.drop at_) then ((i : Int), longP r (w.drop at_)) else p
noncomputable def pickTo (s : Sp) (w : List UInt8) (at_ : Nat) (cond : Int) : Nat → Int × Nat
  | 0 => (-1, 0)
  | i + 1 => match s.rules[i]? with
    | some r => pickStep s w at_ cond (pickTo s w at_ cond i) i r
    | none => pickTo s w at_ cond i
noncomputable def pickP (s : Sp) (w : List UInt8) (at_ : Nat) (cond : Int) : Int × Nat := pickTo s w at_ cond s.rules.length
theorem pickTo_next {s : Sp} {w : List UInt8} {at_ i : Nat} {cond : Int} {r : Ru} (h : s.rules[i]? = some r) : pickTo s w at_ cond (i + 1) = pickStep s w at_ cond (pickTo s w at_ cond i) i r := by
  simp only [pickTo, h]
theorem pickTo_spec {s : Sp} {w : List UInt8} {at_ : Nat} {cond : Int} : ∀ n : Nat, pickTo s w at_ cond n = (-1, 0) ∨ ∃ i r, i < n ∧ s.rules[i]? = some r ∧ mayB s w at_ cond i r = true ∧ pickTo s w at_ cond n = ((i : Int), longP r (w.drop at_)) ∧ 0 < longP r (w.drop at_)
  | 0 => .inl rfl
  | n + 1 => by
    have ih := pickTo_spec (s := s) (w := w) (at_ := at_) (cond := cond) n
    cases hr : s.rules[n]? with
    | none =>
      simp only [pickTo, hr]
      rcases ih with ih | ⟨i, r, h1, h2⟩
      · exact .inl ih
      · exact .inr ⟨i, r, by omega, h2⟩
    | some r =>
      rw [pickTo_next hr, pickStep]
      split
      · rename_i hc
        exact .inr ⟨n, r, by omega, hr, hc.1, rfl, by omega⟩
      · rcases ih with ih | ⟨i, r, h1, h2⟩
        · exact .inl ih
        · exact .inr ⟨i, r, by omega, h2⟩
/-- The rule for the end. -/
def eofTo (s : Sp) (cond : Int) (n : Nat) : Option Nat := (List.range n).find? fun i => match s.rules[i]? with | some r => r.eof && activeS s (i : Int) cond | none => false
def eofP (s : Sp) (cond : Int) : Int := match eofTo s cond s.rules.length with | some i => i | none => -1
/-- A token. -/
structure Tok where
  rule : Int
  st : Nat
  en : Nat
  cond : Int
def cTok (t : Tok) : List AVal := [.int .i64 t.rule, .int .i64 (t.st : Nat), .int .i64 (t.en : Nat), .int .i64 t.cond]
/-- What comes next, from a place on in a condition: a token, the place behind it, the condition there; or it jams. -/
noncomputable def nextT (s : Sp) (w : List UInt8) (at_ : Nat) (cond : Int) : Option (Tok × Nat × Int) :=
  let p := pickP s w at_ cond
  match s.rules[p.1.toNat]? with
  | some r => if 0 ≤ p.1 then
      let h := headP r ((w.drop at_).take p.2)
      some (⟨p.1, at_, at_ + h, cond⟩, at_ + h, if r.act = 3 then r.to else cond)
    else if s.deft then some (⟨-1, at_, at_ + 1, cond⟩, at_ + 1, cond) else none
  | none => if s.deft then some (⟨-1, at_, at_ + 1, cond⟩, at_ + 1, cond) else none
noncomputable def toksP (s : Sp) (w : List UInt8) : Nat → Nat → Int → List Tok × Int
  | 0, _, _ => ([], -1)
  | f + 1, at_, cond =>
    if at_ < w.length then
      match nextT s w at_ cond with
      | some (t, a, c) => (t :: (toksP s w f a c).1, (toksP s w f a c).2)
      | none => ([], (at_ : Int))
    else if 0 ≤ eofP s cond then ([⟨eofP s cond, at_, at_, cond⟩], -1) else ([], -1)
end Go.Hk
