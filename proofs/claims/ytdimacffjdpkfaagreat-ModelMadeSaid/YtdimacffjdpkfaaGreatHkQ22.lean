import Derived.Test.YtdimacffjdpkfaaGreatHkQ21
import Derived.Test.YtdimacffjdpkfaaGreatHkQ17
import Derived.Test.YtdimacffjdpkfaaGreatHkQ18
set_option linter.unusedSimpArgs false
set_option linter.unusedVariables false
namespace Go.Hk
def nulX : Rx := .mk 0 0 0 0 []
def smallM (L : List UInt8) (a : Nat) : Rx × Nat := (if 12 < size (rxM L 2 a).1 then chX 98 else (rxM L 2 a).1, (rxM L 2 a).2)
def cdT (L : List UInt8) (a i : Nat) : List Int := ((List.range i).filter fun c => decide (pickV L (a + c) 2 = 1)).map fun c => ((c : Nat) : Int)
def actM (L : List UInt8) (n a : Nat) : Int × Int × Nat := if pickV L a 3 = 2 then (3, (pickV L (a + 1) n : Nat), a + 2) else (1 + (pickV L a 3 : Nat), 0, a + 1)
def whM (L : List UInt8) (n a : Nat) : Bool × List Int × Nat := if pickV L a 4 = 0 then (true, [], a + 1) else if pickV L a 4 = 1 then (false, cdT L (a + 1) n, a + 1 + n) else (false, [], a + 1)
def rxsM (L : List UInt8) (p : Bool) (a : Nat) : Bool × Rx × Rx × Bool × Nat :=
  if pickV L a 12 = 11 then (false, nulX, nulX, true, a + 1)
  else if p = true then (false, (smallM L (a + 1)).1, nulX, false, (smallM L (a + 1)).2)
  else if pickV L ((smallM L (a + 1)).2 + 1) 5 = 4 then (decide (pickV L (smallM L (a + 1)).2 6 = 5), (smallM L (a + 1)).1, (smallM L ((smallM L (a + 1)).2 + 2)).1, false, (smallM L ((smallM L (a + 1)).2 + 2)).2)
  else (decide (pickV L (smallM L (a + 1)).2 6 = 5), (smallM L (a + 1)).1, nulX, false, (smallM L (a + 1)).2 + 2)
def ruM (L : List UInt8) (n : Nat) (p : Bool) (a : Nat) : Ru × Nat :=
  let A := actM L n a
  let W := whM L n A.2.2
  let X := rxsM L p W.2.2
  (⟨W.2.1, W.1, X.1, X.2.1, X.2.2.1, X.2.2.2.1, A.1, A.2.1⟩, X.2.2.2.2)
def rusM (L : List UInt8) (n : Nat) (p : Bool) (a : Nat) : Nat → List Ru × Nat
  | 0 => ([], a)
  | i + 1 => ((rusM L n p a i).1 ++ [(ruM L n p (rusM L n p a i).2).1], (ruM L n p (rusM L n p a i).2).2)
def cd3 (x : Bool) : List Cd := [⟨initial, false⟩, ⟨[66], x⟩, ⟨[67, 95, 49], false⟩]
def spM (M : List UInt8) (p : Bool) : Sp := ⟨(cd3 (decide (pickV M 1 2 = 1))).take (1 + pickV M 0 3), decide (0 < pickV M 2 3), (rusM M (1 + pickV M 0 3) p 4 (1 + pickV M 3 4)).1⟩
def madeS (L : List UInt8) (p : Bool) : Sp := spM (L.take 60) p
theorem smallM_at (L : List UInt8) (a : Nat) : a < (smallM L a).2 ∧ (smallM L a).2 ≤ a + 32 := by
  have := rxM_at L 2 a
  simp only [smallM]; omega
theorem ruM_at (L : List UInt8) (n : Nat) (p : Bool) (a : Nat) : a < (ruM L n p a).2 ∧ (ruM L n p a).2 ≤ a + 80 + n := by
  have h1 : a < (actM L n a).2.2 ∧ (actM L n a).2.2 ≤ a + 2 := by unfold actM; split <;> simp
  have h2 : (actM L n a).2.2 < (whM L n (actM L n a).2.2).2.2 ∧ (whM L n (actM L n a).2.2).2.2 ≤ (actM L n a).2.2 + 1 + n := by unfold whM; split; simp; split <;> simp <;> omega
  have h3 : ∀ b, b < (rxsM L p b).2.2.2.2 ∧ (rxsM L p b).2.2.2.2 ≤ b + 70 := by
    intro b
    have s1 := smallM_at L (b + 1)
    have s2 := smallM_at L ((smallM L (b + 1)).2 + 2)
    unfold rxsM
    split
    · simp
    · split
      · simp only; omega
      · split <;> simp only <;> omega
  have := h3 (whM L n (actM L n a).2.2).2.2
  simp only [ruM]; omega
theorem rusM_at (L : List UInt8) (n : Nat) (p : Bool) (a : Nat) : ∀ i, (rusM L n p a i).2 ≤ a + i * (80 + n) ∧ (rusM L n p a i).1.length = i
  | 0 => by simp [rusM]
  | i + 1 => by
    have h := rusM_at L n p a i
    have := ruM_at L n p (rusM L n p a i).2
    simp only [rusM, List.length_append, List.length_cons, List.length_nil, h.2, and_true]
    rw [Nat.succ_mul]; omega
theorem cdT_zero {L : List UInt8} {a : Nat} : cdT L a 0 = [] := rfl
theorem cdT_in {L : List UInt8} {a i : Nat} (h : pickV L (a + i) 2 = 1) : cdT L a (i + 1) = cdT L a i ++ [(i : Int)] := by
  simp [cdT, List.range_succ, List.filter_append, h]
theorem cdT_out {L : List UInt8} {a i : Nat} (h : ¬ pickV L (a + i) 2 = 1) : cdT L a (i + 1) = cdT L a i := by
  simp [cdT, List.range_succ, List.filter_append, h]
theorem cdT_len {L : List UInt8} {a i : Nat} : (cdT L a i).length ≤ i := by
  simp only [cdT, List.length_map]
  exact Nat.le_trans (List.length_filter_le ..) (by simp)
theorem smallM_good (L : List UInt8) (a : Nat) : okX (smallM L a).1 ∧ rightT (smallM L a).1 = true := by
  have key : ∀ x : Rx, okX x → right x 20 = true → sz x ≤ 7 → size x ≤ 12 → okX x ∧ rightT x = true := by
    intro x h1 h2 h3 h4
    refine ⟨h1, ?_⟩
    have := nodes_sz x 1000 (by omega)
    simp only [rightT, h2, Bool.true_and, Bool.and_eq_true, decide_eq_true_eq]
    omega
  have hg := rxM_good L 2 a (by omega)
  unfold smallM
  simp only
  split
  · refine key _ (chX_ok _) (leaf_right rfl (chX_own (by omega)) (by omega)) (by decide) ?_
    rw [size_eq]; decide
  · exact key _ hg.ok (right_mono _ _ _ (by decide) hg.right) hg.sz (by omega)
theorem nulX_okX : okX nulX := noX_okX
theorem rise_append {n : Int} : ∀ (l : List Int) (a c : Int), rise n a l = true → (∀ x ∈ l, x < c) → a < c → c < n → rise n a (l ++ [c]) = true
  | [], a, c, _, _, h1, h2 => by simp [rise, h1, h2]
  | x :: l, a, c, h, hx, h1, h2 => by
    simp only [rise, Bool.and_eq_true, decide_eq_true_eq, List.cons_append] at h ⊢
    exact ⟨h.1, rise_append l x c h.2 (fun y hy => hx y (by simp [hy])) (hx x (by simp)) h2⟩
theorem cdT_rise {L : List UInt8} {a n : Nat} : ∀ i, i ≤ n → rise n (-1) (cdT L a i) = true ∧ ∀ x ∈ cdT L a i, x < (i : Nat)
  | 0, _ => ⟨rfl, fun x hx => by cases hx⟩
  | i + 1, hi => by
    obtain ⟨h1, h2⟩ := cdT_rise (L := L) (a := a) (n := n) i (by omega)
    by_cases h : pickV L (a + i) 2 = 1
    · rw [cdT_in h]
      refine ⟨rise_append (n := (n : Int)) (cdT L a i) (-1) ((i : Nat) : Int) h1 h2 (by omega) (by omega), fun x hx => ?_⟩
      rcases List.mem_append.1 hx with hx | hx
      · have := h2 x hx; omega
      · simp at hx; omega
    · rw [cdT_out h]
      exact ⟨h1, fun x hx => by have := h2 x hx; omega⟩
theorem ruM_good (L : List UInt8) (n : Nat) (p : Bool) (a : Nat) (hn : 0 < n) (hn8 : n ≤ 8) : okRu (ruM L n p a).1 ∧ ruleB n (ruM L n p a).1 = true := by
  have hw : (whM L n (actM L n a).2.2).2.1.length ≤ n ∧ rise n (-1) (whM L n (actM L n a).2.2).2.1 = true ∧ ((whM L n (actM L n a).2.2).1 = true → (whM L n (actM L n a).2.2).2.1 = []) := by
    unfold whM
    split
    · exact ⟨by simp, rfl, fun _ => rfl⟩
    · split
      · exact ⟨cdT_len, (cdT_rise n (Nat.le_refl _)).1, fun h => by cases h⟩
      · exact ⟨by simp, rfl, fun _ => rfl⟩
  have ha : ((actM L n a).1 = 3 ∧ 0 ≤ (actM L n a).2.1 ∧ (actM L n a).2.1 < n) ∨ (((actM L n a).1 = 1 ∨ (actM L n a).1 = 2) ∧ (actM L n a).2.1 = 0) := by
    unfold actM
    have h1 := pickV_lt (L := L) (a := a + 1) hn
    have h3 := pickV_lt (L := L) (a := a) (n := 3) (by omega)
    split
    · exact .inl ⟨rfl, Int.natCast_nonneg _, by simpa using h1⟩
    · rename_i hk
      refine .inr ⟨?_, rfl⟩
      show (1 + ((pickV L a 3 : Nat) : Int) = 1) ∨ (1 + ((pickV L a 3 : Nat) : Int) = 2)
      omega
  have hx : ∀ b, okX (rxsM L p b).2.1 ∧ okX (rxsM L p b).2.2.1 ∧ (((rxsM L p b).2.2.2.1 = true ∧ (rxsM L p b).1 = false ∧ (rxsM L p b).2.1 = nulX ∧ (rxsM L p b).2.2.1 = nulX) ∨ ((rxsM L p b).2.2.2.1 = false ∧ rightT (rxsM L p b).2.1 = true ∧ ((rxsM L p b).2.2.1 = nulX ∨ rightT (rxsM L p b).2.2.1 = true))) := by
    intro b
    have s1 := smallM_good L (b + 1)
    have s2 := smallM_good L ((smallM L (b + 1)).2 + 2)
    unfold rxsM
    split
    · exact ⟨nulX_okX, nulX_okX, .inl ⟨rfl, rfl, rfl, rfl⟩⟩
    · split
      · exact ⟨s1.1, nulX_okX, .inr ⟨rfl, s1.2, .inl rfl⟩⟩
      · split
        · exact ⟨s1.1, s2.1, .inr ⟨rfl, s1.2, .inr s2.2⟩⟩
        · exact ⟨s1.1, nulX_okX, .inr ⟨rfl, s1.2, .inl rfl⟩⟩
  obtain ⟨x1, x2, x3⟩ := hx (whM L n (actM L n a).2.2).2.2
  have hnn : noneX nulX = true := rfl
  simp only [ruM]
  refine ⟨⟨?_, x1, x2⟩, ?_⟩
  · show (whM L n (actM L n a).2.2).2.1.length < 9223372036854775808
    have := hw.1; omega
  · simp only [ruleB, Bool.and_eq_true]
    refine ⟨⟨?_, ?_⟩, ?_⟩
    · simp only [holdsB, hw.2.1, Bool.true_and, Bool.or_eq_true, Bool.not_eq_true', decide_eq_true_eq]
      cases hb : (whM L n (actM L n a).2.2).1
      · exact .inl rfl
      · right; rw [hw.2.2 hb]; rfl
    · simp only [doesB]
      rcases ha with ⟨h1, h2, h3⟩ | ⟨h1, h2⟩
      · simp [h1, h2, h3]
      · rcases h1 with h1 | h1 <;> simp [h1, h2]
    · simp only [matchB]
      rcases x3 with ⟨h1, h2, h3, h4⟩ | ⟨h1, h2, h3⟩
      · simp [h1, h2, h3, h4, hnn]
      · rcases h3 with h3 | h3 <;> simp [h1, h2, h3, hnn]
theorem rusM_good (L : List UInt8) (n : Nat) (p : Bool) (a : Nat) (hn : 0 < n) (hn8 : n ≤ 8) : ∀ i, ∀ r ∈ (rusM L n p a i).1, okRu r ∧ ruleB n r = true
  | 0, r, h => by cases h
  | i + 1, r, h => by
    simp only [rusM] at h
    rcases List.mem_append.1 h with h | h
    · exact rusM_good L n p a hn hn8 i r h
    · simp only [List.mem_cons, List.not_mem_nil, or_false] at h
      subst h
      exact ruM_good L n p _ hn hn8
theorem madeS_good (L : List UInt8) (p : Bool) : okSp (madeS L p) ∧ rightS (madeS L p) = true := by
  unfold madeS
  generalize L.take 60 = M
  have h3 := pickV_lt (L := M) (a := 0) (n := 3) (by omega)
  have h4 := pickV_lt (L := M) (a := 3) (n := 4) (by omega)
  have hr := rusM_good M (1 + pickV M 0 3) p 4 (by omega) (by omega) (1 + pickV M 3 4)
  have hl := (rusM_at M (1 + pickV M 0 3) p 4 (1 + pickV M 3 4)).2
  have hc : ∀ (x : Bool) (k : Nat), k < 3 → ((cd3 x).take (1 + k)).length = 1 + k ∧ (((cd3 x).take (1 + k)).getD 0 ⟨[], false⟩).name = initial ∧ (((cd3 x).take (1 + k)).getD 0 ⟨[], false⟩).ex = false ∧ ((cd3 x).take (1 + k)).all (fun c => nameB c.name) = true ∧ diff (((cd3 x).take (1 + k)).map Cd.name) = true := by
    intro x k hk
    have : k = 0 ∨ k = 1 ∨ k = 2 := by omega
    rcases this with rfl | rfl | rfl <;> cases x <;> decide +kernel
  obtain ⟨c1, c2, c3, c4, c5⟩ := hc (decide (pickV M 1 2 = 1)) (pickV M 0 3) h3
  have hrs : rightS (spM M p) = true := by
    simp only [rightS, spM, c1, c2, c3, c4, c5, hl, Bool.and_eq_true, decide_eq_true_eq, List.all_eq_true, Bool.not_false, and_true, true_and]
    refine ⟨⟨⟨by omega, by omega⟩, by omega⟩, fun r h => ?_⟩
    exact (hr r h).2
  refine ⟨⟨?_, ?_, ?_, fun r h => (hr r h).1⟩, hrs⟩
  · simp only [spM, c1]; omega
  · simp only [spM, hl]; omega
  · intro c hm
    have := (rightS_spec hrs).2.2.2.1 c hm
    omega
end Go.Hk
namespace Go.Hk
def iSmA (xs : List AVal) (m : AMem) : Option (AVal × AMem) :=
  match xs with
  | [.ptr b 0 0] => mkR (fun _ a => a ≤ 50000) (fun L a => (rV (smallM L a).1, (smallM L a).2)) b m.H m.T m.H[b]?
  | _ => none
theorem iSmA_eq {b : Nat} {H : List ABlk} {T : List (Nat × (Nat × Nat))} : iSmA [.ptr b 0 0] ⟨H, T⟩ = mkR (fun _ a => a ≤ 50000) (fun L a => (rV (smallM L a).1, (smallM L a).2)) b H T H[b]? := rfl
def iRuA (xs : List AVal) (m : AMem) : Option (AVal × AMem) :=
  match xs with
  | [.ptr b 0 0, .int .i64 n, .bool p] => if 1 ≤ n ∧ n ≤ 8 then mkR (fun _ a => a ≤ 10000) (fun L a => (ruV (ruM L n.toNat p a).1, (ruM L n.toNat p a).2)) b m.H m.T m.H[b]? else none
  | _ => none
theorem iRuA_eq {b : Nat} {n : Int} {p : Bool} {H : List ABlk} {T : List (Nat × (Nat × Nat))} (h : 1 ≤ n ∧ n ≤ 8) : iRuA [.ptr b 0 0, .int .i64 n, .bool p] ⟨H, T⟩ = mkR (fun _ a => a ≤ 10000) (fun L a => (ruV (ruM L n.toNat p a).1, (ruM L n.toNat p a).2)) b H T H[b]? := if_pos h
def gwR0 (T : List (Nat × (Nat × Nat))) (n : Nat) : Rt := if n = 0 then .nil else .tok T.length
def gwT0 (T : List (Nat × (Nat × Nat))) (z : Nat × Nat) (n : Nat) : List (Nat × (Nat × Nat)) := if n = 0 then T else T ++ [(n, z)]
theorem gw_ok {T : List (Nat × (Nat × Nat))} {z : Nat × Nat} {n : Nat} : okR (gwT0 T z n) (gwR0 T n) n z = true := by
  unfold gwT0 gwR0
  split
  · rfl
  · simp [okR]
theorem gw_next {T : List (Nat × (Nat × Nat))} {z : Nat × Nat} {n k : Nat} (hk : k = n + 1) : nxR (gwT0 T z n) (gwR0 T n) = gwR0 T k ∧ nxT (gwT0 T z n) (gwR0 T n) k z = gwT0 T z k := by
  subst hk
  unfold gwT0 gwR0
  by_cases h : n = 0
  · simp [h, nxR, nxT]
  · simp [h, nxR, nxT]
end Go.Hk
namespace Go.Hk
theorem gw_len {T : List (Nat × (Nat × Nat))} {z : Nat × Nat} {n : Nat} : T.length ≤ (gwT0 T z n).length := by unfold gwT0; split <;> simp
theorem gw_clo {T : List (Nat × (Nat × Nat))} {z : Nat × Nat} {n : Nat} : cloR (gwT0 T z n).length (gwR0 T n) = true := by
  unfold gwT0 gwR0
  split
  · rfl
  · simp [cloR]
theorem gw_app {T : List (Nat × (Nat × Nat))} {z : Nat × Nat} {n : Nat} : ∃ X, gwT0 T z n = T ++ X := by
  unfold gwT0
  split
  · exact ⟨[], by simp⟩
  · exact ⟨_, rfl⟩
theorem left_gw {G l : List ABlk} {T : List (Nat × (Nat × Nat))} {z : Nat × Nat} {n : Nat} (h : shut ⟨G, T⟩ = true) : LeftM ⟨G, T⟩ ⟨G ++ l, gwT0 T z n⟩ := by
  obtain ⟨X, e⟩ := gw_app (T := T) (z := z) (n := n)
  rw [e]
  exact .inr ⟨⟨l, X, rfl⟩, h⟩
end Go.Hk
namespace Go.Hk
section
variable {b : Nat} {n : Int} {H : List ABlk} {T : List (Nat × (Nat × Nat))} {k : Nat} {L : List UInt8}
theorem pk_0 (hk : k = L.length) (hL : L.length < 1000000) (hn : 0 < n) (hn2 : n < 1000000) : pkR b n H T (some (.cells 0 [.sl .no k (fl cU L), .int .i64 0])) = some (.int .i64 (pickV L 0 n.toNat : Nat), ⟨H.set b (.cells 0 [.sl .no k (fl cU L), .int .i64 1]), T⟩) := pk_on (a := 0) hk hL (by omega) hn hn2
theorem pk_1 (hk : k = L.length) (hL : L.length < 1000000) (hn : 0 < n) (hn2 : n < 1000000) : pkR b n H T (some (.cells 0 [.sl .no k (fl cU L), .int .i64 1])) = some (.int .i64 (pickV L 1 n.toNat : Nat), ⟨H.set b (.cells 0 [.sl .no k (fl cU L), .int .i64 2]), T⟩) := pk_on (a := 1) hk hL (by omega) hn hn2
theorem pk_2 (hk : k = L.length) (hL : L.length < 1000000) (hn : 0 < n) (hn2 : n < 1000000) : pkR b n H T (some (.cells 0 [.sl .no k (fl cU L), .int .i64 2])) = some (.int .i64 (pickV L 2 n.toNat : Nat), ⟨H.set b (.cells 0 [.sl .no k (fl cU L), .int .i64 3]), T⟩) := pk_on (a := 2) hk hL (by omega) hn hn2
theorem pk_3 (hk : k = L.length) (hL : L.length < 1000000) (hn : 0 < n) (hn2 : n < 1000000) : pkR b n H T (some (.cells 0 [.sl .no k (fl cU L), .int .i64 3])) = some (.int .i64 (pickV L 3 n.toNat : Nat), ⟨H.set b (.cells 0 [.sl .no k (fl cU L), .int .i64 4]), T⟩) := pk_on (a := 3) hk hL (by omega) hn hn2
end
end Go.Hk
namespace Go.Hk
theorem gw_step {T : List (Nat × (Nat × Nat))} {z : Nat × Nat} {n k : Nat} (hk : k ≠ 0) : nxR (gwT0 T z n) (gwR0 T n) = gwR0 T k ∧ nxT (gwT0 T z n) (gwR0 T n) k z = gwT0 T z k := by
  unfold gwT0 gwR0
  by_cases h : n = 0
  · simp [h, hk, nxR, nxT]
  · simp [h, hk, nxR, nxT]
end Go.Hk
namespace Go.Hk
theorem match_iff {x : Rx} {s : List UInt8} (hr : rightT x = true) (hl : s.length ≤ 10000) : (s.length : Int) ∈ endsL x s 0 ↔ R s x 0 s.length := by
  unfold endsL
  rw [if_pos ⟨hr, hl, by omega, by omega⟩, List.mem_map]
  constructor
  · rintro ⟨j, h1, h2⟩
    have : j = s.length := by omega
    subst this
    exact (cset_mem.1 h1).2
  · intro h
    exact ⟨s.length, cset_mem.2 ⟨by omega, h⟩, rfl⟩
theorem match_not {x : Rx} {s : List UInt8} (hr : rightT x = false) : ¬ (s.length : Int) ∈ endsL x s 0 := by
  unfold endsL
  rw [hr]
  simp
theorem match_cut {x : Rx} {s : List UInt8} {a n : Nat} (hr : rightT x = true) (hl : s.length ≤ 10000) (ha : a ≤ n) (hn : n ≤ s.length) : (((s.drop a).take (n - a)).length : Int) ∈ endsL x ((s.drop a).take (n - a)) 0 ↔ R s x a n := by
  have hlen : ((s.drop a).take (n - a)).length = n - a := by simp; omega
  rw [match_iff hr (by omega), hlen, R_cut (by omega) x 0 (n - a) (Nat.le_refl _)]
  rw [Nat.add_zero, show a + (n - a) = n by omega]
theorem cset_succ {S : Nat → Prop} {n : Nat} : (S n → cset (n + 1) S = cset n S ++ [n]) ∧ (¬ S n → cset (n + 1) S = cset n S) := by
  unfold cset
  rw [List.range_succ, List.filter_append]
  exact ⟨fun h => by simp [h], fun h => by simp [h]⟩
theorem ends_shift {x : Rx} {s : List UInt8} {i : Nat} (hr : rightT x = true) (hl : s.length ≤ 10000) (hi : i ≤ s.length) : endsL x s (i : Int) = (endsL x (s.drop i) 0).map fun j => j + (i : Int) := by
  have hdl : (s.drop i).length = s.length - i := by simp
  unfold endsL
  rw [if_pos ⟨hr, hl, by omega, by omega⟩, if_pos ⟨hr, by omega, by omega, by omega⟩, List.map_map, hdl]
  have hR : ∀ j, j ≤ s.length - i → (R (s.drop i) x 0 j ↔ R s x i (i + j)) := fun j hj => by
    have := R_cut (t := s) (a := i) (b := s.length - i) (by omega) x 0 j hj
    rw [List.take_of_length_le (by omega)] at this
    simpa using this
  have e : cset (s.length + 1) (R s x i) = (cset (s.length - i + 1) (R (s.drop i) x 0)).map fun j => j + i := by
    have hz : ∀ m, m ≤ s.length - i + 1 → cset (i + m) (R s x i) = (cset m (R (s.drop i) x 0)).map fun j => j + i := by
      intro m
      induction m with
      | zero =>
        intro _
        have : cset i (R s x i) = [] := List.eq_nil_iff_forall_not_mem.2 fun j hj => by
          obtain ⟨h1, h2⟩ := cset_mem.1 hj
          have := R_mono s x i j h2
          omega
        rw [Nat.add_zero, this]
        rfl
      | succ m ih =>
        intro hm
        have ih := ih (by omega)
        have hRm := hR m (by omega)
        rw [show i + (m + 1) = (i + m) + 1 by omega]
        by_cases hs : R s x i (i + m)
        · rw [cset_succ.1 hs, cset_succ.1 (hRm.2 hs), ih, List.map_append]
          simp; omega
        · rw [cset_succ.2 hs, cset_succ.2 (fun h => hs (hRm.1 h)), ih]
    have := hz (s.length - i + 1) (Nat.le_refl _)
    rw [← this]
    congr 1
    omega
  rw [Int.toNat_natCast, e, List.map_map]
  refine List.map_congr_left fun j _ => ?_
  simp
end Go.Hk
namespace Go.Hk
end Go.Hk
namespace Go.Hk
end Go.Hk
namespace Go.Hk
noncomputable def endsN (x : Rx) (s : List UInt8) (i : Nat) : List Nat := if rightT x = true ∧ s.length ≤ 10000 ∧ i ≤ s.length then cset (s.length + 1) (R s x i) else []
theorem endsL_N (x : Rx) (s : List UInt8) (i : Nat) : endsL x s (i : Int) = (endsN x s i).map fun j : Nat => (j : Int) := by
  unfold endsL endsN
  by_cases h : rightT x = true ∧ s.length ≤ 10000 ∧ i ≤ s.length
  · rw [if_pos h, if_pos ⟨h.1, h.2.1, by omega, by omega⟩, Int.toNat_natCast]
  · rw [if_neg h, if_neg (fun h' => h ⟨h'.1, h'.2.1, by omega⟩)]
    rfl
theorem endsN_mem {x : Rx} {s : List UInt8} {i j : Nat} (hr : rightT x = true) (hl : s.length ≤ 10000) (hi : i ≤ s.length) : j ∈ endsN x s i ↔ R s x i j := by
  unfold endsN
  rw [if_pos ⟨hr, hl, hi⟩, cset_mem]
  exact ⟨fun h => h.2, fun h => ⟨by have := R_le x i j h hi; omega, h⟩⟩
theorem endsN_le {x : Rx} {s : List UInt8} {i j : Nat} (h : j ∈ endsN x s i) : i ≤ j ∧ j ≤ s.length := by
  unfold endsN at h
  split at h
  · have := cset_mem.1 h
    exact ⟨R_mono s x i j this.2, by omega⟩
  · cases h
theorem endsN_rise (x : Rx) (s : List UInt8) (i : Nat) : (endsN x s i).Pairwise (· < ·) := by
  unfold endsN
  split
  · exact List.Pairwise.sublist List.filter_sublist List.pairwise_lt_range
  · exact .nil
theorem inj_map {a b : List Nat} (h : (a.map fun j : Nat => (j : Int)) = b.map fun j : Nat => (j : Int)) : a = b :=
  (List.map_inj_right (fun x y e => Int.ofNat.inj e)).1 h
theorem endsN_shift {x : Rx} {s : List UInt8} {a b : Nat} (hr : rightT x = true) (hl : s.length ≤ 10000) (h : a + b ≤ s.length) : endsN x s (a + b) = (endsN x (s.drop a) b).map (· + a) := by
  have e1 := ends_shift (x := x) (s := s) (i := a + b) hr hl h
  have e2 := ends_shift (x := x) (s := s.drop a) (i := b) hr (by simp; omega) (by simp; omega)
  rw [List.drop_drop] at e2
  rw [endsL_N] at e1 e2
  apply inj_map
  rw [e1, List.map_map]
  have e3 : ((endsN x (s.drop a) b).map fun j : Nat => (j : Int)).map (· + (a : Int)) = ((endsL x (s.drop (a + b)) 0).map fun j => j + (b : Int)).map (· + (a : Int)) := by rw [e2]
  rw [List.map_map, List.map_map] at e3
  have e4 : (endsN x (s.drop a) b).map ((fun j : Nat => (j : Int)) ∘ (· + a)) = (endsN x (s.drop a) b).map ((· + (a : Int)) ∘ fun j : Nat => (j : Int)) := List.map_congr_left fun j _ => by simp
  rw [e4, e3]
  exact List.map_congr_left fun j _ => by simp; omega
noncomputable def longStep (r : Ru) (s : List UInt8) (m h : Nat) : Nat := if r.trail.k = 0 then h else if 0 < h ∧ 0 < (endsN r.trail s h).length then max m ((endsN r.trail s h).getLastD 0) else m
noncomputable def longP (r : Ru) (s : List UInt8) : Nat := (endsN r.rx s 0).foldl (longStep r s) 0
noncomputable def headP (r : Ru) (s : List UInt8) : Nat := if r.trail.k = 0 then (if s.length ∈ endsN r.rx s 0 then s.length else 0) else ((endsN r.rx s 0).reverse.find? fun h => decide (s.length ∈ endsN r.trail s h)).getD 0
theorem foldl_last {l : List Nat} : ∀ m : Nat, l.foldl (fun _ h => h) m = l.getLastD m := by
  induction l with
  | nil => intro m; rfl
  | cons a l ih => intro m; rw [List.foldl_cons, ih]; cases l <;> rfl
theorem long_spec {r : Ru} {s : List UInt8} (hk : r.trail.k ≠ 0) : ∀ (l : List Nat) (m : Nat), (l.foldl (longStep r s) m = m ∨ ∃ h ∈ l, 0 < h ∧ l.foldl (longStep r s) m ∈ endsN r.trail s h)
  | [], m => .inl rfl
  | h :: l, m => by
    rw [List.foldl_cons]
    rcases long_spec hk l (longStep r s m h) with e | ⟨h', h1, h2, h3⟩
    · rw [e]
      unfold longStep
      rw [if_neg hk]
      split
      · rename_i hc
        rcases Nat.le_total ((endsN r.trail s h).getLastD 0) m with hm | hm
        · exact .inl (Nat.max_eq_left hm)
        · rw [Nat.max_eq_right hm]
          refine .inr ⟨h, by simp, hc.1, ?_⟩
          have hne : endsN r.trail s h ≠ [] := List.length_pos_iff.1 hc.2
          rw [List.getLastD_eq_getLast?, List.getLast?_eq_some_getLast hne]
          exact List.getLast_mem hne
      · exact .inl rfl
    · exact .inr ⟨h', by simp [h1], h2, h3⟩
theorem head_pos {r : Ru} {s : List UInt8} (hr : rightT r.rx = true) (ht : r.trail.k = 0 ∨ rightT r.trail = true) (hl : s.length ≤ 10000) (h : 0 < longP r s) :
    longP r s ≤ s.length ∧ 0 < headP r (s.take (longP r s)) ∧ headP r (s.take (longP r s)) ≤ longP r s := by
  have hcut : ∀ {x : Rx} {n i j : Nat}, rightT x = true → n ≤ s.length → j ≤ n → (R (s.take n) x i j ↔ R s x i j) := fun {x n i j} hx hn hj => by
    have := R_cut (t := s) (a := 0) (b := n) (by omega) x i j hj
    simpa using this
  by_cases hk : r.trail.k = 0
  · have e : longP r s = (endsN r.rx s 0).getLastD 0 := by
      unfold longP
      rw [← foldl_last]
      congr 1
      funext m h
      simp [longStep, hk]
    have hne : endsN r.rx s 0 ≠ [] := fun h0 => by rw [e, h0] at h; simp at h
    have hm : longP r s ∈ endsN r.rx s 0 := by
      rw [e, List.getLastD_eq_getLast?, List.getLast?_eq_some_getLast hne]
      exact List.getLast_mem hne
    have hle := (endsN_le hm).2
    have hR := (endsN_mem hr hl (Nat.zero_le _)).1 hm
    have hlen : (s.take (longP r s)).length = longP r s := by simp; omega
    have hin : (s.take (longP r s)).length ∈ endsN r.rx (s.take (longP r s)) 0 := by
      rw [endsN_mem hr (by rw [hlen]; omega) (Nat.zero_le _), hlen, hcut hr hle (Nat.le_refl _)]
      exact hR
    unfold headP
    rw [if_pos hk, if_pos hin, hlen]
    exact ⟨hle, h, Nat.le_refl _⟩
  · have htr : rightT r.trail = true := by rcases ht with ht | ht; exact absurd ht hk; exact ht
    rcases long_spec (s := s) hk (endsN r.rx s 0) 0 with e | ⟨g, g1, g2, g3⟩
    · exact absurd e (by unfold longP at h; omega)
    · have g3 : longP r s ∈ endsN r.trail s g := g3
      have hle := (endsN_le g3).2
      have hgl := (endsN_le g3).1
      have hgs := (endsN_le g1).2
      have hR1 := (endsN_mem hr hl (Nat.zero_le _)).1 g1
      have hR2 := (endsN_mem htr hl hgs).1 g3
      have hlen : (s.take (longP r s)).length = longP r s := by simp; omega
      have hg : g ∈ endsN r.rx (s.take (longP r s)) 0 := by
        rw [endsN_mem hr (by rw [hlen]; omega) (Nat.zero_le _), hcut hr hle hgl]
        exact hR1
      have hq : decide ((s.take (longP r s)).length ∈ endsN r.trail (s.take (longP r s)) g) = true := by
        rw [decide_eq_true_eq, endsN_mem htr (by rw [hlen]; omega) (by rw [hlen]; exact hgl), hlen, hcut htr hle (Nat.le_refl _)]
        exact hR2
      unfold headP
      rw [if_neg hk]
      obtain ⟨l1, l2, hsp⟩ := List.append_of_mem (List.mem_reverse.2 hg)
      have hrise := endsN_rise r.rx (s.take (longP r s)) 0
      cases hf : (endsN r.rx (s.take (longP r s)) 0).reverse.find? fun h => decide ((s.take (longP r s)).length ∈ endsN r.trail (s.take (longP r s)) h) with
      | none =>
        have := List.find?_eq_none.1 hf g (List.mem_reverse.2 hg)
        exact absurd hq this
      | some v =>
        rw [Option.getD_some]
        have hvm := List.mem_reverse.1 (List.mem_of_find?_eq_some hf)
        have hvl := (endsN_le hvm).2
        rw [hlen] at hvl
        refine ⟨hle, ?_, hvl⟩
        rcases Nat.lt_or_ge v g with hlt | hge
        · exfalso
          have hrev : (endsN r.rx (s.take (longP r s)) 0).reverse.Pairwise (· > ·) := by
            rw [List.pairwise_reverse]; exact hrise
          obtain ⟨_, a1, a2, e1, e2⟩ := List.find?_eq_some_iff_append.1 hf
          have hgm := List.mem_reverse.2 hg
          rw [e1, List.mem_append, List.mem_cons] at hgm
          rcases hgm with hgm | rfl | hgm
          · have := e2 g hgm
            simp only [Bool.not_eq_true', decide_eq_false_iff_not] at this
            exact this (of_decide_eq_true hq)
          · omega
          · rw [e1, List.pairwise_append, List.pairwise_cons] at hrev
            have := hrev.2.1.1 g hgm
            omega
        · omega
end Go.Hk
namespace Go.Hk
def bolB (w : List UInt8) (at_ : Nat) : Bool := decide (at_ = 0) || decide (w.getD (at_ - 1) 0 = 10)
def mayB (s : Sp) (w : List UInt8) (at_ : Nat) (cond : Int) (i : Nat) (r : Ru) : Bool := !r.eof && (bolB w at_ || !r.bol) && activeS s (i : Int) cond
noncomputable def pickStep (s : Sp) (w : List UInt8) (at_ : Nat) (cond : Int) (p : Int × Nat) (i : Nat) (r : Ru) : Int × Nat :=
  if mayB s w at_ cond i r = true ∧ p.2 < longP r (w.drop at_) then ((i : Int), longP r (w.drop at_)) else p
noncomputable def pickTo (s : Sp) (w : List UInt8) (at_ : Nat) (cond : Int) : Nat → Int × Nat
  | 0 => (-1, 0)
  | i + 1 => match s.rules[i]? with
    | some r => pickStep s w at_ cond (pickTo s w at_ cond i) i r
    | none => pickTo s w at_ cond i
noncomputable def pickP (s : Sp) (w : List UInt8) (at_ : Nat) (cond : Int) : Int × Nat := pickTo s w at_ cond s.rules.length
theorem pickTo_next {s : Sp} {w : List UInt8} {at_ i : Nat} {cond : Int} {r : Ru} (h : s.rules[i]? = some r) : pickTo s w at_ cond (i + 1) = pickStep s w at_ cond (pickTo s w at_ cond i) i r := by
  simp only [pickTo, h]
theorem pickTo_spec {s : Sp} {w : List UInt8} {at_ : Nat} {cond : Int} : ∀ n : Nat, pickTo s w at_ cond n = (-1, 0) ∨ ∃ i r, i < n ∧ s.rules[i]? = some r ∧ mayB s w at_ cond i r = true ∧ pickTo s w at_ cond n = ((i : Int), longP r (w.drop at_)) ∧ 0 < longP r (w.drop at_)
  | 0 => .inl rfl
  | n + 1 => by
    have ih := pickTo_spec (s := s) (w := w) (at_ := at_) (cond := cond) n
    cases hr : s.rules[n]? with
    | none =>
      simp only [pickTo, hr]
      rcases ih with ih | ⟨i, r, h1, h2⟩
      · exact .inl ih
      · exact .inr ⟨i, r, by omega, h2⟩
    | some r =>
      rw [pickTo_next hr, pickStep]
      split
      · rename_i hc
        exact .inr ⟨n, r, by omega, hr, hc.1, rfl, by omega⟩
      · rcases ih with ih | ⟨i, r, h1, h2⟩
        · exact .inl ih
        · exact .inr ⟨i, r, by omega, h2⟩
def eofTo (s : Sp) (cond : Int) (n : Nat) : Option Nat := (List.range n).find? fun i => match s.rules[i]? with | some r => r.eof && activeS s (i : Int) cond | none => false
def eofP (s : Sp) (cond : Int) : Int := match eofTo s cond s.rules.length with | some i => i | none => -1
structure Tok where
  rule : Int
  st : Nat
  en : Nat
  cond : Int
def cTok (t : Tok) : List AVal := [.int .i64 t.rule, .int .i64 (t.st : Nat), .int .i64 (t.en : Nat), .int .i64 t.cond]
noncomputable def nextT (s : Sp) (w : List UInt8) (at_ : Nat) (cond : Int) : Option (Tok × Nat × Int) :=
  let p := pickP s w at_ cond
  match s.rules[p.1.toNat]? with
  | some r => if 0 ≤ p.1 then
      let h := headP r ((w.drop at_).take p.2)
      some (⟨p.1, at_, at_ + h, cond⟩, at_ + h, if r.act = 3 then r.to else cond)
    else if s.deft then some (⟨-1, at_, at_ + 1, cond⟩, at_ + 1, cond) else none
  | none => if s.deft then some (⟨-1, at_, at_ + 1, cond⟩, at_ + 1, cond) else none
noncomputable def toksP (s : Sp) (w : List UInt8) : Nat → Nat → Int → List Tok × Int
  | 0, _, _ => ([], -1)
  | f + 1, at_, cond =>
    if at_ < w.length then
      match nextT s w at_ cond with
      | some (t, a, c) => (t :: (toksP s w f a c).1, (toksP s w f a c).2)
      | none => ([], (at_ : Int))
    else if 0 ≤ eofP s cond then ([⟨eofP s cond, at_, at_, cond⟩], -1) else ([], -1)
end Go.Hk
namespace Go.Hk
theorem noneX_k {x : Rx} (h : noneX x = true) : x.k = 0 := by
  rw [noneX_eq h]; rfl
theorem rule_right {s : Sp} (h : rightS s = true) {i : Nat} {r : Ru} (hr : s.rules[i]? = some r) (he : r.eof = false) : rightT r.rx = true ∧ (r.trail.k = 0 ∨ rightT r.trail = true) := by
  simp only [rightS, Bool.and_eq_true, List.all_eq_true] at h
  have := h.2 r (List.mem_of_getElem? hr)
  simp only [ruleB, matchB, he, Bool.false_eq_true, if_false, Bool.and_eq_true, Bool.or_eq_true] at this
  obtain ⟨_, h1, h2⟩ := this
  refine ⟨h1, ?_⟩
  rcases h2 with h2 | h2
  · exact .inl (noneX_k h2)
  · exact .inr h2
end Go.Hk
namespace Go.Hk
theorem head_match {r : Ru} {s : List UInt8} (hr : rightT r.rx = true) (hl : s.length ≤ 10000) (h : 0 < headP r s) : R s r.rx 0 (headP r s) := by
  unfold headP at h ⊢
  split at h
  · rename_i hk
    rw [if_pos hk]
    split at h
    · rename_i hm
      rw [if_pos hm]
      exact (endsN_mem hr hl (Nat.zero_le _)).1 hm
    · omega
  · rename_i hk
    rw [if_neg hk]
    cases hf : (endsN r.rx s 0).reverse.find? fun h => decide (s.length ∈ endsN r.trail s h) with
    | none => rw [hf] at h; simp at h
    | some v =>
      rw [Option.getD_some]
      exact (endsN_mem hr hl (Nat.zero_le _)).1 (List.mem_reverse.1 (List.mem_of_find?_eq_some hf))
theorem next_spec {s : Sp} {w : List UInt8} {at_ : Nat} {cond : Int} (h : rightS s = true) (hl : w.length ≤ 10000) (ha : at_ < w.length) :
    (pickP s w at_ cond = (-1, 0) ∧ nextT s w at_ cond = if s.deft then some (⟨-1, at_, at_ + 1, cond⟩, at_ + 1, cond) else none) ∨
    ∃ i r, s.rules[i]? = some r ∧ mayB s w at_ cond i r = true ∧ pickP s w at_ cond = ((i : Int), longP r (w.drop at_)) ∧ 0 < longP r (w.drop at_) ∧ at_ + longP r (w.drop at_) ≤ w.length ∧
      0 < headP r ((w.drop at_).take (longP r (w.drop at_))) ∧ headP r ((w.drop at_).take (longP r (w.drop at_))) ≤ longP r (w.drop at_) ∧
      R w r.rx at_ (at_ + headP r ((w.drop at_).take (longP r (w.drop at_)))) ∧
      nextT s w at_ cond = some (⟨(i : Int), at_, at_ + headP r ((w.drop at_).take (longP r (w.drop at_))), cond⟩, at_ + headP r ((w.drop at_).take (longP r (w.drop at_))), if r.act = 3 then r.to else cond) := by
  rcases pickTo_spec (s := s) (w := w) (at_ := at_) (cond := cond) s.rules.length with e | ⟨i, r, h1, h2, h3, h4, h5⟩
  · left
    have e : pickP s w at_ cond = (-1, 0) := e
    refine ⟨e, ?_⟩
    unfold nextT
    rw [e]
    simp only
    split
    · rw [if_neg (by omega)]
    · rfl
  · right
    have h4 : pickP s w at_ cond = ((i : Int), longP r (w.drop at_)) := h4
    have he : r.eof = false := by
      unfold mayB at h3
      simp only [Bool.and_eq_true, Bool.not_eq_true'] at h3
      exact h3.1.1
    obtain ⟨q1, q2⟩ := rule_right h h2 he
    have hdl : (w.drop at_).length = w.length - at_ := by simp
    obtain ⟨p1, p2, p3⟩ := head_pos q1 q2 (by rw [hdl]; omega) h5
    rw [hdl] at p1
    have hm := head_match (s := (w.drop at_).take (longP r (w.drop at_))) q1 (by simp; omega) p2
    have hR := (R_cut (t := w) (a := at_) (b := longP r (w.drop at_)) (by omega) r.rx 0 _ p3).1 hm
    refine ⟨i, r, h2, h3, h4, h5, by omega, p2, p3, by simpa using hR, ?_⟩
    unfold nextT
    rw [h4]
    simp only [Int.toNat_natCast, h2]
    rw [if_pos (by omega)]
inductive Run (s : Sp) (w : List UInt8) : Nat → Int → List Tok → Int → Prop
  | step {at_ a : Nat} {cond c : Int} {t : Tok} {l : List Tok} {j : Int} (h : at_ < w.length) (hn : nextT s w at_ cond = some (t, a, c)) (hr : Run s w a c l j) : Run s w at_ cond (t :: l) j
  | jam {at_ : Nat} {cond : Int} (h : at_ < w.length) (hn : nextT s w at_ cond = none) : Run s w at_ cond [] (at_ : Int)
  | eof {at_ : Nat} {cond : Int} (h : at_ = w.length) (he : 0 ≤ eofP s cond) : Run s w at_ cond [⟨eofP s cond, at_, at_, cond⟩] (-1)
  | fin {at_ : Nat} {cond : Int} (h : at_ = w.length) (he : eofP s cond < 0) : Run s w at_ cond [] (-1)
theorem next_at {s : Sp} {w : List UInt8} {at_ a : Nat} {cond c : Int} {t : Tok} (h : rightS s = true) (hl : w.length ≤ 10000) (ha : at_ < w.length) (hn : nextT s w at_ cond = some (t, a, c)) : at_ < a ∧ a ≤ w.length := by
  rcases next_spec (cond := cond) h hl ha with ⟨_, e⟩ | ⟨i, r, _, _, _, h1, h2, h3, h4, _, e⟩
  · rw [e] at hn
    split at hn
    · simp only [Option.some.injEq, Prod.mk.injEq] at hn
      obtain ⟨_, rfl, _⟩ := hn
      omega
    · cases hn
  · rw [e] at hn
    simp only [Option.some.injEq, Prod.mk.injEq] at hn
    obtain ⟨_, rfl, _⟩ := hn
    omega
theorem toks_run {s : Sp} {w : List UInt8} (h : rightS s = true) (hl : w.length ≤ 10000) : ∀ (f at_ : Nat) (cond : Int), at_ ≤ w.length → w.length - at_ < f → Run s w at_ cond (toksP s w f at_ cond).1 (toksP s w f at_ cond).2
  | 0, at_, cond, _, hf => by omega
  | f + 1, at_, cond, ha, hf => by
    rw [toksP]
    by_cases hlt : at_ < w.length
    · rw [if_pos hlt]
      cases hn : nextT s w at_ cond with
      | none => exact .jam hlt hn
      | some p =>
        obtain ⟨t, a, c⟩ := p
        have := next_at h hl hlt hn
        exact .step hlt hn (toks_run h hl f a c this.2 (by omega))
    · rw [if_neg hlt]
      by_cases he : 0 ≤ eofP s cond
      · rw [if_pos he]; exact .eof (by omega) he
      · rw [if_neg he]; exact .fin (by omega) (by omega)
end Go.Hk
namespace Go.Hk
end Go.Hk
namespace Go.Hk
theorem rule_to {s : Sp} (h : rightS s = true) {i : Nat} {r : Ru} (hr : s.rules[i]? = some r) (ha : r.act = 3) : 0 ≤ r.to ∧ r.to < s.conds.length := by
  simp only [rightS, Bool.and_eq_true, List.all_eq_true] at h
  have := h.2 r (List.mem_of_getElem? hr)
  simp only [ruleB, doesB, ha, if_true, Bool.and_eq_true, decide_eq_true_eq] at this
  exact this.1.2
def condTo (s : Sp) (t : Tok) : Int := match s.rules[t.rule.toNat]? with
  | some r => if 0 ≤ t.rule ∧ r.act = 3 then r.to else t.cond
  | none => t.cond
theorem next_cond {s : Sp} {w : List UInt8} {at_ a : Nat} {cond c : Int} {t : Tok} (h : rightS s = true) (hl : w.length ≤ 10000) (ha : at_ < w.length) (hc : 0 ≤ cond ∧ cond < s.conds.length) (hn : nextT s w at_ cond = some (t, a, c)) : c = condTo s t ∧ 0 ≤ c ∧ c < s.conds.length := by
  rcases next_spec (cond := cond) h hl ha with ⟨_, e⟩ | ⟨i, r, h1, _, _, _, _, _, _, _, e⟩
  · rw [e] at hn
    split at hn
    · simp only [Option.some.injEq, Prod.mk.injEq] at hn
      obtain ⟨rfl, _, rfl⟩ := hn
      refine ⟨?_, hc⟩
      unfold condTo
      split <;> simp
    · cases hn
  · rw [e] at hn
    simp only [Option.some.injEq, Prod.mk.injEq] at hn
    obtain ⟨rfl, _, rfl⟩ := hn
    have ec : condTo s ⟨(i : Int), at_, at_ + headP r ((w.drop at_).take (longP r (w.drop at_))), cond⟩ = if r.act = 3 then r.to else cond := by
      unfold condTo
      simp [h1]
    rw [ec]
    refine ⟨rfl, ?_⟩
    split
    · rename_i ha
      exact rule_to h h1 ha
    · exact hc
theorem toks_len {s : Sp} {w : List UInt8} (h : rightS s = true) (hl : w.length ≤ 10000) {at_ : Nat} {cond : Int} {l : List Tok} {j : Int} (hr : Run s w at_ cond l j) : l.length ≤ w.length - at_ + 1 := by
  induction hr with
  | @step at_ a cond c t l j h1 h2 h3 ih =>
    have := next_at h hl h1 h2
    simp only [List.length_cons]
    omega
  | jam _ _ => simp
  | fin _ _ => simp
  | eof _ _ => simp
end Go.Hk
