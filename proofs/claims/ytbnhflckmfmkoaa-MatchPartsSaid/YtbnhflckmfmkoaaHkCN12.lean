/- Layer 5: parts. -/
import Derived.Test.YtbnhflckmfmkoaaHkCN11
import Derived.Test.YtbnhflckmfmkoaaHkCN9
import Derived.Test.YtbnhflckmfmkoaaHkCM3
import Derived.Test.YtbnhflckmfmkoaaHkMh
set_option linter.unusedSimpArgs false
set_option linter.unusedVariables false
set_option maxRecDepth 20000
namespace Go.Hk.C
open Go.Proofs

def pL (k : Int) (x y : Rx) : Nat → List Rx
  | 0 => []
  | 1 => flat1 k x
  | _ => flat1 k x ++ flat1 k y
def pR (q : Nat) : Nat → Rt
  | 0 => .nil
  | _ => .tok q
def pC (k : Int) (q : Nat) (x y : Rx) (i : Nat) : ABlk := .cells 0 [.int .i64 k, .int .u64 0, .int .u64 0, .int .u64 0, .int .u64 0, .int .i64 0, .int .i64 0, .sl (pR q i) (pL k x y i).length (fl cR (pL k x y i))]
def pT (x y : Rx) : Nat → List (Nat × (Nat × Nat))
  | 0 => []
  | i => [((pL 3 x y i).length * 8, (8, 30)), ((pL 4 x y i).length * 8, (8, 30))]
theorem apF {k : Int} {e : Rx} {H : List ABlk} {T : List (Nat × (Nat × Nat))} {r : Rt} {L : List Rx} (hr : okR T r (L.length * 8) (8, 30) = true) (hf : r ≠ .full) (hn : L.length + (flat1 k e).length < 1000000) :
    (e.k = k → aappend Try.prog 28 28 ⟨H, T⟩ (.sl r L.length (fl cR L)) (.sl .no e.l.length (fl cR e.l)) = some (.sl (nxR T r) (L ++ flat1 k e).length (fl cR (L ++ flat1 k e)), ⟨H, nxT T r ((L ++ flat1 k e).length * 8) (8, 30)⟩)) ∧
    (e.k ≠ k → aappend Try.prog 28 28 ⟨H, T⟩ (.sl r L.length (fl cR L)) (.sl .full 1 (cR e)) = some (.sl (nxR T r) (L ++ flat1 k e).length (fl cR (L ++ flat1 k e)), ⟨H, nxT T r ((L ++ flat1 k e).length * 8) (8, 30)⟩)) := by
  constructor
  · intro h
    have e1 : flat1 k e = e.l := by unfold flat1; rw [if_pos h]
    rw [e1] at hn ⊢
    exact apX_all hr (fun h => absurd h hf) (by omega)
  · intro h
    have e1 : flat1 k e = [e] := by unfold flat1; rw [if_neg h]
    rw [e1] at hn ⊢
    simp only [List.length_singleton] at hn
    exact apX_one hr (by omega)
theorem w_MatchParts (l m t : List UInt8) (hl : l.length < 9223372036854775808) (hm : m.length < 9223372036854775808) (ht : t.length < 9223372036854775808) : PCall Try.prog 4 [slc cU l, slc cU m, slc cU t] (.bool true) := by
  obtain ⟨hgx, hzx⟩ := madeX_deep l
  obtain ⟨x1, x2, x3, x4⟩ := madeX_good l
  obtain ⟨hgy, hzy⟩ := madeX_deep m
  obtain ⟨y1, y2, y3, y4⟩ := madeX_good m
  have htl := textT_len t
  have hmx := iMade_eq (L := l) hl
  have hmy := iMade_eq (L := m) hm
  have htext := iText_eq (l := t) ht
  generalize madeX l = x at *
  generalize madeX m = y at *
  generalize textT t = s at *
  refine PCall.of_w (fn := Try.f4) (Γ := gam [(7, .pure iAw5), (9, .pure iMade), (10, .pure iText), (11, .pure iMat)]) (mu := false) (Sound.pure iAw5_call (Sound.pure iMade_call (Sound.pure iText_call (Sound.pure iMat_call Sound.nil)))) mixed Try.func4 rfl (by kernel_rfl) (by simp) (by kernel_rfl) ?_
  simp (disch := first | assumption | omega | exact okR_new | exact okR_one | exact trivial | (simp only [List.length_append, List.length_cons, List.length_nil]; omega) | (simp only [List.length_append, List.length_cons, List.length_nil, Nat.reduceAdd])) only [go_sem, e_go, e_cond_bool, e_w_bool, e_step_ite, e_reg_ite, e_regW_ite, e_code_ite, e_block_ite, e_evQ_ite, e_fin_ite, e_pair_ite, Try.f4, iAw5_eq, iMade_eq, iText_eq, iMat_eq, hmx, hmy, htext]
  have hMx := iMat_eq (x := x) (s := s) ⟨x1, by omega⟩
  have hMy := iMat_eq (x := y) (s := s) ⟨y1, by omega⟩
  let pt : Nat → Bool := fun i => @decide (∃ k, k < i ∧ R s x 0 k ∧ R s y k s.length) (Classical.propDecidable _)
  have hp0 : pt 0 = false := @decide_eq_false _ (Classical.propDecidable _) (by rintro ⟨k, h, _⟩; omega)
  have hpn : ∀ i, pt (i + 1) = true ↔ (pt i = true ∨ (R s x 0 i ∧ R s y i s.length)) := fun i => by
    simp only [pt, decide_eq_true_eq]
    constructor
    · rintro ⟨k, h1, h2⟩
      by_cases h : k = i
      · subst h; exact .inr h2
      · exact .inl ⟨k, by omega, h2⟩
    · rintro (⟨k, h1, h2⟩ | h)
      · exact ⟨k, by omega, h2⟩
      · exact ⟨i, by omega, h⟩
  have hpe : pt (s.length + 1) = true ↔ ∃ k, R s x 0 k ∧ R s y k s.length := by
    simp only [pt, decide_eq_true_eq]
    constructor
    · rintro ⟨k, _, h⟩; exact ⟨k, h⟩
    · rintro ⟨k, h⟩; exact ⟨k, by have := R_mono s y k s.length h.2; omega, h⟩
  generalize pt = pt at hp0 hpn hpe
  refine w_loop [] [11, 12] (fun i : Nat => s.length + 1 - i) (fun i => i ≤ s.length + 1) (fun i => ⟨[.cells 0 (cR x), .cells 0 (cR y)], []⟩)
    (fun i => [(11, .bool (pt i)), (12, .int .i64 (i : Nat))]) 0 (fun _ => rfl) (by kernel_rfl) (Nat.zero_le _) rfl (by simp [HasE, lk, hp0]) ?_
  intro i hi
  by_cases hin : i ≤ s.length
  · have hw : IntKind.i64.wrap ((i : Int) + 1) = (i : Int) + 1 := IntWalk.i64_in _ (by omega)
    have hv1 := iMat_eq (x := x) (s := s.take i) ⟨x1, by simp; omega⟩
    have hv2 := iMat_eq (x := y) (s := List.take (s.length - i) (List.drop i s)) ⟨y1, by simp; omega⟩
    have hc1 := match_cut (x := x) (s := s) (a := 0) (n := i) x2 (by omega) (Nat.zero_le _) hin
    have hc2 := match_cut (x := y) (s := s) (a := i) (n := s.length) y2 (by omega) hin (Nat.le_refl _)
    rw [List.drop_zero, Nat.sub_zero] at hc1
    obtain ⟨v1, e1⟩ : ∃ v, decide ((((s.take i).length : Nat) : Int) ∈ endsL x (s.take i) 0) = v := ⟨_, rfl⟩
    obtain ⟨v2, e2⟩ : ∃ v, decide ((((List.take (s.length - i) (List.drop i s)).length : Nat) : Int) ∈ endsL y (List.take (s.length - i) (List.drop i s)) 0) = v := ⟨_, rfl⟩
    rw [e1] at hv1
    rw [e2] at hv2
    have d1 : v1 = true ↔ R s x 0 i := by rw [← e1, decide_eq_true_eq, hc1]
    have d2 : v2 = true ↔ R s y i s.length := by rw [← e2, decide_eq_true_eq, hc2]
    have hpn := hpn i
    rw [← d1, ← d2] at hpn
    cases hpi : pt i
    · rw [hpi] at hpn
      cases v1
      · have hn : pt (i + 1) = false := by cases h : pt (i + 1); rfl; rw [h] at hpn; simp at hpn
        simp (disch := first | assumption | omega | exact okR_new | exact okR_one | exact trivial | (simp only [List.length_append, List.length_cons, List.length_nil]; omega) | (simp only [List.length_append, List.length_cons, List.length_nil, Nat.reduceAdd])) only [go_sem, e_go, e_cond_bool, e_w_bool, e_step_ite, e_reg_ite, e_regW_ite, e_code_ite, e_block_ite, e_evQ_ite, e_fin_ite, e_pair_ite, Try.f4, iAw5_eq, iMade_eq, iText_eq, iMat_eq, hpi, hw, hv1]
        exact ⟨i + 1, (by show s.length + 1 - (i + 1) < s.length + 1 - i; omega), by omega, rfl, by simp [HasE, lk, put, ev, hw, hn]⟩
      · cases v2
        · have hn : pt (i + 1) = false := by cases h : pt (i + 1); rfl; rw [h] at hpn; simp at hpn
          simp (disch := first | assumption | omega | exact okR_new | exact okR_one | exact trivial | (simp only [List.length_append, List.length_cons, List.length_nil]; omega) | (simp only [List.length_append, List.length_cons, List.length_nil, Nat.reduceAdd])) only [go_sem, e_go, e_cond_bool, e_w_bool, e_step_ite, e_reg_ite, e_regW_ite, e_code_ite, e_block_ite, e_evQ_ite, e_fin_ite, e_pair_ite, Try.f4, iAw5_eq, iMade_eq, iText_eq, iMat_eq, hpi, hw, hv1, hv2]
          exact ⟨i + 1, (by show s.length + 1 - (i + 1) < s.length + 1 - i; omega), by omega, rfl, by simp [HasE, lk, put, ev, hw, hn]⟩
        · have hn : pt (i + 1) = true := hpn.2 (.inr ⟨rfl, rfl⟩)
          simp (disch := first | assumption | omega | exact okR_new | exact okR_one | exact trivial | (simp only [List.length_append, List.length_cons, List.length_nil]; omega) | (simp only [List.length_append, List.length_cons, List.length_nil, Nat.reduceAdd])) only [go_sem, e_go, e_cond_bool, e_w_bool, e_step_ite, e_reg_ite, e_regW_ite, e_code_ite, e_block_ite, e_evQ_ite, e_fin_ite, e_pair_ite, Try.f4, iAw5_eq, iMade_eq, iText_eq, iMat_eq, hpi, hw, hv1, hv2]
          exact ⟨i + 1, (by show s.length + 1 - (i + 1) < s.length + 1 - i; omega), by omega, rfl, by simp [HasE, lk, put, ev, hw, hn]⟩
    · have hn : pt (i + 1) = true := hpn.2 (.inl hpi)
      simp (disch := first | assumption | omega | exact okR_new | exact okR_one | exact trivial | (simp only [List.length_append, List.length_cons, List.length_nil]; omega) | (simp only [List.length_append, List.length_cons, List.length_nil, Nat.reduceAdd])) only [go_sem, e_go, e_cond_bool, e_w_bool, e_step_ite, e_reg_ite, e_regW_ite, e_code_ite, e_block_ite, e_evQ_ite, e_fin_ite, e_pair_ite, Try.f4, iAw5_eq, iMade_eq, iText_eq, iMat_eq, hpi, hw]
      exact ⟨i + 1, (by show s.length + 1 - (i + 1) < s.length + 1 - i; omega), by omega, rfl, by simp [HasE, lk, put, ev, hw, hn]⟩
  · have hi' : i = s.length + 1 := by omega
    subst hi'
    simp (disch := first | assumption | omega | exact okR_new | exact okR_one | exact trivial | (simp only [List.length_append, List.length_cons, List.length_nil]; omega) | (simp only [List.length_append, List.length_cons, List.length_nil, Nat.reduceAdd])) only [go_sem, e_go, e_cond_bool, e_w_bool, e_step_ite, e_reg_ite, e_regW_ite, e_code_ite, e_block_ite, e_evQ_ite, e_fin_ite, e_pair_ite, Try.f4, iAw5_eq, iMade_eq, iText_eq, iMat_eq, bR2]
    refine w_loopc [] [53] (fun i : Nat => 2 - i) (fun i => i ≤ 2) (fun i => ⟨[.cells 0 (cR x), .cells 0 (cR y), pC 3 0 x y i, pC 4 1 x y i], pT x y i⟩)
      (fun i => [(53, .int .i64 (i : Nat))]) 0 (fun _ => rfl) (by kernel_rfl) (Nat.zero_le _) ⟨[], [], rfl⟩ (by simp [HasE, lk]) ?_ ?_
    · intro i hi
      have hcl : ∀ k q, (q = 0 ∨ q = 1) → cloB 4 (pT x y i).length (pC k q x y i) = true := fun k q hq => by
        match i with
        | 0 => simp [pC, pL, pR, cloB, cloL, clo, cloR, c_flR]
        | i + 1 => simp [pC, pR, pT, cloB, cloL, clo, cloR, c_flR]; omega
      refine ⟨?_, rfl, by simp [cloE, clo, cloL, c_rV, c_cR, cloR, l_s_cR2, c_flR, cloL_strip _ _ (l_s_cR2 (x := x) (y := y)), slc, cloL_strip _ _ (l_s_cU (s := l)), cloL_strip _ _ (l_s_cU (s := m)), cloL_strip _ _ (l_s_cU (s := t))]⟩
      have hL : [ABlk.cells 0 (cR x), .cells 0 (cR y), pC 3 0 x y i, pC 4 1 x y i].length = 4 := rfl
      simp only [List.all_cons, List.all_nil, hL, cR_clo0, hcl 3 0 (.inl rfl), hcl 4 1 (.inr rfl), Bool.and_true]
    intro i hi
    have hfx3 := flat1_sz 3 x
    have hfx4 := flat1_sz 4 x
    have hfy3 := flat1_sz 3 y
    have hfy4 := flat1_sz 4 y
    have hlx3 := len_szs (flat1 3 x)
    have hlx4 := len_szs (flat1 4 x)
    have hly3 := len_szs (flat1 3 y)
    have hly4 := len_szs (flat1 4 y)
    have hkx0 : (cR x)[0]? = some (.int .i64 x.k) := by rw [cR_eq]; rfl
    have hkx7 : (cR x)[7]? = some (slc cR x.l) := by rw [cR_eq]; rfl
    have hky0 : (cR y)[0]? = some (.int .i64 y.k) := by rw [cR_eq]; rfl
    have hky7 : (cR y)[7]? = some (slc cR y.l) := by rw [cR_eq]; rfl
    obtain rfl | rfl | rfl : i = 0 ∨ i = 1 ∨ i = 2 := by omega
    · simp only [pC, pT, pL, pR]
      have h8 : List.take 8 (cR x ++ cR y) = cR x := by
        exact List.take_left' (cR_len x)
      have hne3 : ¬ (3 : Int) = 4 := by decide
      have gen3 := fun H => apF (k := 3) (e := x) (H := H) (T := []) (r := .nil) (L := []) (by simp [okR]) (by simp) (by first | omega | (simp; omega))
      have gen4 := fun H => apF (k := 4) (e := x) (H := H) (T := [((flat1 3 x).length * 8, (8, 30))]) (r := .nil) (L := []) (by simp [okR]) (by simp) (by first | omega | (simp; omega))
      by_cases q3 : x.k = 3
      · have a3 : ∀ H, aappend Try.prog 28 28 ⟨H, []⟩ (.sl .nil 0 (fl cR [])) (slc cR x.l) = some (.sl (.tok 0) (flat1 3 x).length (fl cR (flat1 3 x)), ⟨H, [((flat1 3 x).length * 8, (8, 30))]⟩) := fun H => (gen3 H).1 q3
        have a4 : ∀ H, aappend Try.prog 28 28 ⟨H, [((flat1 3 x).length * 8, (8, 30))]⟩ (.sl .nil 0 (fl cR [])) (.sl .full 1 (cR x)) = some (.sl (.tok 1) (flat1 4 x).length (fl cR (flat1 4 x)), ⟨H, [((flat1 3 x).length * 8, (8, 30)), ((flat1 4 x).length * 8, (8, 30))]⟩) := fun H => (gen4 H).2 (by omega)
        simp (disch := first | assumption | omega | exact okR_new | exact okR_one | exact trivial | (simp only [List.length_append, List.length_cons, List.length_nil]; omega) | (simp only [List.length_append, List.length_cons, List.length_nil, Nat.reduceAdd])) only [go_sem, e_go, e_cond_bool, e_w_bool, e_step_ite, e_reg_ite, e_regW_ite, e_code_ite, e_block_ite, e_evQ_ite, e_fin_ite, e_pair_ite, Try.f4, iAw5_eq, iMade_eq, iText_eq, iMat_eq, bR1, h8, hkx0, hkx7, q3, a3, a4]
        exact ⟨1, by decide, by omega, ⟨[.cells 0 (cR x)], [], by simp [pC, pL, pR, pT]⟩, by simp [HasE, lk]⟩
      · by_cases q4 : x.k = 4
        · have a3 : ∀ H, aappend Try.prog 28 28 ⟨H, []⟩ (.sl .nil 0 (fl cR [])) (.sl .full 1 (cR x)) = some (.sl (.tok 0) (flat1 3 x).length (fl cR (flat1 3 x)), ⟨H, [((flat1 3 x).length * 8, (8, 30))]⟩) := fun H => (gen3 H).2 q3
          have a4 : ∀ H, aappend Try.prog 28 28 ⟨H, [((flat1 3 x).length * 8, (8, 30))]⟩ (.sl .nil 0 (fl cR [])) (slc cR x.l) = some (.sl (.tok 1) (flat1 4 x).length (fl cR (flat1 4 x)), ⟨H, [((flat1 3 x).length * 8, (8, 30)), ((flat1 4 x).length * 8, (8, 30))]⟩) := fun H => (gen4 H).1 q4
          simp (disch := first | assumption | omega | exact okR_new | exact okR_one | exact trivial | (simp only [List.length_append, List.length_cons, List.length_nil]; omega) | (simp only [List.length_append, List.length_cons, List.length_nil, Nat.reduceAdd])) only [go_sem, e_go, e_cond_bool, e_w_bool, e_step_ite, e_reg_ite, e_regW_ite, e_code_ite, e_block_ite, e_evQ_ite, e_fin_ite, e_pair_ite, Try.f4, iAw5_eq, iMade_eq, iText_eq, iMat_eq, bR1, h8, hkx0, hkx7, q4, a3, a4]
          exact ⟨1, by decide, by omega, ⟨[.cells 0 (cR x)], [], by simp [pC, pL, pR, pT]⟩, by simp [HasE, lk]⟩
        · have a3 : ∀ H, aappend Try.prog 28 28 ⟨H, []⟩ (.sl .nil 0 (fl cR [])) (.sl .full 1 (cR x)) = some (.sl (.tok 0) (flat1 3 x).length (fl cR (flat1 3 x)), ⟨H, [((flat1 3 x).length * 8, (8, 30))]⟩) := fun H => (gen3 H).2 q3
          have a4 : ∀ H, aappend Try.prog 28 28 ⟨H, [((flat1 3 x).length * 8, (8, 30))]⟩ (.sl .nil 0 (fl cR [])) (.sl .full 1 (cR x)) = some (.sl (.tok 1) (flat1 4 x).length (fl cR (flat1 4 x)), ⟨H, [((flat1 3 x).length * 8, (8, 30)), ((flat1 4 x).length * 8, (8, 30))]⟩) := fun H => (gen4 H).2 q4
          have z3 : decide (x.k = 3) = false := decide_eq_false q3
          have z4 : decide (x.k = 4) = false := decide_eq_false q4
          simp (disch := first | assumption | omega | exact okR_new | exact okR_one | exact trivial | (simp only [List.length_append, List.length_cons, List.length_nil]; omega) | (simp only [List.length_append, List.length_cons, List.length_nil, Nat.reduceAdd])) only [go_sem, e_go, e_cond_bool, e_w_bool, e_step_ite, e_reg_ite, e_regW_ite, e_code_ite, e_block_ite, e_evQ_ite, e_fin_ite, e_pair_ite, Try.f4, iAw5_eq, iMade_eq, iText_eq, iMat_eq, bR1, h8, hkx0, hkx7, z3, z4, a3, a4]
          exact ⟨1, by decide, by omega, ⟨[.cells 0 (cR x)], [], by simp [pC, pL, pR, pT]⟩, by simp [HasE, lk]⟩
    · simp only [pC, pT, pL, pR]
      have h8 : List.take 8 (List.drop 8 (cR x ++ cR y)) = cR y := by
        rw [List.drop_left' (cR_len x)]; exact List.take_of_length_le (by rw [cR_len]; exact Nat.le_refl _)
      have hne3 : ¬ (3 : Int) = 4 := by decide
      have gen3 := fun H => apF (k := 3) (e := y) (H := H) (T := [((flat1 3 x).length * 8, (8, 30)), ((flat1 4 x).length * 8, (8, 30))]) (r := (.tok 0)) (L := (flat1 3 x)) (by simp [okR]) (by simp) (by first | omega | (simp; omega))
      have gen4 := fun H => apF (k := 4) (e := y) (H := H) (T := [(((flat1 3 x).length + (flat1 3 y).length) * 8, (8, 30)), ((flat1 4 x).length * 8, (8, 30))]) (r := (.tok 1)) (L := (flat1 4 x)) (by simp [okR]) (by simp) (by first | omega | (simp; omega))
      by_cases q3 : y.k = 3
      · have a3 : ∀ H, aappend Try.prog 28 28 ⟨H, [((flat1 3 x).length * 8, (8, 30)), ((flat1 4 x).length * 8, (8, 30))]⟩ (.sl (.tok 0) (flat1 3 x).length (fl cR (flat1 3 x))) (slc cR y.l) = some (.sl (.tok 0) ((flat1 3 x).length + (flat1 3 y).length) (fl cR (flat1 3 x ++ flat1 3 y)), ⟨H, [(((flat1 3 x).length + (flat1 3 y).length) * 8, (8, 30)), ((flat1 4 x).length * 8, (8, 30))]⟩) := fun H => by have h := (gen3 H).1 q3; simp only [List.length_append] at h; exact h
        have a4 : ∀ H, aappend Try.prog 28 28 ⟨H, [(((flat1 3 x).length + (flat1 3 y).length) * 8, (8, 30)), ((flat1 4 x).length * 8, (8, 30))]⟩ (.sl (.tok 1) (flat1 4 x).length (fl cR (flat1 4 x))) (.sl .full 1 (cR y)) = some (.sl (.tok 1) ((flat1 4 x).length + (flat1 4 y).length) (fl cR (flat1 4 x ++ flat1 4 y)), ⟨H, [(((flat1 3 x).length + (flat1 3 y).length) * 8, (8, 30)), (((flat1 4 x).length + (flat1 4 y).length) * 8, (8, 30))]⟩) := fun H => by have h := (gen4 H).2 (by omega); simp only [List.length_append] at h; exact h
        simp (disch := first | assumption | omega | exact okR_new | exact okR_one | exact trivial | (simp only [List.length_append, List.length_cons, List.length_nil]; omega) | (simp only [List.length_append, List.length_cons, List.length_nil, Nat.reduceAdd])) only [go_sem, e_go, e_cond_bool, e_w_bool, e_step_ite, e_reg_ite, e_regW_ite, e_code_ite, e_block_ite, e_evQ_ite, e_fin_ite, e_pair_ite, Try.f4, iAw5_eq, iMade_eq, iText_eq, iMat_eq, bR1, h8, hky0, hky7, q3, a3, a4]
        exact ⟨2, by decide, by omega, ⟨[.cells 0 (cR y)], [], by simp [pC, pL, pR, pT]⟩, by simp [HasE, lk]⟩
      · by_cases q4 : y.k = 4
        · have a3 : ∀ H, aappend Try.prog 28 28 ⟨H, [((flat1 3 x).length * 8, (8, 30)), ((flat1 4 x).length * 8, (8, 30))]⟩ (.sl (.tok 0) (flat1 3 x).length (fl cR (flat1 3 x))) (.sl .full 1 (cR y)) = some (.sl (.tok 0) ((flat1 3 x).length + (flat1 3 y).length) (fl cR (flat1 3 x ++ flat1 3 y)), ⟨H, [(((flat1 3 x).length + (flat1 3 y).length) * 8, (8, 30)), ((flat1 4 x).length * 8, (8, 30))]⟩) := fun H => by have h := (gen3 H).2 q3; simp only [List.length_append] at h; exact h
          have a4 : ∀ H, aappend Try.prog 28 28 ⟨H, [(((flat1 3 x).length + (flat1 3 y).length) * 8, (8, 30)), ((flat1 4 x).length * 8, (8, 30))]⟩ (.sl (.tok 1) (flat1 4 x).length (fl cR (flat1 4 x))) (slc cR y.l) = some (.sl (.tok 1) ((flat1 4 x).length + (flat1 4 y).length) (fl cR (flat1 4 x ++ flat1 4 y)), ⟨H, [(((flat1 3 x).length + (flat1 3 y).length) * 8, (8, 30)), (((flat1 4 x).length + (flat1 4 y).length) * 8, (8, 30))]⟩) := fun H => by have h := (gen4 H).1 q4; simp only [List.length_append] at h; exact h
          simp (disch := first | assumption | omega | exact okR_new | exact okR_one | exact trivial | (simp only [List.length_append, List.length_cons, List.length_nil]; omega) | (simp only [List.length_append, List.length_cons, List.length_nil, Nat.reduceAdd])) only [go_sem, e_go, e_cond_bool, e_w_bool, e_step_ite, e_reg_ite, e_regW_ite, e_code_ite, e_block_ite, e_evQ_ite, e_fin_ite, e_pair_ite, Try.f4, iAw5_eq, iMade_eq, iText_eq, iMat_eq, bR1, h8, hky0, hky7, q4, a3, a4]
          exact ⟨2, by decide, by omega, ⟨[.cells 0 (cR y)], [], by simp [pC, pL, pR, pT]⟩, by simp [HasE, lk]⟩
        · have a3 : ∀ H, aappend Try.prog 28 28 ⟨H, [((flat1 3 x).length * 8, (8, 30)), ((flat1 4 x).length * 8, (8, 30))]⟩ (.sl (.tok 0) (flat1 3 x).length (fl cR (flat1 3 x))) (.sl .full 1 (cR y)) = some (.sl (.tok 0) ((flat1 3 x).length + (flat1 3 y).length) (fl cR (flat1 3 x ++ flat1 3 y)), ⟨H, [(((flat1 3 x).length + (flat1 3 y).length) * 8, (8, 30)), ((flat1 4 x).length * 8, (8, 30))]⟩) := fun H => by have h := (gen3 H).2 q3; simp only [List.length_append] at h; exact h
          have a4 : ∀ H, aappend Try.prog 28 28 ⟨H, [(((flat1 3 x).length + (flat1 3 y).length) * 8, (8, 30)), ((flat1 4 x).length * 8, (8, 30))]⟩ (.sl (.tok 1) (flat1 4 x).length (fl cR (flat1 4 x))) (.sl .full 1 (cR y)) = some (.sl (.tok 1) ((flat1 4 x).length + (flat1 4 y).length) (fl cR (flat1 4 x ++ flat1 4 y)), ⟨H, [(((flat1 3 x).length + (flat1 3 y).length) * 8, (8, 30)), (((flat1 4 x).length + (flat1 4 y).length) * 8, (8, 30))]⟩) := fun H => by have h := (gen4 H).2 q4; simp only [List.length_append] at h; exact h
          have z3 : decide (y.k = 3) = false := decide_eq_false q3
          have z4 : decide (y.k = 4) = false := decide_eq_false q4
          simp (disch := first | assumption | omega | exact okR_new | exact okR_one | exact trivial | (simp only [List.length_append, List.length_cons, List.length_nil]; omega) | (simp only [List.length_append, List.length_cons, List.length_nil, Nat.reduceAdd])) only [go_sem, e_go, e_cond_bool, e_w_bool, e_step_ite, e_reg_ite, e_regW_ite, e_code_ite, e_block_ite, e_evQ_ite, e_fin_ite, e_pair_ite, Try.f4, iAw5_eq, iMade_eq, iText_eq, iMat_eq, bR1, h8, hky0, hky7, z3, z4, a3, a4]
          exact ⟨2, by decide, by omega, ⟨[.cells 0 (cR y)], [], by simp [pC, pL, pR, pT]⟩, by simp [HasE, lk]⟩
    · have hgc := joinX_good (k := 3) (.inl rfl) hgx hgy (by omega)
      have hga := joinX_good (k := 4) (.inr rfl) hgx hgy (by omega)
      have hrc := rightT_of hgc (by omega) (by omega) (join_size (.inl rfl) hzx hzy)
      have hra := rightT_of hga (by omega) (by omega) (join_size (.inr rfl) hzx hzy)
      have hMc := iMat_eq (x := joinX 3 [x, y]) (s := s) ⟨hgc.ok, by omega⟩
      have hMa := iMat_eq (x := joinX 4 [x, y]) (s := s) ⟨hga.ok, by omega⟩
      have hf3 : AVal.agg [.int .i64 3, .int .u64 0, .int .u64 0, .int .u64 0, .int .u64 0, .int .i64 0, .int .i64 0, .sl .no ((flat1 3 x).length + (flat1 3 y).length) (fl cR (flat1 3 x ++ flat1 3 y))] = rV (joinX 3 [x, y]) := by rw [joinX_two, ← rV_kids, List.length_append]
      have hf4 : AVal.agg [.int .i64 4, .int .u64 0, .int .u64 0, .int .u64 0, .int .u64 0, .int .i64 0, .int .i64 0, .sl .no ((flat1 4 x).length + (flat1 4 y).length) (fl cR (flat1 4 x ++ flat1 4 y))] = rV (joinX 4 [x, y]) := by rw [joinX_two, ← rV_kids, List.length_append]
      obtain ⟨vc, ec⟩ : ∃ v, decide ((s.length : Int) ∈ endsL (joinX 3 [x, y]) s 0) = v := ⟨_, rfl⟩
      obtain ⟨va, ea⟩ : ∃ v, decide ((s.length : Int) ∈ endsL (joinX 4 [x, y]) s 0) = v := ⟨_, rfl⟩
      obtain ⟨vx, ex⟩ : ∃ v, decide ((s.length : Int) ∈ endsL x s 0) = v := ⟨_, rfl⟩
      obtain ⟨vy, ey⟩ : ∃ v, decide ((s.length : Int) ∈ endsL y s 0) = v := ⟨_, rfl⟩
      rw [ec] at hMc
      rw [ea] at hMa
      rw [ex] at hMx
      rw [ey] at hMy
      have hcp : vc = pt (s.length + 1) := by
        rw [Bool.eq_iff_iff, hpe, ← ec, decide_eq_true_eq, match_iff hrc (by omega), cat_R]
      have hav : va = (vx || vy) := by
        rw [Bool.eq_iff_iff, Bool.or_eq_true, ← ea, ← ex, ← ey, decide_eq_true_eq, decide_eq_true_eq, decide_eq_true_eq, match_iff hra (by omega), match_iff x2 (by omega), match_iff y2 (by omega), alt_R]
      subst hcp
      subst hav
      simp only [pC, pT, pL, pR]
      cases hp : pt (s.length + 1) <;> cases vx <;> cases vy <;> simp only [hp, Bool.or_true, Bool.or_false, Bool.true_or, Bool.false_or] at hMc hMa <;>
      · simp (disch := first | assumption | omega | exact okR_new | exact okR_one | exact trivial | (simp only [List.length_append, List.length_cons, List.length_nil]; omega) | (simp only [List.length_append, List.length_cons, List.length_nil, Nat.reduceAdd])) only [go_sem, e_go, e_cond_bool, e_w_bool, e_step_ite, e_reg_ite, e_regW_ite, e_code_ite, e_block_ite, e_evQ_ite, e_fin_ite, e_pair_ite, Try.f4, iAw5_eq, iMade_eq, iText_eq, iMat_eq, e_bin_bool, hf3, hf4, hMc, hMa, hMx, hMy, hp]
end Go.Hk.C
