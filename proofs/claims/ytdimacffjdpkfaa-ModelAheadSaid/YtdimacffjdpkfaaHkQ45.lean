import Derived.Test.YtdimacffjdpkfaaHkQ44
import Derived.Test.YtdimacffjdpkfaaHkQ31
import Derived.Test.YtdimacffjdpkfaaHkQ19
/- Layer 8: what is cut off makes no difference. -/
set_option linter.unusedSimpArgs false
set_option linter.unusedVariables false
set_option maxRecDepth 20000
set_option maxHeartbeats 1000000
namespace Go.Hk.M
open Go.Proofs

theorem w_ModelAhead (l t : List UInt8) (z : Nat) (hl : l.length < 9223372036854775808) (ht : t.length < 9223372036854775808) (hz : z < 256) : PCall Try.prog 5 [slc cU l, slc cU t, .int .u8 (z : Nat)] (.bool true) := by
  obtain ⟨a1, a2⟩ := madeS_good l false
  have htl := textT_len t
  have hmade := iMade6_eq (L := l) (p := false) hl
  have htext := iText_eq (l := t) ht
  generalize madeS l false = s at *
  generalize textT t = w at *
  obtain ⟨L, J, hQ⟩ := inQ a1 a2 htl
  have hT := iTk_at hQ
  have hcs := cSp_eq s
  have hll := hQ.ll
  have w0 : w.length ≤ 10000 := by omega
  have hra := run_at a2 w0 hQ.run ⟨Int.le_refl _, hQ.c0⟩
  have hP := fun (i c : Int) => iPi_eq (u := s) (w := w) (i := i) (c := c) ⟨a1, by omega⟩
  obtain ⟨m, hm⟩ : ∃ m, z % 12 = m := ⟨_, rfl⟩
  have hmm : ((z : Nat) : Int).tmod 12 = ((m : Nat) : Int) := by rw [← hm]; rfl
  have hwz : IntKind.i64.wrap ((z : Nat) : Int) = ((z : Nat) : Int) := IntWalk.i64_in _ (by omega)
  have hclo : ∀ (x : List (Nat × AVal)), cloE 2 0 x = true → True := fun _ _ => trivial
  refine PCall.of_w (fn := Try.f5) (Γ := gam [(6, .pure iAw8), (7, .pure iMade6), (8, .pure iText), (9, .pure iTks), (12, .pure iPi)]) (mu := false) (Sound.pure iAw8_call (Sound.pure iMade6_call (Sound.pure iText_call (Sound.pure iTks_call (Sound.pure iPi_call Sound.nil))))) mixed Try.func5 rfl (by kernel_rfl) (by simp) (by kernel_rfl) ?_
  simp (disch := first | assumption | omega | exact okR_new | exact okR_one | exact trivial | (simp only [List.length_append, List.length_cons, List.length_nil]; omega) | (simp only [List.length_append, List.length_cons, List.length_nil, Nat.reduceAdd])) only [go_sem, e_go, e_cond_bool, e_w_bool, e_step_ite, e_reg_ite, e_regW_ite, e_code_ite, e_block_ite, e_evQ_ite, e_fin_ite, e_pair_ite, Try.f5, iAw8_eq, iMade6_eq, iText_eq, iTks_eq, iPi_eq, hmade, htext, hT]
  refine w_loopc [6] [12, 13] (fun i : Nat => L.length - i) (fun i => i ≤ L.length ∧ ∀ j t, j < i → L[j]? = some t → t.st < w.length) (fun i => ⟨[.cells 0 (cSp s), .cells 0 [.sl .no L.length (fl cTok L), .int .i64 J]], []⟩)
    (fun i => [(12, .int .i64 ((i - 1 : Nat) : Int)), (13, .int .i64 (i : Nat))]) 0 (fun _ => rfl) (by kernel_rfl) ⟨Nat.zero_le _, fun j t h => absurd h (Nat.not_lt_zero _)⟩ ⟨[], [], by simp [hcs]⟩ (by simp [HasE, lk]) ?_ ?_
  · intro i _
    refine ⟨?_, ?_, ?_⟩ <;> simp [cloE, clo, cloL, cloB, cSp_eq, c_Rno, c_flCd, c_flRu, c_sV, c_flTok, slc, cloL_strip _ _ (l_s_cU (s := l)), cloL_strip _ _ (l_s_cU (s := t))]
  rintro i ⟨hi, hst⟩
  have hw1 : IntKind.i64.wrap ((i : Int) + 1) = ((i + 1 : Nat) : Int) := by rw [IntWalk.i64_in _ (by omega)]; omega
  have cases : (i = L.length ∧ L = []) ∨ (∃ k, i = L.length ∧ L[i - 1]? = some k) ∨ (∃ k, L[i]? = some k ∧ k.st = w.length ∧ i = 0) ∨ (∃ k k', L[i]? = some k ∧ k.st = w.length ∧ 0 < i ∧ L[i - 1]? = some k') ∨ (∃ k, L[i]? = some k ∧ k.st < w.length ∧ m ≤ i) ∨ (∃ k, L[i]? = some k ∧ k.st < w.length ∧ i < m) := by
    rcases Nat.lt_or_ge i L.length with h | h
    · have hg : L[i]? = some L[i] := by simp [h]
      have := (hra L[i] (List.getElem_mem h)).2
      have hsl : L[i].st ≤ w.length := by
        rcases this with ⟨h1, _⟩ | ⟨h1, _⟩ <;> omega
      rcases Nat.lt_or_ge L[i].st w.length with h1 | h1
      · rcases Nat.lt_or_ge i m with h2 | h2
        · exact .inr (.inr (.inr (.inr (.inr ⟨_, hg, h1, h2⟩))))
        · exact .inr (.inr (.inr (.inr (.inl ⟨_, hg, h1, h2⟩))))
      · rcases Nat.eq_zero_or_pos i with h2 | h2
        · exact .inr (.inr (.inl ⟨_, hg, by omega, h2⟩))
        · exact .inr (.inr (.inr (.inl ⟨_, L[i - 1], hg, by omega, h2, by simp⟩)))
    · have hil : i = L.length := by omega
      cases L with
      | nil => exact .inl ⟨hil, rfl⟩
      | cons a L => exact .inr (.inl ⟨(a :: L)[i - 1]'(by simp at hil ⊢; omega), hil, by simp⟩)
  have hget : ∀ {j : Nat} {k : Tok}, L[j]? = some k → (fl cTok L)[j * 4 + 1]? = some (.int .i64 (k.st : Nat)) ∧ (fl cTok L)[j * 4 + 3]? = some (.int .i64 k.cond) ∧ j * 4 + 4 ≤ L.length * 4 ∧ j < L.length := fun {j k} h => by
    have h1 := fl_get cTok_len h (j := 1) (by omega)
    have h3 := fl_get cTok_len h (j := 3) (by omega)
    simp only [cTok, List.getElem?_cons_succ, List.getElem?_cons_zero] at h1 h3
    have h4 := (List.getElem?_eq_some_iff.1 h).1
    exact ⟨h1, h3, by omega, h4⟩
  have hpick : ∀ {j : Nat} {k : Tok}, L[j]? = some k → k.st < w.length → iPi [sV s, .str w, .int .i64 (k.st : Nat), .int .i64 k.cond] = some (.tup (.int .i64 (pickP s w k.st k.cond).1) [.int .i64 ((pickP s w k.st k.cond).2 : Nat)]) ∧ k.st + (pickP s w k.st k.cond).2 ≤ w.length := fun {j k} h h1 => by
    have hcc := (hra k (List.mem_of_getElem? h)).1
    have hPk := hP k.st k.cond
    rw [pickQ_at a2 htl (by omega) hcc] at hPk
    exact ⟨hPk, look_le a2 w0 h1⟩
  rcases cases with ⟨c1, rfl⟩ | ⟨k, c1, c2⟩ | ⟨k, c1, c2, rfl⟩ | ⟨k, k', c1, c2, c3, c4⟩ | ⟨k, c1, c2, c3⟩ | ⟨k, c1, c2, c3⟩
  · subst c1
    simp (disch := first | assumption | omega | exact okR_new | exact okR_one | exact trivial | (simp only [List.length_append, List.length_cons, List.length_nil]; omega) | (simp only [List.length_append, List.length_cons, List.length_nil, Nat.reduceAdd])) only [go_sem, e_go, e_cond_bool, e_w_bool, e_step_ite, e_reg_ite, e_regW_ite, e_code_ite, e_block_ite, e_evQ_ite, e_fin_ite, e_pair_ite, Try.f5, iAw8_eq, iMade6_eq, iText_eq, iTks_eq, iPi_eq, hcs]
  · have hKs : ∀ j t, j ≤ i - 1 → L[j]? = some t → t.st < w.length := fun j t hj h => hst j t (by have := (List.getElem?_eq_some_iff.1 c2).1; omega) h
    subst c1
    obtain ⟨g1, g3, g4, g5⟩ := hget c2
    obtain ⟨K, hK⟩ : ∃ K, L.length - 1 = K := ⟨_, rfl⟩
    have hgK := c2
    have hks := hKs (L.length - 1) k (Nat.le_refl _) c2
    have d0 : decide ((L.length : Int) = 0) = false := decide_eq_false (by omega)
    have d1 : decide ((k.st : Int) = (w.length : Nat)) = false := decide_eq_false (by omega)
    rw [hK] at g1 g3 g4 g5 hgK hKs
    simp (disch := first | assumption | omega | exact okR_new | exact okR_one | exact trivial | (simp only [List.length_append, List.length_cons, List.length_nil]; omega) | (simp only [List.length_append, List.length_cons, List.length_nil, Nat.reduceAdd])) only [go_sem, e_go, e_cond_bool, e_w_bool, e_step_ite, e_reg_ite, e_regW_ite, e_code_ite, e_block_ite, e_evQ_ite, e_fin_ite, e_pair_ite, Try.f5, iAw8_eq, iMade6_eq, iText_eq, iTks_eq, iPi_eq, hcs, hK, g1, g3, d0, d1]
    refine w_loopc [] [16, 17] (fun j : Nat => K + 1 - j) (fun j => j ≤ K + 1) (fun j => ⟨[.cells 0 (cSp s), .cells 0 [.sl .no L.length (fl cTok L), .int .i64 J]], []⟩)
      (fun j => [(16, .int .i64 (mostP s w (L.take j) : Nat)), (17, .int .i64 (j : Nat))]) 0 (fun _ => rfl) (by kernel_rfl) (Nat.zero_le _) ⟨[], [], by simp [hcs]⟩ (by simp [HasE, lk, mostP]) ?_ ?_
    · intro j _
      refine ⟨?_, ?_, ?_⟩ <;> simp [cloE, clo, cloL, cloB, cSp_eq, c_Rno, c_flCd, c_flRu, c_sV, c_flTok, slc, cloL_strip _ _ (l_s_cU (s := l)), cloL_strip _ _ (l_s_cU (s := t))]
    intro j hj
    by_cases hjk : j ≤ K
    · have hgj : L[j]? = some L[j] := by simp
      have hsj := hKs j _ hjk hgj
      obtain ⟨r1, r3, r4, r5⟩ := hget hgj
      obtain ⟨hPj, hlj⟩ := hpick hgj hsj
      have hnx := mostP_next (s := s) (w := w) hgj
      have hmb : mostP s w (L.take j) ≤ w.length := mostP_le fun e t he h => by
        have h1 := hKs e t (by omega) h
        have h2 := look_le a2 w0 h1
        omega
      generalize L[j] = kj at *
      generalize (pickP s w kj.st kj.cond).1 = p1 at *
      generalize (pickP s w kj.st kj.cond).2 = p2 at *
      have hx1 : imax (p2 : Nat) 1 = ((max p2 1 : Nat) : Int) := by unfold imax; split <;> omega
      have hwx : IntKind.i64.wrap ((kj.st : Int) + ((max p2 1 : Nat) : Int)) = ((kj.st + max p2 1 : Nat) : Int) := by rw [IntWalk.i64_in _ (by omega)]; omega
      have hwj : IntKind.i64.wrap ((j : Int) + 1) = ((j + 1 : Nat) : Int) := by rw [IntWalk.i64_in _ (by omega)]; omega
      generalize mostP s w (L.take j) = M0 at *
      have hx2 : imax (M0 : Nat) ((kj.st + max p2 1 : Nat) : Int) = ((mostP s w (L.take (j + 1)) : Nat) : Int) := by rw [hnx]; unfold imax; split <;> omega
      have d5 : decide ((j : Int) ≤ (K : Nat)) = true := decide_eq_true (by omega)
      simp (disch := first | assumption | omega | exact okR_new | exact okR_one | exact trivial | (simp only [List.length_append, List.length_cons, List.length_nil]; omega) | (simp only [List.length_append, List.length_cons, List.length_nil, Nat.reduceAdd])) only [go_sem, e_go, e_cond_bool, e_w_bool, e_step_ite, e_reg_ite, e_regW_ite, e_code_ite, e_block_ite, e_evQ_ite, e_fin_ite, e_pair_ite, Try.f5, iAw8_eq, iMade6_eq, iText_eq, iTks_eq, iPi_eq, hcs, r1, r3, hPj, hx1, hwx, hx2, hwj, d5]
      exact ⟨j + 1, (show K + 1 - (j + 1) < K + 1 - j by omega), Nat.succ_le_succ hjk, ⟨[], [], rfl⟩, by simp [HasE, lk]⟩
    · obtain rfl : j = K + 1 := by omega
      have hB : mostP s w (L.take (K + 1)) ≤ w.length := mostP_le fun e t he h => by
        have h1 := hKs e t (by omega) h
        have h2 := look_le a2 w0 h1
        omega
      have hcut : ∀ e, e ≤ K → ∃ t, L[e]? = some t ∧ t.st < w.length ∧ t.st + max (pickP s w t.st t.cond).2 1 ≤ mostP s w (L.take (K + 1)) := fun e he => by
        have hge : L[e]? = some (L[e]'(by omega)) := by simp
        exact ⟨_, hge, hKs e _ he hge, mostP_ge (by omega) hge⟩
      generalize mostP s w (L.take (K + 1)) = B at *
      obtain ⟨L', J', hQ'⟩ := inQ (w := w.take B) a1 a2 (by simp; omega)
      have hT' := iTk_at hQ'
      have hll' := hQ'.ll
      have hsame := run_cut a2 w0 hB K L L' 0 0 J J' hQ.run hQ'.run hcut
      have hKL' : K < L'.length := by
        have := hsame K (Nat.le_refl _)
        rw [hgK] at this
        exact (List.getElem?_eq_some_iff.1 this).1
      have d5 : decide (((K + 1 : Nat) : Int) ≤ (K : Nat)) = false := decide_eq_false (by omega)
      have d6 : decide ((L'.length : Int) ≤ (K : Nat)) = false := decide_eq_false (by omega)
      have hsl : B - 0 = B := Nat.sub_zero _
      simp (disch := first | assumption | omega | exact okR_new | exact okR_one | exact trivial | (simp only [List.length_append, List.length_cons, List.length_nil]; omega) | (simp only [List.length_append, List.length_cons, List.length_nil, Nat.reduceAdd])) only [go_sem, e_go, e_cond_bool, e_w_bool, e_step_ite, e_reg_ite, e_regW_ite, e_code_ite, e_block_ite, e_evQ_ite, e_fin_ite, e_pair_ite, Try.f5, iAw8_eq, iMade6_eq, iText_eq, iTks_eq, iPi_eq, hcs, d5, d6, hT', hsl, List.drop_zero]
      refine w_loopc [6] [22] (fun e : Nat => K + 1 - e) (fun e => e ≤ K + 1) (fun e => ⟨[.cells 0 (cSp s), .cells 0 [.sl .no L.length (fl cTok L), .int .i64 J], .cells 0 [.sl .no L'.length (fl cTok L'), .int .i64 J']], []⟩)
        (fun e => [(22, .int .i64 (e : Nat))]) 0 (fun _ => rfl) (by kernel_rfl) (Nat.zero_le _) ⟨[], [], by simp [hcs]⟩ (by simp [HasE, lk]) ?_ ?_
      · intro e _
        refine ⟨?_, ?_, ?_⟩ <;> simp [cloE, clo, cloL, cloB, cSp_eq, c_Rno, c_flCd, c_flRu, c_sV, c_flTok, slc, cloL_strip _ _ (l_s_cU (s := l)), cloL_strip _ _ (l_s_cU (s := t))]
      intro e he
      by_cases hek : e ≤ K
      · have hge : L[e]? = some (L[e]'(by omega)) := by simp
        have hge' := hsame e hek
        rw [hge] at hge'
        have hat := fl_at cTok_len hge
        have hat' := fl_at cTok_len hge'
        have hl1 : e * 4 + 4 ≤ L.length * 4 := by omega
        have hl2 : e * 4 + 4 ≤ L'.length * 4 := by omega
        have hwe : IntKind.i64.wrap ((e : Int) + 1) = ((e + 1 : Nat) : Int) := by rw [IntWalk.i64_in _ (by omega)]; omega
        have d7 : decide ((e : Int) ≤ (K : Nat)) = true := decide_eq_true (by omega)
        generalize (L[e]'(by omega)) = x at *
        have hne : tkE x.rule (x.st : Nat) (x.en : Nat) x.cond x.rule (x.st : Nat) (x.en : Nat) x.cond = true := by simp [tkE]
        simp (disch := first | assumption | omega | exact okR_new | exact okR_one | exact trivial | (simp only [List.length_append, List.length_cons, List.length_nil]; omega) | (simp only [List.length_append, List.length_cons, List.length_nil, Nat.reduceAdd])) only [go_sem, e_go, e_cond_bool, e_w_bool, e_step_ite, e_reg_ite, e_regW_ite, e_code_ite, e_block_ite, e_evQ_ite, e_fin_ite, e_pair_ite, Try.f5, iAw8_eq, iMade6_eq, iText_eq, iTks_eq, iPi_eq, hcs, hat, hat', cTok, tk_neq, hne, hwe, d7]
        exact ⟨e + 1, (show K + 1 - (e + 1) < K + 1 - e by omega), Nat.succ_le_succ hek, ⟨[], [], rfl⟩, by simp [HasE, lk]⟩
      · obtain rfl : e = K + 1 := by omega
        have d7 : decide (((K + 1 : Nat) : Int) ≤ (K : Nat)) = false := decide_eq_false (by omega)
        simp (disch := first | assumption | omega | exact okR_new | exact okR_one | exact trivial | (simp only [List.length_append, List.length_cons, List.length_nil]; omega) | (simp only [List.length_append, List.length_cons, List.length_nil, Nat.reduceAdd])) only [go_sem, e_go, e_cond_bool, e_w_bool, e_step_ite, e_reg_ite, e_regW_ite, e_code_ite, e_block_ite, e_evQ_ite, e_fin_ite, e_pair_ite, Try.f5, iAw8_eq, iMade6_eq, iText_eq, iTks_eq, iPi_eq, hcs, d7]
  · obtain ⟨g1, g3, g4, g5⟩ := hget c1
    simp only [Nat.zero_mul, Nat.zero_add] at g1 g3 g4
    have d0 : decide ((L.length : Int) = 0) = false := decide_eq_false (by omega)
    have d1 : decide ((w.length : Int) < (k.st : Nat)) = false := decide_eq_false (by omega)
    have d2 : decide ((k.st : Int) = (w.length : Nat)) = true := decide_eq_true (by omega)
    simp (disch := first | assumption | omega | exact okR_new | exact okR_one | exact trivial | (simp only [List.length_append, List.length_cons, List.length_nil]; omega) | (simp only [List.length_append, List.length_cons, List.length_nil, Nat.reduceAdd])) only [go_sem, e_go, e_cond_bool, e_w_bool, e_step_ite, e_reg_ite, e_regW_ite, e_code_ite, e_block_ite, e_evQ_ite, e_fin_ite, e_pair_ite, Try.f5, iAw8_eq, iMade6_eq, iText_eq, iTks_eq, iPi_eq, hcs, g1, g3, d0, d1, d2]
  · have hKs : ∀ j t, j ≤ i - 1 → L[j]? = some t → t.st < w.length := fun j t hj h => hst j t (by omega) h
    obtain ⟨g1, g3, g4, g5⟩ := hget c1
    obtain ⟨f1, f3, f4, f5⟩ := hget c4
    obtain ⟨K, hK⟩ : ∃ K, i - 1 = K := ⟨_, rfl⟩
    have hgK := c4
    have hks := hKs (i - 1) k' (Nat.le_refl _) c4
    have d0 : decide ((L.length : Int) = 0) = false := decide_eq_false (by omega)
    have d1 : decide ((w.length : Int) < (k.st : Nat)) = false := decide_eq_false (by omega)
    have d2 : decide ((k.st : Int) = (w.length : Nat)) = true := decide_eq_true (by omega)
    have d3 : decide ((k'.st : Int) = (w.length : Nat)) = false := decide_eq_false (by omega)
    rw [hK] at f1 f3 f4 f5 hgK hKs
    simp (disch := first | assumption | omega | exact okR_new | exact okR_one | exact trivial | (simp only [List.length_append, List.length_cons, List.length_nil]; omega) | (simp only [List.length_append, List.length_cons, List.length_nil, Nat.reduceAdd])) only [go_sem, e_go, e_cond_bool, e_w_bool, e_step_ite, e_reg_ite, e_regW_ite, e_code_ite, e_block_ite, e_evQ_ite, e_fin_ite, e_pair_ite, Try.f5, iAw8_eq, iMade6_eq, iText_eq, iTks_eq, iPi_eq, hcs, hK, g1, g3, f1, f3, d0, d1, d2, d3]
    refine w_loopc [] [16, 17] (fun j : Nat => K + 1 - j) (fun j => j ≤ K + 1) (fun j => ⟨[.cells 0 (cSp s), .cells 0 [.sl .no L.length (fl cTok L), .int .i64 J]], []⟩)
      (fun j => [(16, .int .i64 (mostP s w (L.take j) : Nat)), (17, .int .i64 (j : Nat))]) 0 (fun _ => rfl) (by kernel_rfl) (Nat.zero_le _) ⟨[], [], by simp [hcs]⟩ (by simp [HasE, lk, mostP]) ?_ ?_
    · intro j _
      refine ⟨?_, ?_, ?_⟩ <;> simp [cloE, clo, cloL, cloB, cSp_eq, c_Rno, c_flCd, c_flRu, c_sV, c_flTok, slc, cloL_strip _ _ (l_s_cU (s := l)), cloL_strip _ _ (l_s_cU (s := t))]
    intro j hj
    by_cases hjk : j ≤ K
    · have hgj : L[j]? = some L[j] := by simp
      have hsj := hKs j _ hjk hgj
      obtain ⟨r1, r3, r4, r5⟩ := hget hgj
      obtain ⟨hPj, hlj⟩ := hpick hgj hsj
      have hnx := mostP_next (s := s) (w := w) hgj
      have hmb : mostP s w (L.take j) ≤ w.length := mostP_le fun e t he h => by
        have h1 := hKs e t (by omega) h
        have h2 := look_le a2 w0 h1
        omega
      generalize L[j] = kj at *
      generalize (pickP s w kj.st kj.cond).1 = p1 at *
      generalize (pickP s w kj.st kj.cond).2 = p2 at *
      have hx1 : imax (p2 : Nat) 1 = ((max p2 1 : Nat) : Int) := by unfold imax; split <;> omega
      have hwx : IntKind.i64.wrap ((kj.st : Int) + ((max p2 1 : Nat) : Int)) = ((kj.st + max p2 1 : Nat) : Int) := by rw [IntWalk.i64_in _ (by omega)]; omega
      have hwj : IntKind.i64.wrap ((j : Int) + 1) = ((j + 1 : Nat) : Int) := by rw [IntWalk.i64_in _ (by omega)]; omega
      generalize mostP s w (L.take j) = M0 at *
      have hx2 : imax (M0 : Nat) ((kj.st + max p2 1 : Nat) : Int) = ((mostP s w (L.take (j + 1)) : Nat) : Int) := by rw [hnx]; unfold imax; split <;> omega
      have d5 : decide ((j : Int) ≤ (K : Nat)) = true := decide_eq_true (by omega)
      simp (disch := first | assumption | omega | exact okR_new | exact okR_one | exact trivial | (simp only [List.length_append, List.length_cons, List.length_nil]; omega) | (simp only [List.length_append, List.length_cons, List.length_nil, Nat.reduceAdd])) only [go_sem, e_go, e_cond_bool, e_w_bool, e_step_ite, e_reg_ite, e_regW_ite, e_code_ite, e_block_ite, e_evQ_ite, e_fin_ite, e_pair_ite, Try.f5, iAw8_eq, iMade6_eq, iText_eq, iTks_eq, iPi_eq, hcs, r1, r3, hPj, hx1, hwx, hx2, hwj, d5]
      exact ⟨j + 1, (show K + 1 - (j + 1) < K + 1 - j by omega), Nat.succ_le_succ hjk, ⟨[], [], rfl⟩, by simp [HasE, lk]⟩
    · obtain rfl : j = K + 1 := by omega
      have hB : mostP s w (L.take (K + 1)) ≤ w.length := mostP_le fun e t he h => by
        have h1 := hKs e t (by omega) h
        have h2 := look_le a2 w0 h1
        omega
      have hcut : ∀ e, e ≤ K → ∃ t, L[e]? = some t ∧ t.st < w.length ∧ t.st + max (pickP s w t.st t.cond).2 1 ≤ mostP s w (L.take (K + 1)) := fun e he => by
        have hge : L[e]? = some (L[e]'(by omega)) := by simp
        exact ⟨_, hge, hKs e _ he hge, mostP_ge (by omega) hge⟩
      generalize mostP s w (L.take (K + 1)) = B at *
      obtain ⟨L', J', hQ'⟩ := inQ (w := w.take B) a1 a2 (by simp; omega)
      have hT' := iTk_at hQ'
      have hll' := hQ'.ll
      have hsame := run_cut a2 w0 hB K L L' 0 0 J J' hQ.run hQ'.run hcut
      have hKL' : K < L'.length := by
        have := hsame K (Nat.le_refl _)
        rw [hgK] at this
        exact (List.getElem?_eq_some_iff.1 this).1
      have d5 : decide (((K + 1 : Nat) : Int) ≤ (K : Nat)) = false := decide_eq_false (by omega)
      have d6 : decide ((L'.length : Int) ≤ (K : Nat)) = false := decide_eq_false (by omega)
      have hsl : B - 0 = B := Nat.sub_zero _
      simp (disch := first | assumption | omega | exact okR_new | exact okR_one | exact trivial | (simp only [List.length_append, List.length_cons, List.length_nil]; omega) | (simp only [List.length_append, List.length_cons, List.length_nil, Nat.reduceAdd])) only [go_sem, e_go, e_cond_bool, e_w_bool, e_step_ite, e_reg_ite, e_regW_ite, e_code_ite, e_block_ite, e_evQ_ite, e_fin_ite, e_pair_ite, Try.f5, iAw8_eq, iMade6_eq, iText_eq, iTks_eq, iPi_eq, hcs, d5, d6, hT', hsl, List.drop_zero]
      refine w_loopc [6] [22] (fun e : Nat => K + 1 - e) (fun e => e ≤ K + 1) (fun e => ⟨[.cells 0 (cSp s), .cells 0 [.sl .no L.length (fl cTok L), .int .i64 J], .cells 0 [.sl .no L'.length (fl cTok L'), .int .i64 J']], []⟩)
        (fun e => [(22, .int .i64 (e : Nat))]) 0 (fun _ => rfl) (by kernel_rfl) (Nat.zero_le _) ⟨[], [], by simp [hcs]⟩ (by simp [HasE, lk]) ?_ ?_
      · intro e _
        refine ⟨?_, ?_, ?_⟩ <;> simp [cloE, clo, cloL, cloB, cSp_eq, c_Rno, c_flCd, c_flRu, c_sV, c_flTok, slc, cloL_strip _ _ (l_s_cU (s := l)), cloL_strip _ _ (l_s_cU (s := t))]
      intro e he
      by_cases hek : e ≤ K
      · have hge : L[e]? = some (L[e]'(by omega)) := by simp
        have hge' := hsame e hek
        rw [hge] at hge'
        have hat := fl_at cTok_len hge
        have hat' := fl_at cTok_len hge'
        have hl1 : e * 4 + 4 ≤ L.length * 4 := by omega
        have hl2 : e * 4 + 4 ≤ L'.length * 4 := by omega
        have hwe : IntKind.i64.wrap ((e : Int) + 1) = ((e + 1 : Nat) : Int) := by rw [IntWalk.i64_in _ (by omega)]; omega
        have d7 : decide ((e : Int) ≤ (K : Nat)) = true := decide_eq_true (by omega)
        generalize (L[e]'(by omega)) = x at *
        have hne : tkE x.rule (x.st : Nat) (x.en : Nat) x.cond x.rule (x.st : Nat) (x.en : Nat) x.cond = true := by simp [tkE]
        simp (disch := first | assumption | omega | exact okR_new | exact okR_one | exact trivial | (simp only [List.length_append, List.length_cons, List.length_nil]; omega) | (simp only [List.length_append, List.length_cons, List.length_nil, Nat.reduceAdd])) only [go_sem, e_go, e_cond_bool, e_w_bool, e_step_ite, e_reg_ite, e_regW_ite, e_code_ite, e_block_ite, e_evQ_ite, e_fin_ite, e_pair_ite, Try.f5, iAw8_eq, iMade6_eq, iText_eq, iTks_eq, iPi_eq, hcs, hat, hat', cTok, tk_neq, hne, hwe, d7]
        exact ⟨e + 1, (show K + 1 - (e + 1) < K + 1 - e by omega), Nat.succ_le_succ hek, ⟨[], [], rfl⟩, by simp [HasE, lk]⟩
      · obtain rfl : e = K + 1 := by omega
        have d7 : decide (((K + 1 : Nat) : Int) ≤ (K : Nat)) = false := decide_eq_false (by omega)
        simp (disch := first | assumption | omega | exact okR_new | exact okR_one | exact trivial | (simp only [List.length_append, List.length_cons, List.length_nil]; omega) | (simp only [List.length_append, List.length_cons, List.length_nil, Nat.reduceAdd])) only [go_sem, e_go, e_cond_bool, e_w_bool, e_step_ite, e_reg_ite, e_regW_ite, e_code_ite, e_block_ite, e_evQ_ite, e_fin_ite, e_pair_ite, Try.f5, iAw8_eq, iMade6_eq, iText_eq, iTks_eq, iPi_eq, hcs, d7]
  · obtain ⟨g1, g3, g4, g5⟩ := hget c1
    obtain ⟨hPk, hlo⟩ := hpick c1 c2
    have hKs : ∀ j t, j ≤ i → L[j]? = some t → t.st < w.length := fun j t hj h => by
      by_cases e : j = i
      · subst e; rw [c1] at h; cases h; exact c2
      · exact hst j t (by omega) h
    generalize (pickP s w k.st k.cond).1 = p1 at *
    generalize (pickP s w k.st k.cond).2 = p2 at *
    have hwn : IntKind.i64.wrap ((k.st : Int) + (p2 : Int)) = ((k.st + p2 : Nat) : Int) := by rw [IntWalk.i64_in _ (by omega)]; omega
    have d0 : decide ((L.length : Int) = 0) = false := decide_eq_false (by omega)
    have d1 : decide ((w.length : Int) < (k.st : Nat)) = false := decide_eq_false (by omega)
    have d2 : decide ((k.st : Int) = (w.length : Nat)) = false := decide_eq_false (by omega)
    have d3 : decide ((w.length : Int) < ((k.st + p2 : Nat) : Int)) = false := decide_eq_false (by omega)
    have d4 : decide ((m : Int) ≤ (i : Nat)) = true := decide_eq_true (by omega)
    simp (disch := first | assumption | omega | exact okR_new | exact okR_one | exact trivial | (simp only [List.length_append, List.length_cons, List.length_nil]; omega) | (simp only [List.length_append, List.length_cons, List.length_nil, Nat.reduceAdd])) only [go_sem, e_go, e_cond_bool, e_w_bool, e_step_ite, e_reg_ite, e_regW_ite, e_code_ite, e_block_ite, e_evQ_ite, e_fin_ite, e_pair_ite, Try.f5, iAw8_eq, iMade6_eq, iText_eq, iTks_eq, iPi_eq, hcs, g1, g3, d0, d1, d2, d3, d4, hPk, hwn, hwz, hmm]
    obtain ⟨K, rfl⟩ : ∃ K, K = i := ⟨i, rfl⟩
    have hgK := c1
    refine w_loopc [] [16, 17] (fun j : Nat => K + 1 - j) (fun j => j ≤ K + 1) (fun j => ⟨[.cells 0 (cSp s), .cells 0 [.sl .no L.length (fl cTok L), .int .i64 J]], []⟩)
      (fun j => [(16, .int .i64 (mostP s w (L.take j) : Nat)), (17, .int .i64 (j : Nat))]) 0 (fun _ => rfl) (by kernel_rfl) (Nat.zero_le _) ⟨[], [], by simp [hcs]⟩ (by simp [HasE, lk, mostP]) ?_ ?_
    · intro j _
      refine ⟨?_, ?_, ?_⟩ <;> simp [cloE, clo, cloL, cloB, cSp_eq, c_Rno, c_flCd, c_flRu, c_sV, c_flTok, slc, cloL_strip _ _ (l_s_cU (s := l)), cloL_strip _ _ (l_s_cU (s := t))]
    intro j hj
    by_cases hjk : j ≤ K
    · have hgj : L[j]? = some L[j] := by simp
      have hsj := hKs j _ hjk hgj
      obtain ⟨r1, r3, r4, r5⟩ := hget hgj
      obtain ⟨hPj, hlj⟩ := hpick hgj hsj
      have hnx := mostP_next (s := s) (w := w) hgj
      have hmb : mostP s w (L.take j) ≤ w.length := mostP_le fun e t he h => by
        have h1 := hKs e t (by omega) h
        have h2 := look_le a2 w0 h1
        omega
      generalize L[j] = kj at *
      generalize (pickP s w kj.st kj.cond).1 = p1 at *
      generalize (pickP s w kj.st kj.cond).2 = p2 at *
      have hx1 : imax (p2 : Nat) 1 = ((max p2 1 : Nat) : Int) := by unfold imax; split <;> omega
      have hwx : IntKind.i64.wrap ((kj.st : Int) + ((max p2 1 : Nat) : Int)) = ((kj.st + max p2 1 : Nat) : Int) := by rw [IntWalk.i64_in _ (by omega)]; omega
      have hwj : IntKind.i64.wrap ((j : Int) + 1) = ((j + 1 : Nat) : Int) := by rw [IntWalk.i64_in _ (by omega)]; omega
      generalize mostP s w (L.take j) = M0 at *
      have hx2 : imax (M0 : Nat) ((kj.st + max p2 1 : Nat) : Int) = ((mostP s w (L.take (j + 1)) : Nat) : Int) := by rw [hnx]; unfold imax; split <;> omega
      have d5 : decide ((j : Int) ≤ (K : Nat)) = true := decide_eq_true (by omega)
      simp (disch := first | assumption | omega | exact okR_new | exact okR_one | exact trivial | (simp only [List.length_append, List.length_cons, List.length_nil]; omega) | (simp only [List.length_append, List.length_cons, List.length_nil, Nat.reduceAdd])) only [go_sem, e_go, e_cond_bool, e_w_bool, e_step_ite, e_reg_ite, e_regW_ite, e_code_ite, e_block_ite, e_evQ_ite, e_fin_ite, e_pair_ite, Try.f5, iAw8_eq, iMade6_eq, iText_eq, iTks_eq, iPi_eq, hcs, r1, r3, hPj, hx1, hwx, hx2, hwj, d5]
      exact ⟨j + 1, (show K + 1 - (j + 1) < K + 1 - j by omega), Nat.succ_le_succ hjk, ⟨[], [], rfl⟩, by simp [HasE, lk]⟩
    · obtain rfl : j = K + 1 := by omega
      have hB : mostP s w (L.take (K + 1)) ≤ w.length := mostP_le fun e t he h => by
        have h1 := hKs e t (by omega) h
        have h2 := look_le a2 w0 h1
        omega
      have hcut : ∀ e, e ≤ K → ∃ t, L[e]? = some t ∧ t.st < w.length ∧ t.st + max (pickP s w t.st t.cond).2 1 ≤ mostP s w (L.take (K + 1)) := fun e he => by
        have hge : L[e]? = some (L[e]'(by omega)) := by simp
        exact ⟨_, hge, hKs e _ he hge, mostP_ge (by omega) hge⟩
      generalize mostP s w (L.take (K + 1)) = B at *
      obtain ⟨L', J', hQ'⟩ := inQ (w := w.take B) a1 a2 (by simp; omega)
      have hT' := iTk_at hQ'
      have hll' := hQ'.ll
      have hsame := run_cut a2 w0 hB K L L' 0 0 J J' hQ.run hQ'.run hcut
      have hKL' : K < L'.length := by
        have := hsame K (Nat.le_refl _)
        rw [hgK] at this
        exact (List.getElem?_eq_some_iff.1 this).1
      have d5 : decide (((K + 1 : Nat) : Int) ≤ (K : Nat)) = false := decide_eq_false (by omega)
      have d6 : decide ((L'.length : Int) ≤ (K : Nat)) = false := decide_eq_false (by omega)
      have hsl : B - 0 = B := Nat.sub_zero _
      simp (disch := first | assumption | omega | exact okR_new | exact okR_one | exact trivial | (simp only [List.length_append, List.length_cons, List.length_nil]; omega) | (simp only [List.length_append, List.length_cons, List.length_nil, Nat.reduceAdd])) only [go_sem, e_go, e_cond_bool, e_w_bool, e_step_ite, e_reg_ite, e_regW_ite, e_code_ite, e_block_ite, e_evQ_ite, e_fin_ite, e_pair_ite, Try.f5, iAw8_eq, iMade6_eq, iText_eq, iTks_eq, iPi_eq, hcs, d5, d6, hT', hsl, List.drop_zero]
      refine w_loopc [6] [22] (fun e : Nat => K + 1 - e) (fun e => e ≤ K + 1) (fun e => ⟨[.cells 0 (cSp s), .cells 0 [.sl .no L.length (fl cTok L), .int .i64 J], .cells 0 [.sl .no L'.length (fl cTok L'), .int .i64 J']], []⟩)
        (fun e => [(22, .int .i64 (e : Nat))]) 0 (fun _ => rfl) (by kernel_rfl) (Nat.zero_le _) ⟨[], [], by simp [hcs]⟩ (by simp [HasE, lk]) ?_ ?_
      · intro e _
        refine ⟨?_, ?_, ?_⟩ <;> simp [cloE, clo, cloL, cloB, cSp_eq, c_Rno, c_flCd, c_flRu, c_sV, c_flTok, slc, cloL_strip _ _ (l_s_cU (s := l)), cloL_strip _ _ (l_s_cU (s := t))]
      intro e he
      by_cases hek : e ≤ K
      · have hge : L[e]? = some (L[e]'(by omega)) := by simp
        have hge' := hsame e hek
        rw [hge] at hge'
        have hat := fl_at cTok_len hge
        have hat' := fl_at cTok_len hge'
        have hl1 : e * 4 + 4 ≤ L.length * 4 := by omega
        have hl2 : e * 4 + 4 ≤ L'.length * 4 := by omega
        have hwe : IntKind.i64.wrap ((e : Int) + 1) = ((e + 1 : Nat) : Int) := by rw [IntWalk.i64_in _ (by omega)]; omega
        have d7 : decide ((e : Int) ≤ (K : Nat)) = true := decide_eq_true (by omega)
        generalize (L[e]'(by omega)) = x at *
        have hne : tkE x.rule (x.st : Nat) (x.en : Nat) x.cond x.rule (x.st : Nat) (x.en : Nat) x.cond = true := by simp [tkE]
        simp (disch := first | assumption | omega | exact okR_new | exact okR_one | exact trivial | (simp only [List.length_append, List.length_cons, List.length_nil]; omega) | (simp only [List.length_append, List.length_cons, List.length_nil, Nat.reduceAdd])) only [go_sem, e_go, e_cond_bool, e_w_bool, e_step_ite, e_reg_ite, e_regW_ite, e_code_ite, e_block_ite, e_evQ_ite, e_fin_ite, e_pair_ite, Try.f5, iAw8_eq, iMade6_eq, iText_eq, iTks_eq, iPi_eq, hcs, hat, hat', cTok, tk_neq, hne, hwe, d7]
        exact ⟨e + 1, (show K + 1 - (e + 1) < K + 1 - e by omega), Nat.succ_le_succ hek, ⟨[], [], rfl⟩, by simp [HasE, lk]⟩
      · obtain rfl : e = K + 1 := by omega
        have d7 : decide (((K + 1 : Nat) : Int) ≤ (K : Nat)) = false := decide_eq_false (by omega)
        simp (disch := first | assumption | omega | exact okR_new | exact okR_one | exact trivial | (simp only [List.length_append, List.length_cons, List.length_nil]; omega) | (simp only [List.length_append, List.length_cons, List.length_nil, Nat.reduceAdd])) only [go_sem, e_go, e_cond_bool, e_w_bool, e_step_ite, e_reg_ite, e_regW_ite, e_code_ite, e_block_ite, e_evQ_ite, e_fin_ite, e_pair_ite, Try.f5, iAw8_eq, iMade6_eq, iText_eq, iTks_eq, iPi_eq, hcs, d7]
  · obtain ⟨g1, g3, g4, g5⟩ := hget c1
    obtain ⟨hPk, hlo⟩ := hpick c1 c2
    generalize (pickP s w k.st k.cond).1 = p1 at *
    generalize (pickP s w k.st k.cond).2 = p2 at *
    have hwn : IntKind.i64.wrap ((k.st : Int) + (p2 : Int)) = ((k.st + p2 : Nat) : Int) := by rw [IntWalk.i64_in _ (by omega)]; omega
    have d1 : decide ((w.length : Int) < (k.st : Nat)) = false := decide_eq_false (by omega)
    have d2 : decide ((k.st : Int) = (w.length : Nat)) = false := decide_eq_false (by omega)
    have d3 : decide ((w.length : Int) < ((k.st + p2 : Nat) : Int)) = false := decide_eq_false (by omega)
    have d4 : decide ((m : Int) ≤ (i : Nat)) = false := decide_eq_false (by omega)
    simp (disch := first | assumption | omega | exact okR_new | exact okR_one | exact trivial | (simp only [List.length_append, List.length_cons, List.length_nil]; omega) | (simp only [List.length_append, List.length_cons, List.length_nil, Nat.reduceAdd])) only [go_sem, e_go, e_cond_bool, e_w_bool, e_step_ite, e_reg_ite, e_regW_ite, e_code_ite, e_block_ite, e_evQ_ite, e_fin_ite, e_pair_ite, Try.f5, iAw8_eq, iMade6_eq, iText_eq, iTks_eq, iPi_eq, hcs, g1, g3, d1, d2, d3, d4, hPk, hwn, hwz, hmm, hw1]
    refine ⟨i + 1, (show L.length - (i + 1) < L.length - i by omega), ⟨g5, fun j t hj h => ?_⟩, ⟨[], [], rfl⟩, by simp [HasE, lk]⟩
    by_cases e : j = i
    · subst e; rw [c1] at h; cases h; exact c2
    · exact hst j t (by omega) h
end Go.Hk.M
/- Layer 3: what the statements are handed. -/
namespace Go.Hk.M
open Go.Proofs

theorem wf_k {k : IntKind} {n : Int} (h : (Lit.int k n).wf = true) : k.min ≤ n ∧ n ≤ k.max := by simpa [Lit.wf] using h
theorem rd_u8 {d : Nat} {s : List AVal} (h : shp Try.prog d 5 s) : ∃ n : Nat, n < 256 ∧ s = [.int .u8 (n : Nat)] := by
  cases d with
  | zero => exact h.elim
  | succ d =>
    simp only [shp, ti5] at h
    obtain ⟨n, rfl, hw⟩ := h
    have : 0 ≤ n ∧ n ≤ 255 := wf_k hw
    exact ⟨n.toNat, by omega, by rw [Int.toNat_of_nonneg this.1]⟩
theorem max_lt {n : Nat} (h : n ≤ maxLen) : n < 9223372036854775808 := by
  have : maxLen = 9223372036854775807 := rfl
  omega
theorem rd_bytes {d : Nat} {s : List AVal} (h : shp Try.prog d 22 s) : ∃ l : List Nat, (l.length < 9223372036854775808 ∧ ∀ n ∈ l, n < 256) ∧ s = [slc c8 l] := by
  cases d with
  | zero => exact h.elim
  | succ d =>
    simp only [shp, ti22] at h
    obtain ⟨xs, rfl, hm, hx⟩ := h
    obtain ⟨l, h1, h2, h3⟩ := list_of (f := c8) (ok := fun n => n < 256) (fun x h => rd_u8 h) xs hx
    exact ⟨l, ⟨by rw [h1]; exact max_lt hm, h3⟩, by rw [← h1, h2]⟩
theorem c8_cU : ∀ l : List Nat, (∀ n ∈ l, n < 256) → slc c8 l = slc cU (l.map UInt8.ofNat) ∧ l.length = (l.map UInt8.ofNat).length := by
  intro l h
  refine ⟨?_, by simp⟩
  have : fl c8 l = fl cU (l.map UInt8.ofNat) := by
    induction l with
    | nil => rfl
    | cons n l ih =>
      have hn := h n (by simp)
      have e : (UInt8.ofNat n).toNat = n := by simp; omega
      simp only [List.map_cons, fl, ih fun m hm => h m (by simp [hm]), cU, c8, e]
  simp [slc, this]
theorem rd_cU {d : Nat} {s : List AVal} (h : shp Try.prog d 22 s) : ∃ l : List UInt8, l.length < 9223372036854775808 ∧ s = [slc cU l] := by
  obtain ⟨l, ⟨h1, h2⟩, rfl⟩ := rd_bytes h
  obtain ⟨e1, e2⟩ := c8_cU l h2
  exact ⟨l.map UInt8.ofNat, by omega, by rw [e1]⟩
end Go.Hk.M
