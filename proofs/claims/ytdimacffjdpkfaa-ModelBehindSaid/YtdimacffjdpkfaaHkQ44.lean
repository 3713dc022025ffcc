import Derived.Test.YtdimacffjdpkfaaHkQ43
import Derived.Test.YtdimacffjdpkfaaHkQ27
import Derived.Test.YtdimacffjdpkfaaHkQ30
import Derived.Test.YtdimacffjdpkfaaHkQ19
/- Layer 8: what comes behind a token. -/
set_option linter.unusedSimpArgs false
set_option linter.unusedVariables false
set_option maxRecDepth 20000
namespace Go.Hk.M
open Go.Proofs

theorem pickQ_at {s : Sp} {w : List UInt8} {i : Nat} {c : Int} (h : rightS s = true) (hw : w.length ≤ 12) (hi : i ≤ w.length) (hc : 0 ≤ c ∧ c < s.conds.length) : pickQ s w (i : Nat) c = pickP s w i c := by
  unfold pickQ
  rw [if_pos ⟨⟨by omega, h⟩, by omega, by omega, hc.1, hc.2⟩, Int.toNat_natCast]
theorem iTk_at {s : Sp} {w : List UInt8} {L : List Tok} {J : Int} (h : InQ s w L J) : iTks [sV s, .str w] = some (.tup (.agg [.sl .no L.length (fl cTok L), .int .i64 J]) [.int .i64 0]) := by
  rw [iTks_eq ⟨h.ok, by have := h.wl; omega⟩, h.q]; rfl
theorem w_ModelBehind (l t : List UInt8) (hl : l.length < 9223372036854775808) (ht : t.length < 9223372036854775808) : PCall Try.prog 4 [slc cU l, slc cU t] (.bool true) := by
  obtain ⟨a1, a2⟩ := madeS_good l false
  have htl := textT_len t
  have hmade := iMade6_eq (L := l) (p := false) hl
  have htext := iText_eq (l := t) ht
  generalize madeS l false = s at *
  generalize textT t = w at *
  obtain ⟨L, J, hQ⟩ := inQ a1 a2 htl
  have hT := iTk_at hQ
  have hcs := cSp_eq s
  have hll := hQ.ll
  have hP := fun (i c : Int) => iPi_eq (u := s) (w := w) (i := i) (c := c) ⟨a1, by omega⟩
  refine PCall.of_w (fn := Try.f4) (Γ := gam [(6, .pure iAw8), (7, .pure iMade6), (8, .pure iText), (9, .pure iTks), (12, .pure iPi), (13, .pure iHe)]) (mu := false) (Sound.pure iAw8_call (Sound.pure iMade6_call (Sound.pure iText_call (Sound.pure iTks_call (Sound.pure iPi_call (Sound.pure iHe_call Sound.nil)))))) mixed Try.func4 rfl (by kernel_rfl) (by simp) (by kernel_rfl) ?_
  simp (disch := first | assumption | omega | exact okR_new | exact okR_one | exact trivial | (simp only [List.length_append, List.length_cons, List.length_nil]; omega) | (simp only [List.length_append, List.length_cons, List.length_nil, Nat.reduceAdd])) only [go_sem, e_go, e_cond_bool, e_w_bool, e_step_ite, e_reg_ite, e_regW_ite, e_code_ite, e_block_ite, e_evQ_ite, e_fin_ite, e_pair_ite, Try.f4, iAw8_eq, iMade6_eq, iText_eq, iTks_eq, iPi_eq, iHe_eq, hmade, htext, hT]
  refine w_loopc [4] [10] (fun i : Nat => L.length - i) (fun i => i ≤ L.length) (fun i => ⟨[.cells 0 (cSp s), .cells 0 [.sl .no L.length (fl cTok L), .int .i64 J]], []⟩)
    (fun i => [(10, .int .i64 (i : Nat))]) 0 (fun _ => rfl) (by kernel_rfl) (Nat.zero_le _) ⟨[], [], by simp [hcs]⟩ (by simp [HasE, lk]) ?_ ?_
  · intro i _
    refine ⟨?_, ?_, ?_⟩ <;> simp [cloE, clo, cloL, cloB, cSp_eq, c_Rno, c_flCd, c_flRu, c_sV, c_flTok, slc, cloL_strip _ _ (l_s_cU (s := l)), cloL_strip _ _ (l_s_cU (s := t))]
  intro i hi
  by_cases hlt : i < L.length
  · have hg : L[i]? = some L[i] := by simp [hlt]
    have hat := fl_at cTok_len hg
    have hle : i * 4 + 4 ≤ L.length * 4 := by omega
    have hra := run_at a2 (by omega) hQ.run ⟨Int.le_refl _, hQ.c0⟩ L[i] (List.getElem_mem hlt)
    obtain ⟨hcc, hra⟩ := hra
    generalize L[i] = k at *
    have hw1 : IntKind.i64.wrap ((i : Int) + 1) = (i : Int) + 1 := IntWalk.i64_in _ (by omega)
    rcases hra with ⟨hst, a, c, hn⟩ | ⟨hst, _⟩
    · have hPk := hP k.st k.cond
      rw [pickQ_at a2 htl (by omega) hcc] at hPk
      have hs1 : decide ((w.length : Int) ≤ (k.st : Nat)) = false := decide_eq_false (by omega)
      rcases tok_spec a2 (by omega) hst hn with ⟨e1, e2, e3, e4⟩ | ⟨q, r, n, e1, e2, e3, e4, e5, e6, e7, e8, e9, e10, e11, e12, e13⟩
      · rw [e4] at hPk
        simp only at hPk
        simp (disch := first | assumption | omega | exact okR_new | exact okR_one | exact trivial | (simp only [List.length_append, List.length_cons, List.length_nil]; omega) | (simp only [List.length_append, List.length_cons, List.length_nil, Nat.reduceAdd])) only [go_sem, e_go, e_cond_bool, e_w_bool, e_step_ite, e_reg_ite, e_regW_ite, e_code_ite, e_block_ite, e_evQ_ite, e_fin_ite, e_pair_ite, Try.f4, iAw8_eq, iMade6_eq, iText_eq, iTks_eq, iPi_eq, iHe_eq, hcs, hat, cTok, hw1, hs1, hPk, e1]
        exact ⟨i + 1, dn hlt, hlt, ⟨[_], [], by simp [hcs]; rfl⟩, by simp [HasE, lk]⟩
      · rw [e6] at hPk
        simp only at hPk
        have hat2 := fl_at cRu_len e2
        have hlk := (List.getElem?_eq_some_iff.1 e2).1
        have hle2 : q * 22 + 22 ≤ s.rules.length * 22 := by omega
        have hH := iHe_eq (u := r) (s := (w.drop k.st).take n) ⟨a1.ru _ (List.mem_of_getElem? e2), by simp; omega⟩
        rw [e11] at hH
        have hwn : IntKind.i64.wrap ((k.st : Int) + (n : Int)) = ((k.st + n : Nat) : Int) := by rw [IntWalk.i64_in _ (by omega)]; omega
        have hwq : IntKind.i64.wrap ((k.en : Int) - (k.st : Int)) = ((k.en - k.st : Nat) : Int) := by rw [IntWalk.i64_in _ (by omega)]; omega
        have hsl : k.st + n - k.st = n := by omega
        have d0 : decide ((0 : Int) ≤ (q : Nat)) = true := decide_eq_true (by omega)
        have d1 : decide ((w.length : Int) < ((k.st + n : Nat) : Int)) = false := decide_eq_false (by omega)
        have d2 : decide (((k.st + n : Nat) : Int) < (k.en : Nat)) = false := decide_eq_false (by omega)
        have d3 : decide ((n : Int) < 1) = false := decide_eq_false (by omega)
        have d4 : decide ((q : Int) < 0) = false := decide_eq_false (by omega)
        have d5 : decide ((q : Int) < (s.rules.length : Nat)) = true := decide_eq_true (by omega)
        simp (disch := first | assumption | omega | exact okR_new | exact okR_one | exact trivial | (simp only [List.length_append, List.length_cons, List.length_nil]; omega) | (simp only [List.length_append, List.length_cons, List.length_nil, Nat.reduceAdd])) only [go_sem, e_go, e_cond_bool, e_w_bool, e_step_ite, e_reg_ite, e_regW_ite, e_code_ite, e_block_ite, e_evQ_ite, e_fin_ite, e_pair_ite, Try.f4, iAw8_eq, iMade6_eq, iText_eq, iTks_eq, iPi_eq, iHe_eq, hcs, hat, cTok, hw1, hs1, hPk, e1, hat2, hH, hwn, hwq, hsl, d0, d1, d2, d3, d4, d5]
        exact ⟨i + 1, dn hlt, hlt, ⟨[_], [], by simp [hcs, e1]; rfl⟩, by simp [HasE, lk]⟩
    · have hs1 : decide ((w.length : Int) ≤ (k.st : Nat)) = true := decide_eq_true (by omega)
      simp (disch := first | assumption | omega | exact okR_new | exact okR_one | exact trivial | (simp only [List.length_append, List.length_cons, List.length_nil]; omega) | (simp only [List.length_append, List.length_cons, List.length_nil, Nat.reduceAdd])) only [go_sem, e_go, e_cond_bool, e_w_bool, e_step_ite, e_reg_ite, e_regW_ite, e_code_ite, e_block_ite, e_evQ_ite, e_fin_ite, e_pair_ite, Try.f4, iAw8_eq, iMade6_eq, iText_eq, iTks_eq, iPi_eq, iHe_eq, hcs, hat, cTok, hw1, hs1]
      exact ⟨i + 1, dn hlt, hlt, ⟨[_], [], by simp [hcs]; rfl⟩, by simp [HasE, lk]⟩
  · have hi' : i = L.length := by omega
    subst hi'
    by_cases hJ : 0 ≤ J
    · obtain ⟨n, rfl, hn, hm⟩ := run_jam a2 (by omega) hQ.run ⟨Int.le_refl _, hQ.c0⟩ hJ
      have j0 : decide ((0 : Int) ≤ (n : Nat)) = true := decide_eq_true hJ
      have j1 : decide ((n : Int) < (w.length : Nat)) = true := decide_eq_true (by omega)
      rcases List.eq_nil_or_concat L with rfl | ⟨L', k, rfl⟩
      · simp (disch := first | assumption | omega | exact okR_new | exact okR_one | exact trivial | (simp only [List.length_append, List.length_cons, List.length_nil]; omega) | (simp only [List.length_append, List.length_cons, List.length_nil, Nat.reduceAdd])) only [go_sem, e_go, e_cond_bool, e_w_bool, e_step_ite, e_reg_ite, e_regW_ite, e_code_ite, e_block_ite, e_evQ_ite, e_fin_ite, e_pair_ite, Try.f4, iAw8_eq, iMade6_eq, iText_eq, iTks_eq, iPi_eq, iHe_eq, hcs, j0, j1]
      · rw [List.concat_eq_append] at *
        rw [List.getLast?_concat] at hm
        obtain ⟨m1, m2, m3⟩ := hm
        have hPk := hP n (condTo s k)
        rw [pickQ_at a2 htl (by omega) ⟨m1, m2⟩, (next_none a2 (by omega) hn m3).2] at hPk
        simp only at hPk
        have hg : (L' ++ [k])[L'.length]? = some k := by simp
        have hat := fl_at cTok_len hg
        have hlen : (L' ++ [k]).length = L'.length + 1 := by simp
        have hCl : (fl cTok (L' ++ [k])).length = (L' ++ [k]).length * 4 := l_n_cTok
        generalize fl cTok (L' ++ [k]) = C at *
        generalize (L' ++ [k]).length = N at *
        subst hlen
        have hle : L'.length * 4 + 4 ≤ C.length := by omega
        have hwl : IntKind.i64.wrap (((L'.length + 1 : Nat) : Int) - 1) = (L'.length : Nat) := by rw [IntWalk.i64_in _ (by omega)]; omega
        have j2 : decide ((0 : Int) < ((L'.length + 1 : Nat) : Int)) = true := decide_eq_true (by omega)
        by_cases hr0 : 0 ≤ k.rule
        · obtain ⟨q, hq⟩ := Int.eq_ofNat_of_zero_le hr0
          have r0 : decide ((0 : Int) ≤ (q : Nat)) = true := decide_eq_true (by omega)
          by_cases hlq : q < s.rules.length
          · have e2 : s.rules[q]? = some s.rules[q] := by simp [hlq]
            have hr20 := fl_get cRu_len e2 (j := 20) (by omega)
            have hr21 := fl_get cRu_len e2 (j := 21) (by omega)
            simp only [cRu_eq, List.getElem?_cons_succ, List.getElem?_cons_zero] at hr20 hr21
            have hct : condTo s k = if s.rules[q].act = 3 then s.rules[q].to else k.cond := by unfold condTo; rw [hq, Int.toNat_natCast, e2]; simp
            have hle2 : q * 22 + 22 ≤ s.rules.length * 22 := by omega
            have d5 : decide ((q : Int) < (s.rules.length : Nat)) = true := decide_eq_true (by omega)
            generalize s.rules[q] = r at *
            by_cases ha : r.act = 3
            · have hda : decide (r.act = 3) = true := decide_eq_true ha
              rw [hct, if_pos ha] at hPk
              simp (disch := first | assumption | omega | exact okR_new | exact okR_one | exact trivial | (simp only [List.length_append, List.length_cons, List.length_nil]; omega) | (simp only [List.length_append, List.length_cons, List.length_nil, Nat.reduceAdd])) only [go_sem, e_go, e_cond_bool, e_w_bool, e_step_ite, e_reg_ite, e_regW_ite, e_code_ite, e_block_ite, e_evQ_ite, e_fin_ite, e_pair_ite, Try.f4, iAw8_eq, iMade6_eq, iText_eq, iTks_eq, iPi_eq, iHe_eq, hcs, j0, j1, j2, hat, cTok, hwl, hq, r0, d5, hr20, hr21, hda, hPk]
            · have hda : decide (r.act = 3) = false := decide_eq_false ha
              rw [hct, if_neg ha] at hPk
              simp (disch := first | assumption | omega | exact okR_new | exact okR_one | exact trivial | (simp only [List.length_append, List.length_cons, List.length_nil]; omega) | (simp only [List.length_append, List.length_cons, List.length_nil, Nat.reduceAdd])) only [go_sem, e_go, e_cond_bool, e_w_bool, e_step_ite, e_reg_ite, e_regW_ite, e_code_ite, e_block_ite, e_evQ_ite, e_fin_ite, e_pair_ite, Try.f4, iAw8_eq, iMade6_eq, iText_eq, iTks_eq, iPi_eq, iHe_eq, hcs, j0, j1, j2, hat, cTok, hwl, hq, r0, d5, hr20, hr21, hda, hPk]
          · have hct : condTo s k = k.cond := by
              unfold condTo
              rw [hq, Int.toNat_natCast, List.getElem?_eq_none (by omega)]
            have d5 : decide ((q : Int) < (s.rules.length : Nat)) = false := decide_eq_false (by omega)
            rw [hct] at hPk
            simp (disch := first | assumption | omega | exact okR_new | exact okR_one | exact trivial | (simp only [List.length_append, List.length_cons, List.length_nil]; omega) | (simp only [List.length_append, List.length_cons, List.length_nil, Nat.reduceAdd])) only [go_sem, e_go, e_cond_bool, e_w_bool, e_step_ite, e_reg_ite, e_regW_ite, e_code_ite, e_block_ite, e_evQ_ite, e_fin_ite, e_pair_ite, Try.f4, iAw8_eq, iMade6_eq, iText_eq, iTks_eq, iPi_eq, iHe_eq, hcs, j0, j1, j2, hat, cTok, hwl, hq, r0, d5, hPk]
        · have hct : condTo s k = k.cond := by unfold condTo; split <;> simp [hr0]
          have r0 : decide (0 ≤ k.rule) = false := decide_eq_false hr0
          rw [hct] at hPk
          simp (disch := first | assumption | omega | exact okR_new | exact okR_one | exact trivial | (simp only [List.length_append, List.length_cons, List.length_nil]; omega) | (simp only [List.length_append, List.length_cons, List.length_nil, Nat.reduceAdd])) only [go_sem, e_go, e_cond_bool, e_w_bool, e_step_ite, e_reg_ite, e_regW_ite, e_code_ite, e_block_ite, e_evQ_ite, e_fin_ite, e_pair_ite, Try.f4, iAw8_eq, iMade6_eq, iText_eq, iTks_eq, iPi_eq, iHe_eq, hcs, j0, j1, j2, hat, cTok, hwl, r0, hPk]
    · have j0 : decide (0 ≤ J) = false := decide_eq_false hJ
      simp (disch := first | assumption | omega | exact okR_new | exact okR_one | exact trivial | (simp only [List.length_append, List.length_cons, List.length_nil]; omega) | (simp only [List.length_append, List.length_cons, List.length_nil, Nat.reduceAdd])) only [go_sem, e_go, e_cond_bool, e_w_bool, e_step_ite, e_reg_ite, e_regW_ite, e_code_ite, e_block_ite, e_evQ_ite, e_fin_ite, e_pair_ite, Try.f4, iAw8_eq, iMade6_eq, iText_eq, iTks_eq, iPi_eq, iHe_eq, hcs, j0]
end Go.Hk.M
/- Layer 8: tokens stand one behind the other. -/
set_option linter.unusedSimpArgs false
set_option linter.unusedVariables false
set_option maxRecDepth 20000
set_option maxHeartbeats 1000000
namespace Go.Hk.M
open Go.Proofs

end Go.Hk.M
/- Layer 8: what is cut off makes no difference. -/
set_option linter.unusedSimpArgs false
set_option linter.unusedVariables false
set_option maxRecDepth 20000
set_option maxHeartbeats 1000000
namespace Go.Hk.M
open Go.Proofs

end Go.Hk.M
/- Layer 3: what the statements are handed. -/
set_option linter.unusedSimpArgs false
set_option linter.unusedVariables false
namespace Go.Hk.M
open Go.Proofs

theorem wf_k {k : IntKind} {n : Int} (h : (Lit.int k n).wf = true) : k.min ≤ n ∧ n ≤ k.max := by simpa [Lit.wf] using h
theorem rd_u8 {d : Nat} {s : List AVal} (h : shp Try.prog d 5 s) : ∃ n : Nat, n < 256 ∧ s = [.int .u8 (n : Nat)] := by
  cases d with
  | zero => exact h.elim
  | succ d =>
    simp only [shp, ti5] at h
    obtain ⟨n, rfl, hw⟩ := h
    have : 0 ≤ n ∧ n ≤ 255 := wf_k hw
    exact ⟨n.toNat, by omega, by rw [Int.toNat_of_nonneg this.1]⟩
theorem max_lt {n : Nat} (h : n ≤ maxLen) : n < 9223372036854775808 := by
  have : maxLen = 9223372036854775807 := rfl
  omega
theorem rd_bytes {d : Nat} {s : List AVal} (h : shp Try.prog d 22 s) : ∃ l : List Nat, (l.length < 9223372036854775808 ∧ ∀ n ∈ l, n < 256) ∧ s = [slc c8 l] := by
  cases d with
  | zero => exact h.elim
  | succ d =>
    simp only [shp, ti22] at h
    obtain ⟨xs, rfl, hm, hx⟩ := h
    obtain ⟨l, h1, h2, h3⟩ := list_of (f := c8) (ok := fun n => n < 256) (fun x h => rd_u8 h) xs hx
    exact ⟨l, ⟨by rw [h1]; exact max_lt hm, h3⟩, by rw [← h1, h2]⟩
theorem c8_cU : ∀ l : List Nat, (∀ n ∈ l, n < 256) → slc c8 l = slc cU (l.map UInt8.ofNat) ∧ l.length = (l.map UInt8.ofNat).length := by
  intro l h
  refine ⟨?_, by simp⟩
  have : fl c8 l = fl cU (l.map UInt8.ofNat) := by
    induction l with
    | nil => rfl
    | cons n l ih =>
      have hn := h n (by simp)
      have e : (UInt8.ofNat n).toNat = n := by simp; omega
      simp only [List.map_cons, fl, ih fun m hm => h m (by simp [hm]), cU, c8, e]
  simp [slc, this]
theorem rd_cU {d : Nat} {s : List AVal} (h : shp Try.prog d 22 s) : ∃ l : List UInt8, l.length < 9223372036854775808 ∧ s = [slc cU l] := by
  obtain ⟨l, ⟨h1, h2⟩, rfl⟩ := rd_bytes h
  obtain ⟨e1, e2⟩ := c8_cU l h2
  exact ⟨l.map UInt8.ofNat, by omega, by rw [e1]⟩
end Go.Hk.M
