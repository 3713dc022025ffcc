import Derived.Test.YtdimacffjdpkfaaHkQ40
import Derived.Test.YtdimacffjdpkfaaHkQ27
import Derived.Test.YtdimacffjdpkfaaHkQ16
/- Layer 8: tokens stand one behind the other. -/
set_option linter.unusedSimpArgs false
set_option linter.unusedVariables false
set_option maxRecDepth 20000
set_option maxHeartbeats 1000000
namespace Go.Hk.M
open Go.Proofs

theorem drop_hd {α : Type} {l : List α} {i : Nat} {x : α} {r : List α} (h : l.drop i = x :: r) : l[i]? = some x ∧ l.drop (i + 1) = r ∧ i < l.length := by
  have hi : i < l.length := by
    rcases Nat.lt_or_ge i l.length with h' | h'
    · exact h'
    · rw [List.drop_eq_nil_of_le h'] at h; cases h
  rw [List.drop_eq_getElem_cons hi, List.cons.injEq] at h
  exact ⟨by rw [← h.1]; simp [hi], h.2, hi⟩
theorem rule_eof {s : Sp} (h : rightS s = true) {i : Nat} {r : Ru} (hr : s.rules[i]? = some r) (he : r.eof = true) : r.bol = false := by
  simp only [rightS, Bool.and_eq_true, List.all_eq_true] at h
  have := h.2 r (List.mem_of_getElem? hr)
  simp only [ruleB, matchB, he, if_true, Bool.and_eq_true, Bool.not_eq_true'] at this
  exact this.2.1.1
theorem w_ModelWhole (l t : List UInt8) (hl : l.length < 9223372036854775808) (ht : t.length < 9223372036854775808) : PCall Try.prog 3 [slc cU l, slc cU t] (.bool true) := by
  obtain ⟨a1, a2⟩ := madeS_good l false
  have htl := textT_len t
  have hmade := iMade6_eq (L := l) (p := false) hl
  have htext := iText_eq (l := t) ht
  generalize madeS l false = s at *
  generalize textT t = w at *
  obtain ⟨L, J, hQ⟩ := inQ a1 a2 htl
  have hT := iTk_at hQ
  have hcs := cSp_eq s
  have hll := hQ.ll
  have hA := fun (i c : Int) => iActR_eq (u := s) (i := i) (c := c) a1
  have w0 : w.length ≤ 10000 := by omega
  refine PCall.of_w (fn := Try.f3) (Γ := gam [(6, .pure iAw8), (7, .pure iMade6), (8, .pure iText), (9, .pure iTks), (10, .pure iActR), (11, .pure iMatR)]) (mu := false) (Sound.pure iAw8_call (Sound.pure iMade6_call (Sound.pure iText_call (Sound.pure iTks_call (Sound.pure iActR_call (Sound.pure iMatR_call Sound.nil)))))) mixed Try.func3 rfl (by kernel_rfl) (by simp) (by kernel_rfl) ?_
  simp (disch := first | assumption | omega | exact okR_new | exact okR_one | exact trivial | (simp only [List.length_append, List.length_cons, List.length_nil]; omega) | (simp only [List.length_append, List.length_cons, List.length_nil, Nat.reduceAdd])) only [go_sem, e_go, e_cond_bool, e_w_bool, e_step_ite, e_reg_ite, e_regW_ite, e_code_ite, e_block_ite, e_evQ_ite, e_fin_ite, e_pair_ite, Try.f3, iAw8_eq, iMade6_eq, iText_eq, iTks_eq, iActR_eq, iMatR_eq, hmade, htext, hT]
  refine w_loopc [4] [10, 11, 12] (fun x : Nat × Nat × Int => L.length - x.1) (fun x => x.1 ≤ L.length ∧ x.2.1 ≤ w.length ∧ ((Run s w x.2.1 x.2.2 (L.drop x.1) J ∧ 0 ≤ x.2.2 ∧ x.2.2 < s.conds.length) ∨ (x.1 = L.length ∧ x.2.1 = w.length ∧ J = -1))) (fun x => ⟨[.cells 0 (cSp s), .cells 0 [.sl .no L.length (fl cTok L), .int .i64 J]], []⟩)
    (fun x => [(10, .int .i64 (x.2.1 : Nat)), (11, .int .i64 x.2.2), (12, .int .i64 (x.1 : Nat))]) (0, 0, 0) (fun _ => rfl) (by kernel_rfl) ⟨Nat.zero_le _, Nat.zero_le _, .inl ⟨hQ.run, Int.le_refl _, hQ.c0⟩⟩ ⟨[], [], by simp [hcs]⟩ (by simp [HasE, lk]) ?_ ?_
  · intro x _
    refine ⟨?_, ?_, ?_⟩ <;> simp [cloE, clo, cloL, cloB, cSp_eq, c_Rno, c_flCd, c_flRu, c_sV, c_flTok, slc, cloL_strip _ _ (l_s_cU (s := l)), cloL_strip _ _ (l_s_cU (s := t))]
  rintro ⟨i, a, c⟩ ⟨hi, ha, hrun⟩
  simp only at hi ha hrun ⊢
  by_cases hlt : i < L.length
  · rcases hrun with ⟨hrun, hc⟩ | ⟨h, _⟩
    · have hw1 : IntKind.i64.wrap ((i : Int) + 1) = ((i + 1 : Nat) : Int) := by rw [IntWalk.i64_in _ (by omega)]; omega
      have hle : i * 4 + 4 ≤ L.length * 4 := by omega
      generalize hR : L.drop i = R at *
      cases hrun with
      | jam _ _ => rw [List.drop_eq_nil_iff] at hR; omega
      | fin _ _ => rw [List.drop_eq_nil_iff] at hR; omega
      | @step _ a' _ c' k r' _ g1 g2 g3 =>
        obtain ⟨hg, hd, _⟩ := drop_hd hR
        obtain ⟨e1, e2, e3⟩ := next_tok g2
        have hcn := next_cond a2 w0 g1 hc g2
        subst e1 e2 e3
        have hat := fl_at cTok_len hg
        have hna := next_at a2 w0 g1 g2
        rw [← hd] at g3
        rcases tok_spec a2 w0 g1 g2 with ⟨f1, f2, f3, f4⟩ | ⟨q, r, n, f1, f2, f3, f4, f5, f6, f7, f8, f9, f10, f11, f12, f13⟩
        · have hct : condTo s k = k.cond := by unfold condTo; rw [f1]; split <;> simp
          rw [hcn.1, hct] at g3
          have d1 : decide ((k.en : Int) < (k.st : Nat)) = false := decide_eq_false (by omega)
          have d2 : decide ((w.length : Int) < (k.en : Nat)) = false := decide_eq_false (by omega)
          have d3 : decide (((s.rules.length : Nat) : Int) ≤ -1) = false := decide_eq_false (by omega)
          have hwa : IntKind.i64.wrap ((k.st : Int) + 1) = ((k.en : Nat) : Int) := by rw [IntWalk.i64_in _ (by omega)]; omega
          have hfs : AVal.agg [.sl .no s.conds.length (fl cCd s.conds), .bool s.deft, .sl .no s.rules.length (fl cRu s.rules)] = sV s := rfl
          rw [f3] at hfs
          simp (disch := first | assumption | omega | exact okR_new | exact okR_one | exact trivial | (simp only [List.length_append, List.length_cons, List.length_nil]; omega) | (simp only [List.length_append, List.length_cons, List.length_nil, Nat.reduceAdd])) only [go_sem, e_go, e_cond_bool, e_w_bool, e_step_ite, e_reg_ite, e_regW_ite, e_code_ite, e_block_ite, e_evQ_ite, e_fin_ite, e_pair_ite, Try.f3, iAw8_eq, iMade6_eq, iText_eq, iTks_eq, iActR_eq, iMatR_eq, hcs, hat, cTok, f1, d1, d2, d3, hwa, f3, hfs, hw1]
          exact ⟨(i + 1, k.en, k.cond), dn hlt, ⟨hlt, hna.2, .inl ⟨g3, hc⟩⟩, ⟨[_], [], by simp [hcs, f3, f1]; rfl⟩, by simp [HasE, lk]⟩
        · have hcr := cRu_eq r
          have hat2 := fl_at cRu_len f2
          have hlk := (List.getElem?_eq_some_iff.1 f2).1
          have hle2 : q * 22 + 22 ≤ s.rules.length * 22 := by omega
          have hro := a1.ru _ (List.mem_of_getElem? f2)
          have hct : condTo s k = if r.act = 3 then r.to else k.cond := by unfold condTo; rw [f1, Int.toNat_natCast, f2]; simp
          have hAq := hA q k.cond
          rw [f5] at hAq
          have hM := iMatR_eq (x := r.rx) (s := (w.drop k.st).take (k.en - k.st)) ⟨hro.rx, by simp; omega⟩
          rw [decide_eq_true ((match_cut f12 w0 (by omega) hna.2).2 f13)] at hM
          rw [hcn.1, hct] at g3
          have hcn2 := hcn.2
          rw [hcn.1, hct] at hcn2
          have d1 : decide ((k.en : Int) < (k.st : Nat)) = false := decide_eq_false (by omega)
          have d2 : decide ((w.length : Int) < (k.en : Nat)) = false := decide_eq_false (by omega)
          have d3 : decide (((s.rules.length : Nat) : Int) ≤ (q : Nat)) = false := decide_eq_false (by omega)
          have d4 : decide ((q : Int) < -1) = false := decide_eq_false (by omega)
          have d5 : decide ((q : Int) < 0) = false := decide_eq_false (by omega)
          have d6 : decide ((k.en : Int) = (k.st : Nat)) = false := decide_eq_false (by omega)
          have hen := hna.2
          have hB : r.bol = false ∨ (r.bol = true ∧ k.st = 0) ∨ (r.bol = true ∧ ∃ (j : Nat) (b : UInt8), k.st = j + 1 ∧ w[j]? = some b ∧ b.toNat = 10) := by
            cases hb : r.bol
            · exact .inl rfl
            · rcases f4 with f4 | f4
              · unfold bolB at f4
                simp only [Bool.or_eq_true, decide_eq_true_eq] at f4
                rcases f4 with f4 | f4
                · exact .inr (.inl ⟨rfl, f4⟩)
                · by_cases h0 : k.st = 0
                  · exact .inr (.inl ⟨rfl, h0⟩)
                  · refine .inr (.inr ⟨rfl, k.st - 1, 10, by omega, ?_, rfl⟩)
                    have : k.st - 1 < w.length := by omega
                    rw [List.getD_eq_getElem?_getD, List.getElem?_eq_getElem this, Option.getD_some] at f4
                    rw [List.getElem?_eq_getElem this, f4]
              · rw [hb] at f4; cases f4
          have fin : ∀ c', (if r.act = 3 then r.to else k.cond) = c' → ((i + 1) ≤ L.length ∧ k.en ≤ w.length ∧ ((Run s w k.en c' (L.drop (i + 1)) J ∧ 0 ≤ c' ∧ c' < s.conds.length) ∨ (i + 1 = L.length ∧ k.en = w.length ∧ J = -1))) := fun c' h => by
            subst h
            exact ⟨hlt, hen, .inl ⟨g3, hcn2⟩⟩
          by_cases hac : r.act = 3
          · have hda : decide (r.act = 3) = true := decide_eq_true hac
            have fin := fin r.to (if_pos hac)
            rcases hB with hb | ⟨hb, h0⟩ | ⟨hb, j, b, h0, h1, hb10⟩
            · simp (disch := first | assumption | omega | exact okR_new | exact okR_one | exact trivial | (simp only [List.length_append, List.length_cons, List.length_nil]; omega) | (simp only [List.length_append, List.length_cons, List.length_nil, Nat.reduceAdd])) only [go_sem, e_go, e_cond_bool, e_w_bool, e_step_ite, e_reg_ite, e_regW_ite, e_code_ite, e_block_ite, e_evQ_ite, e_fin_ite, e_pair_ite, Try.f3, iAw8_eq, iMade6_eq, iText_eq, iTks_eq, iActR_eq, iMatR_eq, hcs, e_bin_bool, hat, cTok, f1, d1, d2, d3, d4, d5, d6, hat2, hcr, f3, hAq, hb, hM, hda, hw1]
              exact ⟨(i + 1, k.en, r.to), dn hlt, fin, ⟨[_, _], [], rfl⟩, by simp [HasE, lk]⟩
            · have d7 : decide ((0 : Int) < (k.st : Nat)) = false := decide_eq_false (by omega)
              simp (disch := first | assumption | omega | exact okR_new | exact okR_one | exact trivial | (simp only [List.length_append, List.length_cons, List.length_nil]; omega) | (simp only [List.length_append, List.length_cons, List.length_nil, Nat.reduceAdd])) only [go_sem, e_go, e_cond_bool, e_w_bool, e_step_ite, e_reg_ite, e_regW_ite, e_code_ite, e_block_ite, e_evQ_ite, e_fin_ite, e_pair_ite, Try.f3, iAw8_eq, iMade6_eq, iText_eq, iTks_eq, iActR_eq, iMatR_eq, hcs, e_bin_bool, hat, cTok, f1, d1, d2, d3, d4, d5, d6, hat2, hcr, f3, hAq, hb, hM, hda, hw1, d7]
              exact ⟨(i + 1, k.en, r.to), dn hlt, fin, ⟨[_, _], [], rfl⟩, by simp [HasE, lk]⟩
            · have d7 : decide ((0 : Int) < (k.st : Nat)) = true := decide_eq_true (by omega)
              have d9 : decide (((b.toNat : Nat) : Int) = 10) = true := decide_eq_true (by omega)
              have hwj : IntKind.i64.wrap ((k.st : Int) - 1) = (j : Nat) := by rw [IntWalk.i64_in _ (by omega)]; omega
              simp (disch := first | assumption | omega | exact okR_new | exact okR_one | exact trivial | (simp only [List.length_append, List.length_cons, List.length_nil]; omega) | (simp only [List.length_append, List.length_cons, List.length_nil, Nat.reduceAdd])) only [go_sem, e_go, e_cond_bool, e_w_bool, e_step_ite, e_reg_ite, e_regW_ite, e_code_ite, e_block_ite, e_evQ_ite, e_fin_ite, e_pair_ite, Try.f3, iAw8_eq, iMade6_eq, iText_eq, iTks_eq, iActR_eq, iMatR_eq, hcs, e_bin_bool, hat, cTok, f1, d1, d2, d3, d4, d5, d6, hat2, hcr, f3, hAq, hb, hM, hda, hw1, d7, hwj, h1, d9]
              exact ⟨(i + 1, k.en, r.to), dn hlt, fin, ⟨[_, _], [], rfl⟩, by simp [HasE, lk]⟩
          · have hda : decide (r.act = 3) = false := decide_eq_false hac
            have fin := fin k.cond (if_neg hac)
            rcases hB with hb | ⟨hb, h0⟩ | ⟨hb, j, b, h0, h1, hb10⟩
            · simp (disch := first | assumption | omega | exact okR_new | exact okR_one | exact trivial | (simp only [List.length_append, List.length_cons, List.length_nil]; omega) | (simp only [List.length_append, List.length_cons, List.length_nil, Nat.reduceAdd])) only [go_sem, e_go, e_cond_bool, e_w_bool, e_step_ite, e_reg_ite, e_regW_ite, e_code_ite, e_block_ite, e_evQ_ite, e_fin_ite, e_pair_ite, Try.f3, iAw8_eq, iMade6_eq, iText_eq, iTks_eq, iActR_eq, iMatR_eq, hcs, e_bin_bool, hat, cTok, f1, d1, d2, d3, d4, d5, d6, hat2, hcr, f3, hAq, hb, hM, hda, hw1]
              exact ⟨(i + 1, k.en, k.cond), dn hlt, fin, ⟨[_, _], [], rfl⟩, by simp [HasE, lk]⟩
            · have d7 : decide ((0 : Int) < (k.st : Nat)) = false := decide_eq_false (by omega)
              simp (disch := first | assumption | omega | exact okR_new | exact okR_one | exact trivial | (simp only [List.length_append, List.length_cons, List.length_nil]; omega) | (simp only [List.length_append, List.length_cons, List.length_nil, Nat.reduceAdd])) only [go_sem, e_go, e_cond_bool, e_w_bool, e_step_ite, e_reg_ite, e_regW_ite, e_code_ite, e_block_ite, e_evQ_ite, e_fin_ite, e_pair_ite, Try.f3, iAw8_eq, iMade6_eq, iText_eq, iTks_eq, iActR_eq, iMatR_eq, hcs, e_bin_bool, hat, cTok, f1, d1, d2, d3, d4, d5, d6, hat2, hcr, f3, hAq, hb, hM, hda, hw1, d7]
              exact ⟨(i + 1, k.en, k.cond), dn hlt, fin, ⟨[_, _], [], rfl⟩, by simp [HasE, lk]⟩
            · have d7 : decide ((0 : Int) < (k.st : Nat)) = true := decide_eq_true (by omega)
              have d9 : decide (((b.toNat : Nat) : Int) = 10) = true := decide_eq_true (by omega)
              have hwj : IntKind.i64.wrap ((k.st : Int) - 1) = (j : Nat) := by rw [IntWalk.i64_in _ (by omega)]; omega
              simp (disch := first | assumption | omega | exact okR_new | exact okR_one | exact trivial | (simp only [List.length_append, List.length_cons, List.length_nil]; omega) | (simp only [List.length_append, List.length_cons, List.length_nil, Nat.reduceAdd])) only [go_sem, e_go, e_cond_bool, e_w_bool, e_step_ite, e_reg_ite, e_regW_ite, e_code_ite, e_block_ite, e_evQ_ite, e_fin_ite, e_pair_ite, Try.f3, iAw8_eq, iMade6_eq, iText_eq, iTks_eq, iActR_eq, iMatR_eq, hcs, e_bin_bool, hat, cTok, f1, d1, d2, d3, d4, d5, d6, hat2, hcr, f3, hAq, hb, hM, hda, hw1, d7, hwj, h1, d9]
              exact ⟨(i + 1, k.en, k.cond), dn hlt, fin, ⟨[_, _], [], rfl⟩, by simp [HasE, lk]⟩
      | @eof _ _ g1 g2 =>
        obtain ⟨hg, hd, _⟩ := drop_hd hR
        have hend : L.length ≤ i + 1 := List.drop_eq_nil_iff.1 hd
        subst g1
        have hat := fl_at cTok_len hg
        obtain ⟨q, r, f1, f2, f3, f5⟩ := eof_spec g2
        have hcr := cRu_eq r
        have hat2 := fl_at cRu_len f2
        have hlk := (List.getElem?_eq_some_iff.1 f2).1
        have hle2 : q * 22 + 22 ≤ s.rules.length * 22 := by omega
        have hAq := hA q c
        rw [f5] at hAq
        have hme := rule_eof a2 f2 f3
        have d3 : decide (((s.rules.length : Nat) : Int) ≤ (q : Nat)) = false := decide_eq_false (by omega)
        have d4 : decide ((q : Int) < -1) = false := decide_eq_false (by omega)
        have d5 : decide ((q : Int) < 0) = false := decide_eq_false (by omega)
        have d8 : decide (((i + 1 : Nat) : Int) < (L.length : Nat)) = false := decide_eq_false (by omega)
        by_cases hac : r.act = 3
        · have hda : decide (r.act = 3) = true := decide_eq_true hac
          simp (disch := first | assumption | omega | exact okR_new | exact okR_one | exact trivial | (simp only [List.length_append, List.length_cons, List.length_nil]; omega) | (simp only [List.length_append, List.length_cons, List.length_nil, Nat.reduceAdd])) only [go_sem, e_go, e_cond_bool, e_w_bool, e_step_ite, e_reg_ite, e_regW_ite, e_code_ite, e_block_ite, e_evQ_ite, e_fin_ite, e_pair_ite, Try.f3, iAw8_eq, iMade6_eq, iText_eq, iTks_eq, iActR_eq, iMatR_eq, hcs, e_bin_bool, hat, cTok, f1, d3, d4, d5, d8, hat2, hcr, f3, hAq, hme, hda, hw1]
          exact ⟨(i + 1, w.length, r.to), dn hlt, ⟨hlt, Nat.le_refl _, .inr ⟨Nat.le_antisymm hlt hend, rfl⟩⟩, ⟨[_, _], [], rfl⟩, by simp [HasE, lk]⟩
        · have hda : decide (r.act = 3) = false := decide_eq_false hac
          simp (disch := first | assumption | omega | exact okR_new | exact okR_one | exact trivial | (simp only [List.length_append, List.length_cons, List.length_nil]; omega) | (simp only [List.length_append, List.length_cons, List.length_nil, Nat.reduceAdd])) only [go_sem, e_go, e_cond_bool, e_w_bool, e_step_ite, e_reg_ite, e_regW_ite, e_code_ite, e_block_ite, e_evQ_ite, e_fin_ite, e_pair_ite, Try.f3, iAw8_eq, iMade6_eq, iText_eq, iTks_eq, iActR_eq, iMatR_eq, hcs, e_bin_bool, hat, cTok, f1, d3, d4, d5, d8, hat2, hcr, f3, hAq, hme, hda, hw1]
          exact ⟨(i + 1, w.length, c), dn hlt, ⟨hlt, Nat.le_refl _, .inr ⟨Nat.le_antisymm hlt hend, rfl⟩⟩, ⟨[_, _], [], rfl⟩, by simp [HasE, lk]⟩
    · omega
  · have hi' : i = L.length := by omega
    subst hi'
    rw [List.drop_length] at hrun
    have fin : (J = a ∧ a < w.length ∧ s.deft = false) ∨ (J = -1 ∧ a = w.length) := by
      rcases hrun with ⟨hrun, _⟩ | ⟨_, h1, h2⟩
      · cases hrun with
        | jam h1 h2 => exact .inl ⟨rfl, h1, (next_none a2 w0 h1 h2).1⟩
        | fin h1 h2 => exact .inr ⟨rfl, h1⟩
      · exact .inr ⟨h2, h1⟩
    rcases fin with ⟨rfl, h1, h2⟩ | ⟨rfl, rfl⟩
    · have j1 : decide ((a : Int) < (w.length : Nat)) = true := decide_eq_true (by omega)
      simp (disch := first | assumption | omega | exact okR_new | exact okR_one | exact trivial | (simp only [List.length_append, List.length_cons, List.length_nil]; omega) | (simp only [List.length_append, List.length_cons, List.length_nil, Nat.reduceAdd])) only [go_sem, e_go, e_cond_bool, e_w_bool, e_step_ite, e_reg_ite, e_regW_ite, e_code_ite, e_block_ite, e_evQ_ite, e_fin_ite, e_pair_ite, Try.f3, iAw8_eq, iMade6_eq, iText_eq, iTks_eq, iActR_eq, iMatR_eq, hcs, j1, h2]
    · have j1 : decide ((-1 : Int) = (w.length : Nat)) = false := decide_eq_false (by omega)
      simp (disch := first | assumption | omega | exact okR_new | exact okR_one | exact trivial | (simp only [List.length_append, List.length_cons, List.length_nil]; omega) | (simp only [List.length_append, List.length_cons, List.length_nil, Nat.reduceAdd])) only [go_sem, e_go, e_cond_bool, e_w_bool, e_step_ite, e_reg_ite, e_regW_ite, e_code_ite, e_block_ite, e_evQ_ite, e_fin_ite, e_pair_ite, Try.f3, iAw8_eq, iMade6_eq, iText_eq, iTks_eq, iActR_eq, iMatR_eq, hcs, j1]
end Go.Hk.M
/- Layer 8: what is cut off makes no difference. -/
namespace Go.Hk.M
open Go.Proofs

end Go.Hk.M
/- Layer 3: what the statements are handed. -/
namespace Go.Hk.M
open Go.Proofs

theorem wf_k {k : IntKind} {n : Int} (h : (Lit.int k n).wf = true) : k.min ≤ n ∧ n ≤ k.max := by simpa [Lit.wf] using h
theorem rd_u8 {d : Nat} {s : List AVal} (h : shp Try.prog d 5 s) : ∃ n : Nat, n < 256 ∧ s = [.int .u8 (n : Nat)] := by
  cases d with
  | zero => exact h.elim
  | succ d =>
    simp only [shp, ti5] at h
    obtain ⟨n, rfl, hw⟩ := h
    have : 0 ≤ n ∧ n ≤ 255 := wf_k hw
    exact ⟨n.toNat, by omega, by rw [Int.toNat_of_nonneg this.1]⟩
theorem max_lt {n : Nat} (h : n ≤ maxLen) : n < 9223372036854775808 := by
  have : maxLen = 9223372036854775807 := rfl
  omega
theorem rd_bytes {d : Nat} {s : List AVal} (h : shp Try.prog d 22 s) : ∃ l : List Nat, (l.length < 9223372036854775808 ∧ ∀ n ∈ l, n < 256) ∧ s = [slc c8 l] := by
  cases d with
  | zero => exact h.elim
  | succ d =>
    simp only [shp, ti22] at h
    obtain ⟨xs, rfl, hm, hx⟩ := h
    obtain ⟨l, h1, h2, h3⟩ := list_of (f := c8) (ok := fun n => n < 256) (fun x h => rd_u8 h) xs hx
    exact ⟨l, ⟨by rw [h1]; exact max_lt hm, h3⟩, by rw [← h1, h2]⟩
theorem c8_cU : ∀ l : List Nat, (∀ n ∈ l, n < 256) → slc c8 l = slc cU (l.map UInt8.ofNat) ∧ l.length = (l.map UInt8.ofNat).length := by
  intro l h
  refine ⟨?_, by simp⟩
  have : fl c8 l = fl cU (l.map UInt8.ofNat) := by
    induction l with
    | nil => rfl
    | cons n l ih =>
      have hn := h n (by simp)
      have e : (UInt8.ofNat n).toNat = n := by simp; omega
      simp only [List.map_cons, fl, ih fun m hm => h m (by simp [hm]), cU, c8, e]
  simp [slc, this]
theorem rd_cU {d : Nat} {s : List AVal} (h : shp Try.prog d 22 s) : ∃ l : List UInt8, l.length < 9223372036854775808 ∧ s = [slc cU l] := by
  obtain ⟨l, ⟨h1, h2⟩, rfl⟩ := rd_bytes h
  obtain ⟨e1, e2⟩ := c8_cU l h2
  exact ⟨l.map UInt8.ofNat, by omega, by rw [e1]⟩
end Go.Hk.M
