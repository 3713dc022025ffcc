/- Layer 3: texts of patterns, of the document; what is told of patterns. -/
import Derived.Test.YtpbepclmcjmlbaaGreatDoorHkDZDR7
set_option linter.unusedSimpArgs false
set_option linter.unusedVariables false
namespace Go.Hk.DZD
open Go.Proofs
theorem ti51 : tiOf Tryz.prog 51 = some { size := 1, bytes := 8, zero := some (.int .i64 0), k := .int .i64 } := by kernel_rfl
attribute [go_sem] ti51
noncomputable def iTr' (n : Nat) : List AVal → Option AVal := pimp fun xs r => ∃ (x : Rx), ((okT x) ∧ sz x < n) ∧ xs = [rV x] ∧ r = .str (text x)
theorem iTr'_eq {n : Nat} {x : Rx} (h0 : (okT x) ∧ sz x < n) : iTr' n [rV x] = some (.str (text x)) := by
  have h := h0.1
  refine pimp_eq ⟨x, h0, rfl, rfl⟩ ?_
  rintro _ ⟨x', h0', e, rfl⟩
  have h' := h0'.1
  have e0 := (List.cons.inj e).1; have e0r := (List.cons.inj e).2; have q0 := rV_inj (by first | assumption | exact h | exact h.1 | exact h.1.1 | exact h.1.1.1 | exact h.2 | exact h.2.1 | exact h.2.2 | exact h.2.2.1) (by first | assumption | exact h' | exact h'.1 | exact h'.1.1 | exact h'.1.1.1 | exact h'.2 | exact h'.2.1 | exact h'.2.2 | exact h'.2.2.1) e0; subst q0; first | rfl | exact ⟨rfl, rfl⟩
theorem w_in (n : Nat) (ih_iTr' : ∀ xs v, iTr' n xs = some v → PCall Tryz.prog 52 xs v) (y : Rx) (b : Bool) (hok : okT y ∧ sz y < n) : PCall Tryz.prog 67 [rV y, .bool b] (.str (par b (text y))) := by
  have hlen := hok.1.2
  refine PCall.of_w (fn := Tryz.f67) (Γ := gam [(52, .pure (iTr' n))]) (mu := false) (Sound.pure ih_iTr' Sound.nil) mixed Tryz.func67 rfl (by kernel_rfl) (by simp) (by kernel_rfl) ?_
  cases b <;>
  · simp (disch := first | assumption | omega | exact okR_new | exact okR_one | exact trivial | (simp only [List.length_append, List.length_cons, List.length_nil]; omega) | (simp only [List.length_append, List.length_cons, List.length_nil, Nat.reduceAdd])) only [go_sem, e_go, e_cond_bool, e_w_bool, e_step_ite, e_reg_ite, e_regW_ite, e_code_ite, e_block_ite, e_evQ_ite, e_fin_ite, e_pair_ite, Tryz.f67, iTr'_eq]
    simp [par]
noncomputable def iIn (n : Nat) : List AVal → Option AVal := pimp fun xs r => ∃ (y : Rx) (b : Bool), (okT y ∧ sz y < n) ∧ xs = [rV y, .bool b] ∧ r = .str (par b (text y))
theorem iIn_eq {n : Nat} {y : Rx} {b : Bool} (h : okT y ∧ sz y < n) : iIn n [rV y, .bool b] = some (.str (par b (text y))) :=
  pimp_eq ⟨y, b, h, rfl, rfl⟩ (by
    rintro _ ⟨y', b', h', e, rfl⟩
    rw [rV_inj h.1.1.1 h'.1.1.1 (List.cons.inj e).1, AVal.bool.inj (List.cons.inj (List.cons.inj e).2).1])
theorem iIn_call (n : Nat) (ih_iTr' : ∀ xs v, iTr' n xs = some v → PCall Tryz.prog 52 xs v) : ∀ xs v, iIn n xs = some v → PCall Tryz.prog 67 xs v := fun xs v h0 => by obtain ⟨y, b, h, rfl, rfl⟩ := pimp_spec h0; exact w_in n ih_iTr' y b h

/-- What is joined so far. -/
def jo (sep : List UInt8) (l : List (List UInt8)) (i : Nat) : List UInt8 := joinS sep (l.take i)
theorem jo_first {sep : List UInt8} {l : List (List UInt8)} {t : List UInt8} (h : l[0]? = some t) : jo sep l 1 = t := by
  cases l with
  | nil => simp at h
  | cons x l => simp at h; subst h; simp [jo, joinS, jt]
theorem jo_next {sep : List UInt8} {l : List (List UInt8)} {i : Nat} {t : List UInt8} (hi : 0 < i) (h : l[i]? = some t) : jo sep l (i + 1) = jo sep l i ++ sep ++ t := by
  cases l with
  | nil => simp at h
  | cons x l =>
    obtain ⟨k, rfl⟩ : ∃ k, i = k + 1 := ⟨i - 1, by omega⟩
    simp only [List.getElem?_cons_succ] at h
    have := jt_next (sep := sep) h
    simp only [jo, List.take_succ_cons, joinS, this, List.append_assoc]
theorem jo_le {sep : List UInt8} {l : List (List UInt8)} {i : Nat} : (jo sep l i).length ≤ (joinS sep l).length := by
  cases l with
  | nil => simp [jo, joinS]
  | cons x l =>
    cases i with
    | zero => simp [jo, joinS]
    | succ i =>
      have := jt_take_le (sep := sep) (l := l) (i := i)
      simp only [jo, List.take_succ_cons, joinS, List.length_append]; omega
theorem jo_all {sep : List UInt8} {l : List (List UInt8)} : jo sep l l.length = joinS sep l := by rw [jo, List.take_length]
theorem w_Text (n : Nat) (ih_iTr' : ∀ xs v, iTr' n xs = some v → PCall Tryz.prog 52 xs v) (x : Rx) (h : okT x) (hn : sz x ≤ n) : PCall Tryz.prog 52 [rV x] (.str (text x)) := by
  have hx := h.1.1
  have hc := cR_eq x
  have hr := h.1.2
  have hl := hx.len
  have hlen := h.2
  have hst := hx.st
  rw [text_eq] at hlen ⊢
  refine PCall.of_w (fn := Tryz.f52) (Γ := gam [(66, .pure iByR), (68, .pure iDg), (67, .pure (iIn n))]) (mu := false) (Sound.pure iByR_call (Sound.pure iDg_call (Sound.pure (iIn_call n ih_iTr') Sound.nil))) mixed Tryz.func52 rfl (by kernel_rfl) (by simp) (by kernel_rfl) ?_
  rcases hr.cases with ⟨hk, _⟩ | ⟨hk, _, _⟩ | ⟨hk, _, hl2⟩ | ⟨hk, _, ht, y, hy⟩
  · rw [hk] at hlen ⊢
    simp (disch := first | assumption | omega | exact okR_new | exact okR_one | exact trivial | (simp only [List.length_append, List.length_cons, List.length_nil]; omega) | (simp only [List.length_append, List.length_cons, List.length_nil, Nat.reduceAdd])) only [go_sem, e_go, e_cond_bool, e_w_bool, e_step_ite, e_reg_ite, e_regW_ite, e_code_ite, e_block_ite, e_evQ_ite, e_fin_ite, e_pair_ite, Tryz.f52, iByR_eq, iDg_eq, iIn_eq, hc, hk]
    rfl
  · rw [hk] at hlen ⊢
    simp (disch := first | assumption | omega | exact okR_new | exact okR_one | exact trivial | (simp only [List.length_append, List.length_cons, List.length_nil]; omega) | (simp only [List.length_append, List.length_cons, List.length_nil, Nat.reduceAdd])) only [go_sem, e_go, e_cond_bool, e_w_bool, e_step_ite, e_reg_ite, e_regW_ite, e_code_ite, e_block_ite, e_evQ_ite, e_fin_ite, e_pair_ite, Tryz.f52, iByR_eq, iDg_eq, iIn_eq, hc, hk]
  · rw [if_neg (by omega), if_neg (by omega), if_pos hk] at hlen ⊢
    have hkid : ∀ y ∈ x.l, okT y ∧ sz y < n := fun y hy => ⟨h.kid hy, by have := sz_mem hy; omega⟩
    generalize hL : x.l.map (kidT x.k) = L at *
    have hLl : L.length = x.l.length := by rw [← hL, List.length_map]
    have hsep : (sepK x.k).length ≤ 1 := by unfold sepK; split <;> simp
    rcases hk with hk | hk <;>
    · rw [hk] at hlen hsep hL ⊢
      simp (disch := first | assumption | omega | exact okR_new | exact okR_one | exact trivial | (simp only [List.length_append, List.length_cons, List.length_nil]; omega) | (simp only [List.length_append, List.length_cons, List.length_nil, Nat.reduceAdd])) only [go_sem, e_go, e_cond_bool, e_w_bool, e_step_ite, e_reg_ite, e_regW_ite, e_code_ite, e_block_ite, e_evQ_ite, e_fin_ite, e_pair_ite, Tryz.f52, iByR_eq, iDg_eq, iIn_eq, hc, hk]
      refine w_loop [] [4, 5] (fun i : Nat => x.l.length - i) (fun i => i ≤ x.l.length) (fun i => ⟨[.cells 0 (cR x)], []⟩)
        (fun i => [(4, .str (jo (sepK x.k) L i)), (5, .int .i64 (i : Nat))]) 0 (fun _ => rfl) (by kernel_rfl) (Nat.zero_le _) (by simp only [hc, hk]) (by simp [HasE, lk, jo, joinS]) ?_
      intro i hi
      by_cases h : i < x.l.length
      · have hg : x.l[i]? = some x.l[i] := by simp [h]
        have hat := fl_at cR_len hg
        have hle : i * 8 + 8 ≤ x.l.length * 8 := by omega
        have hok := hkid _ (List.getElem_mem h)
        have hgL : L[i]? = some (kidT x.k x.l[i]) := by rw [← hL, hk, List.getElem?_map, hg]; rfl
        have hp3 : par (decide (x.l[i].k = 4)) (text x.l[i]) = kidT 3 x.l[i] := by simp [kidT, pk]
        have hp4 : par false (text x.l[i]) = kidT 4 x.l[i] := by simp [kidT, pk, par]
        have hk0 := fl_get0 cR_len hg (by decide)
        have hcy := cR_eq x.l[i]
        rw [hcy] at hk0
        have hb1 := jo_le (sep := sepK x.k) (l := L) (i := i)
        have hb2 := jo_le (sep := sepK x.k) (l := L) (i := i + 1)
        rw [hk] at hb1 hb2 hgL ⊢
        by_cases h0 : 0 < i
        · have hnx := jo_next (sep := sepK x.k) h0 hgL
          rw [hk] at hnx
          rw [hnx] at hb2
          simp only [List.length_append] at hb2
          first
            | (have hs3 : sepK 3 = [] := rfl
               have hk3 := hk
               rw [show x.k = 3 from hk3] at hk
               simp only [hs3, List.length_nil, List.append_nil] at hb1 hb2 hnx hlen
               simp (disch := first | assumption | omega | exact okR_new | exact okR_one | exact trivial | (simp only [List.length_append, List.length_cons, List.length_nil]; omega) | (simp only [List.length_append, List.length_cons, List.length_nil, Nat.reduceAdd])) only [go_sem, e_go, e_cond_bool, e_w_bool, e_step_ite, e_reg_ite, e_regW_ite, e_code_ite, e_block_ite, e_evQ_ite, e_fin_ite, e_pair_ite, Tryz.f52, iByR_eq, iDg_eq, iIn_eq, hc, hk3, hat, hk0, hp3, hs3]
               exact ⟨i + 1, dn h, h, by simp only [hc, hk3], by simp [HasE, lk, hnx]⟩)
            | (have hs4 : sepK 4 = [124] := rfl
               simp only [hs4, List.length_cons, List.length_nil] at hb1 hb2 hnx hlen
               simp (disch := first | assumption | omega | exact okR_new | exact okR_one | exact trivial | (simp only [List.length_append, List.length_cons, List.length_nil]; omega) | (simp only [List.length_append, List.length_cons, List.length_nil, Nat.reduceAdd])) only [go_sem, e_go, e_cond_bool, e_w_bool, e_step_ite, e_reg_ite, e_regW_ite, e_code_ite, e_block_ite, e_evQ_ite, e_fin_ite, e_pair_ite, Tryz.f52, iByR_eq, iDg_eq, iIn_eq, hc, hk, hat, hk0, hp4, hs4]
               exact ⟨i + 1, dn h, h, by simp only [hc, hk], by simp [HasE, lk, hnx]⟩)
        · have hi0 : i = 0 := by omega
          subst hi0
          simp only [Nat.zero_mul, List.drop_zero] at hat hk0
          have hnx := jo_first (sep := sepK x.k) hgL
          rw [hk] at hnx
          have hz : ∀ sep, jo sep L 0 = [] := fun sep => by simp [jo, joinS]
          rw [hnx] at hb2
          first
            | (have hk3 := hk
               rw [show x.k = 3 from hk3] at hk
               simp (disch := first | assumption | omega | exact okR_new | exact okR_one | exact trivial | (simp only [List.length_append, List.length_cons, List.length_nil]; omega) | (simp only [List.length_append, List.length_cons, List.length_nil, Nat.reduceAdd])) only [go_sem, e_go, e_cond_bool, e_w_bool, e_step_ite, e_reg_ite, e_regW_ite, e_code_ite, e_block_ite, e_evQ_ite, e_fin_ite, e_pair_ite, Tryz.f52, iByR_eq, iDg_eq, iIn_eq, hc, hk3, hat, hk0, hp3, hz]
               exact ⟨1, dn h, h, by simp only [hc, hk3], by simp [HasE, lk, hnx]⟩)
            | (simp (disch := first | assumption | omega | exact okR_new | exact okR_one | exact trivial | (simp only [List.length_append, List.length_cons, List.length_nil]; omega) | (simp only [List.length_append, List.length_cons, List.length_nil, Nat.reduceAdd])) only [go_sem, e_go, e_cond_bool, e_w_bool, e_step_ite, e_reg_ite, e_regW_ite, e_code_ite, e_block_ite, e_evQ_ite, e_fin_ite, e_pair_ite, Tryz.f52, iByR_eq, iDg_eq, iIn_eq, hc, hk, hat, hk0, hp4, hz]
               exact ⟨1, dn h, h, by simp only [hc, hk], by simp [HasE, lk, hnx]⟩)
      · have hi' : i = x.l.length := by omega
        subst hi'
        rw [hk]
        have hja := jo_all (sep := sepK x.k) (l := L)
        rw [hLl, hk] at hja
        simp (disch := first | assumption | omega | exact okR_new | exact okR_one | exact trivial | (simp only [List.length_append, List.length_cons, List.length_nil]; omega) | (simp only [List.length_append, List.length_cons, List.length_nil, Nat.reduceAdd])) only [go_sem, e_go, e_cond_bool, e_w_bool, e_step_ite, e_reg_ite, e_regW_ite, e_code_ite, e_block_ite, e_evQ_ite, e_fin_ite, e_pair_ite, Tryz.f52, iByR_eq, iDg_eq, iIn_eq, hc, hk, hja]
  · rw [if_neg (by omega), if_pos hk] at hlen ⊢
    rw [hk] at hlen ⊢
    have hym : y ∈ x.l := by rw [hy]; simp
    have hkid : okT y ∧ sz y < n := ⟨h.kid hym, by have := sz_mem hym; omega⟩
    have hl1 : x.l.length = 1 := by rw [hy]; rfl
    have hat : List.take 8 (fl cR x.l) = cR y := by rw [hy, fl_one]; exact l_take_cR
    have hcy := cR_eq y
    have hk0 : (fl cR x.l)[0]? = some (.int .i64 y.k) := by rw [hy, fl_one, hcy]; rfl
    have hp5 : par (decide (3 ≤ y.k)) (text y) = kidT 5 y := by simp [kidT, pk]
    have hj : joinS [] (x.l.map (kidT 5)) = kidT 5 y := by rw [hy]; simp [joinS, jt]
    rw [hj] at hlen ⊢
    have hb1 : 0 ≤ x.lo ∧ x.lo ≤ 20 := by
      unfold times at ht
      simp only [Bool.and_eq_true, decide_eq_true_eq] at ht
      omega
    have hb2 : x.hi ≤ 20 := by
      unfold times at ht
      simp only [Bool.and_eq_true, Bool.or_eq_true, decide_eq_true_eq] at ht
      omega
    have hi1 := (@itoa_len x.lo).2
    have hi2 := (@itoa_len x.hi).2
    have hkl : (kidT 5 y).length < 1000000000 := by
      simp only [List.length_append] at hlen
      omega
    by_cases h0 : 0 ≤ x.hi
    · have hb3 : 0 ≤ x.hi ∧ x.hi ≤ 20 := ⟨h0, hb2⟩
      have e : tail5 x.lo x.hi = [123] ++ itoa x.lo ++ [44] ++ itoa x.hi ++ [125] := by unfold tail5; rw [if_pos h0]
      rw [e]
      simp (disch := first | assumption | omega | exact okR_new | exact okR_one | exact trivial | (simp only [List.length_append, List.length_cons, List.length_nil]; omega) | (simp only [List.length_append, List.length_cons, List.length_nil, Nat.reduceAdd])) only [go_sem, e_go, e_cond_bool, e_w_bool, e_step_ite, e_reg_ite, e_regW_ite, e_code_ite, e_block_ite, e_evQ_ite, e_fin_ite, e_pair_ite, Tryz.f52, iByR_eq, iDg_eq, iIn_eq, hc, hk, hat, hl1, hk0, hp5]
      simp
    · have e : tail5 x.lo x.hi = [123] ++ itoa x.lo ++ [44] ++ [] ++ [125] := by unfold tail5; rw [if_neg h0]
      rw [e]
      simp (disch := first | assumption | omega | exact okR_new | exact okR_one | exact trivial | (simp only [List.length_append, List.length_cons, List.length_nil]; omega) | (simp only [List.length_append, List.length_cons, List.length_nil, Nat.reduceAdd])) only [go_sem, e_go, e_cond_bool, e_w_bool, e_step_ite, e_reg_ite, e_regW_ite, e_code_ite, e_block_ite, e_evQ_ite, e_fin_ite, e_pair_ite, Tryz.f52, iByR_eq, iDg_eq, iIn_eq, hc, hk, hat, hl1, hk0, hp5]
      simp
theorem iTr'_all : ∀ n xs v, iTr' n xs = some v → PCall Tryz.prog 52 xs v := by
  intro n
  induction n with
  | zero => intro xs v h0; obtain ⟨x, h, rfl, rfl⟩ := pimp_spec h0; exact absurd h.2 (Nat.not_lt_zero _)
  | succ n ih => intro xs v h0; obtain ⟨x, h, rfl, rfl⟩ := pimp_spec h0; exact w_Text n ih x h.1 (Nat.le_of_lt_succ h.2)
noncomputable def iTxR : List AVal → Option AVal := pimp fun xs r => ∃ (x : Rx), (okT x) ∧ xs = [rV x] ∧ r = .str (text x)
theorem iTxR_eq {x : Rx} (h : okT x) : iTxR [rV x] = some (.str (text x)) := pimp_eq ⟨x, h, rfl, rfl⟩ (by rintro _ ⟨x', h', e, rfl⟩; have e0 := (List.cons.inj e).1; have e0r := (List.cons.inj e).2; have q0 := rV_inj (by first | assumption | exact h | exact h.1 | exact h.1.1 | exact h.1.1.1 | exact h.2 | exact h.2.1 | exact h.2.2 | exact h.2.2.1) (by first | assumption | exact h' | exact h'.1 | exact h'.1.1 | exact h'.1.1.1 | exact h'.2 | exact h'.2.1 | exact h'.2.2 | exact h'.2.2.1) e0; subst q0; first | rfl | exact ⟨rfl, rfl⟩)
theorem iTxR_call : ∀ xs v, iTxR xs = some v → PCall Tryz.prog 52 xs v := fun xs v h0 => by obtain ⟨x, h, rfl, rfl⟩ := pimp_spec h0; exact iTr'_all (sz x + 1) _ _ (iTr'_eq ⟨h, Nat.lt_succ_self _⟩)
def printV (x : Rx) : AVal := if rightT x then .tup (.str (text x)) [.int .i64 0] else .tup (.str []) [.int .i64 1]
theorem w_Print (x : Rx) (h : okX x) : PCall Tryz.prog 77 [rV x] (printV x) := by
  unfold printV
  refine PCall.of_w (fn := Tryz.f77) (Γ := gam [(41, .pure iRt), (84, .pure iTx)]) (mu := false) (Sound.pure iRt_call (Sound.pure iTx_call Sound.nil)) mixed Tryz.func77 rfl (by kernel_rfl) (by simp) (by kernel_rfl) ?_
  cases hr : rightT x
  · simp (disch := first | assumption | omega | exact okR_new | exact okR_one | exact trivial | (simp only [List.length_append, List.length_cons, List.length_nil]; omega) | (simp only [List.length_append, List.length_cons, List.length_nil, Nat.reduceAdd])) only [go_sem, e_go, e_cond_bool, e_w_bool, e_step_ite, e_reg_ite, e_regW_ite, e_code_ite, e_block_ite, e_evQ_ite, e_fin_ite, e_pair_ite, Tryz.f77, iRt_eq, iTx_eq, hr]
  · have hok : okT x := ⟨⟨h.rt hr, rightT_in hr⟩, by have := text_short hr; omega⟩
    simp (disch := first | assumption | omega | exact okR_new | exact okR_one | exact trivial | (simp only [List.length_append, List.length_cons, List.length_nil]; omega) | (simp only [List.length_append, List.length_cons, List.length_nil, Nat.reduceAdd])) only [go_sem, e_go, e_cond_bool, e_w_bool, e_step_ite, e_reg_ite, e_regW_ite, e_code_ite, e_block_ite, e_evQ_ite, e_fin_ite, e_pair_ite, Tryz.f77, iRt_eq, iTx_eq, hr]
noncomputable def iPr : List AVal → Option AVal := pimp fun xs r => ∃ (x : Rx), (okX x) ∧ xs = [rV x] ∧ r = printV x
theorem iPr_eq {x : Rx} (h : okX x) : iPr [rV x] = some (printV x) := pimp_eq ⟨x, h, rfl, rfl⟩ (by rintro _ ⟨x', h', e, rfl⟩; have e0 := (List.cons.inj e).1; have e0r := (List.cons.inj e).2; have q0 := rV_inj (by first | assumption | exact h | exact h.1 | exact h.1.1 | exact h.1.1.1 | exact h.2 | exact h.2.1 | exact h.2.2 | exact h.2.2.1) (by first | assumption | exact h' | exact h'.1 | exact h'.1.1 | exact h'.1.1.1 | exact h'.2 | exact h'.2.1 | exact h'.2.2 | exact h'.2.2.1) e0; subst q0; first | rfl | exact ⟨rfl, rfl⟩)
theorem iPr_call : ∀ xs v, iPr xs = some v → PCall Tryz.prog 77 xs v := fun xs v h0 => by obtain ⟨x, h, rfl, rfl⟩ := pimp_spec h0; exact w_Print x h
end Go.Hk.DZD
