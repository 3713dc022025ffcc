import Derived.Test.YtdimacffjdpkfaaGreatHkQ28
import Derived.Test.YtdimacffjdpkfaaGreatChecked
import Derived.Test.YtdimacffjdpkfaaGreatHkQ20
import Derived.Shelf.SortM.Plain
import Derived.Shelf.SortM.SortNone
import Derived.KernelRfl
set_option linter.unusedSimpArgs false
set_option linter.unusedVariables false
set_option maxRecDepth 20000
namespace Go.Hk.MZ
open Go.Proofs



theorem iMo_call (n : Nat) (ih : ∀ xs m v m', iBh n xs m = some (v, m') → RCall Tryz.prog 40 xs m v m') : ∀ xs m v m', iMo n xs m = some (v, m') → RCall Tryz.prog 64 xs m v m' := by
  intro xs m v m' h
  obtain ⟨G, T, p, b, t, ks, x, most, ⟨hP, hx, hr, hn, h1, h2⟩, rfl, rfl, rfl, rfl⟩ := rimp_spec h
  exact w_more n ih G T p b t ks x most hP hx hr hn h1 h2
theorem w_behind (n : Nat) (ih : ∀ xs m v m', iBh n xs m = some (v, m') → RCall Tryz.prog 40 xs m v m') (G : List ABlk) (T : List (Nat × (Nat × Nat))) (p b : Nat) (t : List UInt8) (ks : List Nat) (x : Rx)
    (h : PlOK G T p b t ks) (hx : okX x) (hr : inR x) (hn : sz x ≤ n) :
    RCall Tryz.prog 40 [.ptr p 0 0, rV x, .map b] ⟨G, T⟩ (.map G.length) ⟨G ++ [.amap (sents (cset (t.length + 1) (Im (R t x) ks)))], T⟩ := by
  have hs := h.shut
  have hpl := (List.getElem?_eq_some_iff.1 h.tx).1
  have hbl := (List.getElem?_eq_some_iff.1 h.at_).1
  have hRx := R_le (t := t) x
  have hk0 : (cR x)[0]? = some (.int .i64 x.k) := by rw [cR_eq]; rfl
  have hk5 : (cR x)[5]? = some (.int .i64 x.lo) := by rw [cR_eq]; rfl
  have hk6 : (cR x)[6]? = some (.int .i64 x.hi) := by rw [cR_eq]; rfl
  have hk7 : (cR x)[7]? = some (slc cR x.l) := by rw [cR_eq]; rfl
  have hk1 : List.take 4 (List.drop 1 (cR x)) = setL x.s := by rw [cR_eq]; rfl
  have hcl : iClone [.map b] ⟨G ++ [.cells 0 (cR x)], T⟩ = some (.map (G.length + 1), ⟨G ++ [.cells 0 (cR x), .amap (sents ks)], T⟩) := by
    have := iClone_eq (G := G ++ [.cells 0 (cR x)]) (T := T) (b := b) (ks := ks) ⟨by rw [m_at hbl]; exact h.at_, shut_one hs fun _ _ => by simp [cR_clo0]⟩
    simpa using this
  have hone : x.k = 2 → iOne [.ptr p 0 0, setV x.s, .map b] ⟨G ++ [.cells 0 (cR x)], T⟩ = some (.map (G.length + 1), ⟨G ++ [.cells 0 (cR x), .amap (sents (cset (t.length + 1) (Im (R t x) ks)))], T⟩) := fun k2 => by
    have := iOne_eq (G := G ++ [.cells 0 (cR x)]) (T := T) (p := p) (b := b) (A := x.s) (t := t) (ks := ks) ⟨by rw [m_at hpl]; exact h.tx, by rw [m_at hbl]; exact h.at_, h.nd, hx.st, h.len, h.le, shut_one hs fun _ _ => by simp [cR_clo0]⟩
    have e : (fun j => ∃ i, i ∈ ks ∧ i < t.length ∧ x.s.testBit (t.getD i 0).toNat = true ∧ j = i + 1) = Im (R t x) ks := by funext j; simp only [Im, R_k2 k2]
    rw [this, e]
    simp only [List.length_append, List.length_singleton, List.append_assoc, List.singleton_append]
  have hsame : (∀ j, Im (R t x) ks j ↔ j ∈ ks) → SetOf G T (cset (t.length + 1) (Im (R t x) ks)) (.map (G.length + 1)) ⟨G ++ [.cells 0 (cR x), .amap (sents ks)], T⟩ := fun hi =>
    ⟨1, _, ks, rfl, rfl, rfl, perm_of_mem h.nd cset_nodup fun j => by rw [cset_mem, hi j]; exact ⟨fun hj => ⟨by have := h.le j hj; omega, hj⟩, fun hj => hj.2⟩⟩
  refine RCall.of_wset (fn := Tryz.f40) (Γ := gam [(56, .pure iSz), (61, .raw iOne), (62, .raw iCopy), (63, .raw iClone), (40, .raw (iBh n)), (64, .raw (iMo n))]) (mu := false) hs (Sound.pure iSz_call (Sound.raw iOne_call (Sound.raw iCopy_call (Sound.raw iClone_call (Sound.raw ih (Sound.raw (iMo_call n ih) Sound.nil)))))) mixed Tryz.func40 rfl (by kernel_rfl) (by simp) (by kernel_rfl) ?_
  rcases hr.cases with ⟨k1, hl⟩ | ⟨k2, _, hl⟩ | ⟨k34, _, hl2⟩ | ⟨k5, _, htm, y, hl⟩
  · simp (disch := first | assumption | omega | exact okR_new | exact okR_one | exact trivial | (simp only [lnA, lnC, lnN]; omega) | (simp only [lnA, lnC, lnN, Nat.reduceAdd])) only [go_sem, e_go, e_cond_bool, e_w_bool, e_step_ite, e_reg_ite, e_regW_ite, e_code_ite, e_block_ite, e_evQ_ite, e_fin_ite, e_pair_ite, Tryz.f40, iSz_eq, iOne_eq, iCopy_eq, iClone_eq, l_s_cR, hk0, k1, hcl]
    exact hsame fun j => by simp only [Im, R_k1 k1]; exact ⟨fun ⟨i, h1, h2⟩ => h2 ▸ h1, fun hj => ⟨j, hj, rfl⟩⟩
  · have hone := hone k2
    simp (disch := first | assumption | omega | exact okR_new | exact okR_one | exact trivial | (simp only [lnA, lnC, lnN]; omega) | (simp only [lnA, lnC, lnN, Nat.reduceAdd])) only [go_sem, e_go, e_cond_bool, e_w_bool, e_step_ite, e_reg_ite, e_regW_ite, e_code_ite, e_block_ite, e_evQ_ite, e_fin_ite, e_pair_ite, Tryz.f40, iSz_eq, iOne_eq, iCopy_eq, iClone_eq, l_s_cR, hk0, k2, hk1, hone]
    exact ⟨1, _, _, rfl, rfl, rfl, .refl _⟩
  · rcases k34 with k3 | k4
    · simp (disch := first | assumption | omega | exact okR_new | exact okR_one | exact trivial | (simp only [lnA, lnC, lnN]; omega) | (simp only [lnA, lnC, lnN, Nat.reduceAdd])) only [go_sem, e_go, e_cond_bool, e_w_bool, e_step_ite, e_reg_ite, e_regW_ite, e_code_ite, e_block_ite, e_evQ_ite, e_fin_ite, e_pair_ite, Tryz.f40, iSz_eq, iOne_eq, iCopy_eq, iClone_eq, l_s_cR, hk0, k3, hk7]
      refine w_loop [] [2, 28] (fun z : Nat × Nat × List Nat × List ABlk => x.l.length - z.1)
        (fun z => z.1 ≤ x.l.length ∧ z.2.2.1.Nodup ∧ (∀ j, j ∈ z.2.2.1 ↔ Im (Rall t (x.l.take z.1)) ks j) ∧ (∀ k ∈ z.2.2.1, k ≤ t.length) ∧ (G ++ (.cells 0 (cR x) :: z.2.2.2))[z.2.1]? = some (.amap (sents z.2.2.1)) ∧ (∀ h k, z.2.2.2.all (cloB h k) = true) ∧ (z.1 = 0 ∨ G.length + 1 ≤ z.2.1))
        (fun z => ⟨G ++ (.cells 0 (cR x) :: z.2.2.2), T⟩) (fun z => [(2, .map z.2.1), (28, .int .i64 (z.1 : Nat))]) (0, b, ks, []) (fun _ => rfl) (by kernel_rfl)
        ⟨Nat.zero_le _, h.nd, fun j => by simp [Im, Rall], h.le, by rw [m_at hbl]; exact h.at_, fun _ _ => rfl, .inl rfl⟩ rfl (by simp [HasE, lk]) ?_
      rintro ⟨i, nb, ns, Lb⟩ ⟨h1, h2, h3, h4, h5, h6, h7⟩
      simp only at h1 h2 h3 h4 h5 h6 h7
      by_cases hi : i < x.l.length
      · have hg : x.l[i]? = some x.l[i] := by simp [hi]
        have hat := fl_at cR_len hg
        have hle : i * 8 + 8 ≤ x.l.length * 8 := by omega
        have hsh : shut ⟨G ++ .cells 0 (cR x) :: (Lb ++ [.cells 0 (cR x.l[i])]), T⟩ = true := shut_one hs fun q _ => by simp only [List.all_cons, List.all_append, cR_clo0, h6, List.all_nil, Bool.and_true]
        have h5' : (G ++ .cells 0 (cR x) :: (Lb ++ [.cells 0 (cR x.l[i])]))[nb]? = some (.amap (sents ns)) := by
          have := (List.getElem?_eq_some_iff.1 h5).1
          rw [← List.cons_append, ← List.append_assoc, List.getElem?_append_left this]
          exact h5
        have hw : IntKind.i64.wrap ((i : Int) + 1) = (i : Int) + 1 := IntWalk.i64_in _ (by have := hx.len; omega)
        have hB := iBh_eq (n := n) (x := x.l[i]) (T := T) (p := p) (b := nb) (t := t) (ks := ns) (G := G ++ .cells 0 (cR x) :: (Lb ++ [.cells 0 (cR x.l[i])])) ⟨by rw [m_at hpl]; exact h.tx, h5', h2, h.len, h4, hsh⟩ (hx.kid hg) (hr.kid (List.getElem_mem hi)) (by have := sz_kid hg; omega)
        have e0 : (G ++ ABlk.cells 0 (cR x) :: (Lb ++ [ABlk.cells 0 (cR x.l[i])])).length = G.length + (Lb.length + 2) := by simp
        have e1 : G ++ ABlk.cells 0 (cR x) :: (Lb ++ [ABlk.cells 0 (cR x.l[i])]) ++ [ABlk.amap (sents (cset (t.length + 1) (Im (R t x.l[i]) ns)))] = G ++ ABlk.cells 0 (cR x) :: (Lb ++ [ABlk.cells 0 (cR x.l[i]), ABlk.amap (sents (cset (t.length + 1) (Im (R t x.l[i]) ns)))]) := by simp
        rw [e0, e1] at hB
        simp (disch := first | assumption | omega | exact okR_new | exact okR_one | exact trivial | (simp only [lnA, lnC, lnN]; omega) | (simp only [lnA, lnC, lnN, Nat.reduceAdd])) only [go_sem, e_go, e_cond_bool, e_w_bool, e_step_ite, e_reg_ite, e_regW_ite, e_code_ite, e_block_ite, e_evQ_ite, e_fin_ite, e_pair_ite, Tryz.f40, iSz_eq, iOne_eq, iCopy_eq, iClone_eq, l_s_cR, hk0, k3, hk7, hat, hB, hw]
        have hsn : x.l.take (i + 1) = x.l.take i ++ [x.l[i]] := List.take_succ_eq_append_getElem hi
        exact ⟨(i + 1, G.length + (Lb.length + 2), cset (t.length + 1) (Im (R t x.l[i]) ns), Lb ++ [.cells 0 (cR x.l[i]), .amap (sents (cset (t.length + 1) (Im (R t x.l[i]) ns)))]), dn hi, ⟨hi, cset_nodup, fun j => by rw [cset_le h4, hsn, Im_all h3], fun k hk => Im_le h4 ((cset_le h4).1 hk), by simp [m_own], fun a c => by simp only [List.all_append, h6, List.all_cons, cR_clo0, sents_cloB, List.all_nil, Bool.and_true], .inr (show G.length + 1 ≤ G.length + (Lb.length + 2) by omega)⟩, rfl, by simp [HasE, lk, hw]⟩
      · have hi' : i = x.l.length := by omega
        subst hi'
        simp (disch := first | assumption | omega | exact okR_new | exact okR_one | exact trivial | (simp only [lnA, lnC, lnN]; omega) | (simp only [lnA, lnC, lnN, Nat.reduceAdd])) only [go_sem, e_go, e_cond_bool, e_w_bool, e_step_ite, e_reg_ite, e_regW_ite, e_code_ite, e_block_ite, e_evQ_ite, e_fin_ite, e_pair_ite, Tryz.f40, iSz_eq, iOne_eq, iCopy_eq, iClone_eq, l_s_cR, hk0, k3, hk7]
        have hnb : G.length + 1 ≤ nb := by rcases h7 with h7 | h7; omega; exact h7
        obtain ⟨j, rfl⟩ : ∃ j, nb = G.length + j := ⟨nb - G.length, by omega⟩
        rw [m_own] at h5
        exact ⟨j, _, ns, rfl, rfl, h5, perm_of_mem h2 cset_nodup fun j => by
          rw [cset_le h.le, h3 j, List.take_length]
          simp only [Im, R_k3 k3]⟩
    · simp (disch := first | assumption | omega | exact okR_new | exact okR_one | exact trivial | (simp only [lnA, lnC, lnN]; omega) | (simp only [lnA, lnC, lnN, Nat.reduceAdd])) only [go_sem, e_go, e_cond_bool, e_w_bool, e_step_ite, e_reg_ite, e_regW_ite, e_code_ite, e_block_ite, e_evQ_ite, e_fin_ite, e_pair_ite, Tryz.f40, iSz_eq, iOne_eq, iCopy_eq, iClone_eq, l_s_cR, hk0, k4, hk7]
      refine w_loopc [] [44] (fun z : Nat × List Nat => x.l.length - z.1) (fun z => z.1 ≤ x.l.length ∧ z.2.Nodup ∧ (∀ j, j ∈ z.2 ↔ Im (Rany t (x.l.take z.1)) ks j))
        (fun z => ⟨G ++ [.cells 0 (cR x), .amap (sents z.2)], T⟩) (fun z => [(44, .int .i64 (z.1 : Nat))]) (0, []) (fun _ => rfl) (by kernel_rfl)
        ⟨Nat.zero_le _, List.nodup_nil, fun j => by simp [Im, Rany]⟩ ⟨[], [], by simp [sents]⟩ (by simp [HasE, lk]) ?_ ?_
      · intro z hz
        have hsl : ∀ A B, cloL A B [slc cR x.l] = true := fun A B => by simp [cloL, clo, slc, cloR, c_flR]
        have hsl2 : ∀ A B, clo A B (slc cR x.l) = true := fun A B => by simp [clo, slc, cloR, c_flR]
        refine ⟨shut_one hs fun q _ => by simp only [List.all_cons, cR_clo0, sents_cloB, List.all_nil, Bool.and_true], rfl, ?_⟩
        simp [cloE, clo, hsl2, c_rV, cloR, c_flR]
        omega
      rintro ⟨i, os⟩ ⟨h1, h2, h3⟩
      simp only at h1 h2 h3
      by_cases hi : i < x.l.length
      · have hg : x.l[i]? = some x.l[i] := by simp [hi]
        have hat := fl_at cR_len hg
        have hle : i * 8 + 8 ≤ x.l.length * 8 := by omega
        have hw : IntKind.i64.wrap ((i : Int) + 1) = (i : Int) + 1 := IntWalk.i64_in _ (by have := hx.len; omega)
        have hsh : ∀ L : List ABlk, (∀ q, L.all (cloB q T.length) = true) → shut ⟨G ++ L, T⟩ = true := fun L hL => shut_one hs fun q _ => hL q
        obtain ⟨S, hS⟩ : ∃ S, cset (t.length + 1) (Im (R t x.l[i]) ks) = S := ⟨_, rfl⟩
        have hB := iBh_eq (n := n) (x := x.l[i]) (T := T) (p := p) (b := b) (t := t) (ks := ks) (G := G ++ [.cells 0 (cR x), .amap (sents os), .cells 0 (cR x.l[i])]) ⟨by rw [m_at hpl]; exact h.tx, by rw [m_at hbl]; exact h.at_, h.nd, h.len, h.le, hsh _ fun q => by simp only [List.all_cons, cR_clo0, sents_cloB, List.all_nil, Bool.and_true]⟩ (hx.kid hg) (hr.kid (List.getElem_mem hi)) (by have := sz_kid hg; omega)
        have e0 : (G ++ [ABlk.cells 0 (cR x), .amap (sents os), .cells 0 (cR x.l[i])]).length = G.length + 3 := by simp
        have e1 : G ++ [ABlk.cells 0 (cR x), .amap (sents os), .cells 0 (cR x.l[i])] ++ [.amap (sents S)] = G ++ [.cells 0 (cR x), .amap (sents os), .cells 0 (cR x.l[i]), .amap (sents S)] := by simp
        rw [hS, e0, e1] at hB
        have hC : iCopy [.map (G.length + 1), .map (G.length + 3)] ⟨G ++ [.cells 0 (cR x), .amap (sents os), .cells 0 (cR x.l[i]), .amap (sents S)], T⟩ = some (.undef, ⟨G ++ [.cells 0 (cR x), .amap (sents (uni os S)), .cells 0 (cR x.l[i]), .amap (sents S)], T⟩) := by
          have := iCopy_eq (G := G ++ [.cells 0 (cR x), .amap (sents os), .cells 0 (cR x.l[i]), .amap (sents S)]) (T := T) (d := G.length + 1) (s := G.length + 3) (os := os) (ks := S) ⟨by rw [m_own]; rfl, by rw [m_own]; rfl, by omega, by rw [noIt_app, noIt_shut hs (by omega)]; rfl, h2, by rw [← hS]; exact cset_nodup, hsh _ fun q => by simp only [List.all_cons, cR_clo0, sents_cloB, List.all_nil, Bool.and_true]⟩
          rw [this, m_put]; rfl
        simp (disch := first | assumption | omega | exact okR_new | exact okR_one | exact trivial | (simp only [lnA, lnC, lnN]; omega) | (simp only [lnA, lnC, lnN, Nat.reduceAdd])) only [go_sem, e_go, e_cond_bool, e_w_bool, e_step_ite, e_reg_ite, e_regW_ite, e_code_ite, e_block_ite, e_evQ_ite, e_fin_ite, e_pair_ite, Tryz.f40, iSz_eq, iOne_eq, iCopy_eq, iClone_eq, l_s_cR, hk0, k4, hk7, hat, hB, hC, hw]
        have hsn : x.l.take (i + 1) = x.l.take i ++ [x.l[i]] := List.take_succ_eq_append_getElem hi
        refine ⟨(i + 1, uni os S), dn hi, ⟨hi, uni_nodup h2, fun j => ?_⟩, ⟨[.cells 0 (cR x.l[i]), .amap (sents S)], [], by simp⟩, by simp [HasE, lk, hw]⟩
        rw [uni_mem, h3 j, ← hS, cset_le h.le, hsn]
        simp only [Im, Rany_snoc]
        constructor
        · rintro (⟨a, b, c⟩ | ⟨a, b, c⟩)
          · exact ⟨a, b, .inl c⟩
          · exact ⟨a, b, .inr c⟩
        · rintro ⟨a, b, c | c⟩
          · exact .inl ⟨a, b, c⟩
          · exact .inr ⟨a, b, c⟩
      · have hi' : i = x.l.length := by omega
        subst hi'
        simp (disch := first | assumption | omega | exact okR_new | exact okR_one | exact trivial | (simp only [lnA, lnC, lnN]; omega) | (simp only [lnA, lnC, lnN, Nat.reduceAdd])) only [go_sem, e_go, e_cond_bool, e_w_bool, e_step_ite, e_reg_ite, e_regW_ite, e_code_ite, e_block_ite, e_evQ_ite, e_fin_ite, e_pair_ite, Tryz.f40, iSz_eq, iOne_eq, iCopy_eq, iClone_eq, l_s_cR, hk0, k4, hk7]
        exact ⟨1, _, os, rfl, rfl, rfl, perm_of_mem h2 cset_nodup fun j => by
          rw [cset_le h.le, h3 j, List.take_length]
          simp only [Im, R_k4 k4]⟩
  · have hg : x.l[0]? = some y := by rw [hl]; rfl
    have hy : y ∈ x.l := by rw [hl]; simp
    have hlen : x.l.length = 1 := by rw [hl]; rfl
    have hat := fl_at cR_len hg
    have hoky := hx.mem hy
    have hry := hr.kid hy
    have hszy : sz y < n := by have := sz_mem hy; omega
    simp only [times, Bool.and_eq_true, Bool.or_eq_true, decide_eq_true_eq] at htm
    obtain ⟨⟨hlo0, hlo⟩, hhi⟩ := htm
    by_cases hsz : size x = 0
    · simp (disch := first | assumption | omega | exact okR_new | exact okR_one | exact trivial | (simp only [lnA, lnC, lnN]; omega) | (simp only [lnA, lnC, lnN, Nat.reduceAdd])) only [go_sem, e_go, e_cond_bool, e_w_bool, e_step_ite, e_reg_ite, e_regW_ite, e_code_ite, e_block_ite, e_evQ_ite, e_fin_ite, e_pair_ite, Tryz.f40, iSz_eq, iOne_eq, iCopy_eq, iClone_eq, l_s_cR, hk0, k5, hk7, hsz, hcl]
      exact hsame fun j => by simp only [Im, R_k5 k5 hl, hsz, if_true]; exact ⟨fun ⟨i, h1, h2⟩ => h2 ▸ h1, fun hj => ⟨j, hj, rfl⟩⟩
    · simp (disch := first | assumption | omega | exact okR_new | exact okR_one | exact trivial | (simp only [lnA, lnC, lnN]; omega) | (simp only [lnA, lnC, lnN, Nat.reduceAdd])) only [go_sem, e_go, e_cond_bool, e_w_bool, e_step_ite, e_reg_ite, e_regW_ite, e_code_ite, e_block_ite, e_evQ_ite, e_fin_ite, e_pair_ite, Tryz.f40, iSz_eq, iOne_eq, iCopy_eq, iClone_eq, l_s_cR, hk0, k5, hk7, hsz, hk5]
      refine w_loop [] [2, 65] (fun z : Nat × Nat × List Nat × List (List Nat) => x.lo.toNat - z.1)
        (fun z => z.1 ≤ x.lo.toNat ∧ z.2.2.1.Nodup ∧ (∀ j, j ∈ z.2.2.1 ↔ Im (iter (R t y) z.1) ks j) ∧ (∀ k ∈ z.2.2.1, k ≤ t.length) ∧ (G ++ (.cells 0 (cR x) :: mps z.2.2.2))[z.2.1]? = some (.amap (sents z.2.2.1)))
        (fun z => ⟨G ++ (.cells 0 (cR x) :: mps z.2.2.2), T⟩) (fun z => [(2, .map z.2.1), (65, .int .i64 (z.1 : Nat))]) (0, b, ks, []) (fun _ => rfl) (by kernel_rfl)
        ⟨Nat.zero_le _, h.nd, fun j => by simp [Im, iter], h.le, by rw [m_at hbl]; exact h.at_⟩ rfl (by simp [HasE, lk]) ?_
      rintro ⟨i, nb, ns, Ls⟩ ⟨h1, h2, h3, h4, h5⟩
      simp only at h1 h2 h3 h4 h5
      have hsh : ∀ L : List ABlk, (∀ q, L.all (cloB q T.length) = true) → shut ⟨G ++ L, T⟩ = true := fun L hL => shut_one hs fun q _ => hL q
      have hk70 : List.take 8 (fl cR x.l) = cR y := by
        rw [hl, fl_cons]
        exact List.take_left' (cR_len y)
      have h5' : ∀ B : List ABlk, (G ++ .cells 0 (cR x) :: (mps Ls ++ B))[nb]? = some (.amap (sents ns)) := fun B => by
        have := (List.getElem?_eq_some_iff.1 h5).1
        rw [← List.cons_append, ← List.append_assoc, List.getElem?_append_left this]
        exact h5
      by_cases hi : i < x.lo.toNat
      · have hd0 : decide ((i : Int) < x.lo) = true := by simp; omega
        have hw : IntKind.i64.wrap ((i : Int) + 1) = (i : Int) + 1 := IntWalk.i64_in _ (by omega)
        have hB := iBh_eq (n := n) (x := y) (T := T) (p := p) (b := nb) (t := t) (ks := ns) (G := G ++ .cells 0 (cR x) :: mps Ls) ⟨by rw [m_at hpl]; exact h.tx, h5, h2, h.len, h4, hsh _ fun q => by simp only [List.all_cons, cR_clo0, mps_clo, Bool.and_true]⟩ hoky hry hszy
        have e1 : G ++ .cells 0 (cR x) :: mps Ls ++ [.amap (sents (cset (t.length + 1) (Im (R t y) ns)))] = G ++ .cells 0 (cR x) :: mps (Ls ++ [cset (t.length + 1) (Im (R t y) ns)]) := by rw [mps_app]; simp
        have e0 : (G ++ ABlk.cells 0 (cR x) :: mps Ls).length = G.length + (Ls.length + 1) := by simp [mps_len]
        rw [e0, e1] at hB
        simp (disch := first | assumption | omega | exact okR_new | exact okR_one | exact trivial | (simp only [lnA, lnC, lnN]; omega) | (simp only [lnA, lnC, lnN, Nat.reduceAdd])) only [go_sem, e_go, e_cond_bool, e_w_bool, e_step_ite, e_reg_ite, e_regW_ite, e_code_ite, e_block_ite, e_evQ_ite, e_fin_ite, e_pair_ite, Tryz.f40, iSz_eq, iOne_eq, iCopy_eq, iClone_eq, l_s_cR, hk0, k5, hk7, hk70, hd0, hw, hlen, hB]
        exact ⟨(i + 1, G.length + (Ls.length + 1), cset (t.length + 1) (Im (R t y) ns), Ls ++ [cset (t.length + 1) (Im (R t y) ns)]), dn hi, ⟨hi, cset_nodup, fun j => by rw [cset_le h4, Im_iter h3], fun k hk => Im_le h4 ((cset_le h4).1 hk), by simp only [m_own, mps_app, List.getElem?_cons_succ]; rw [List.getElem?_append_right (by rw [mps_len]; exact Nat.le_refl _), mps_len, Nat.sub_self]; rfl⟩, rfl, by simp [HasE, lk, hw]⟩
      · have hi' : i = x.lo.toNat := by omega
        subst hi'
        have hd0 : decide (((x.lo.toNat : Nat) : Int) < x.lo) = false := by simp; omega
        have yk0 : (cR y)[0]? = some (.int .i64 y.k) := by rw [cR_eq]; rfl
        have yk5 : (cR y)[5]? = some (.int .i64 y.lo) := by rw [cR_eq]; rfl
        have yk6 : (cR y)[6]? = some (.int .i64 y.hi) := by rw [cR_eq]; rfl
        have hhi2 : -1 ≤ x.hi ∧ x.hi ≤ 20 := by rcases hhi with hh | hh; omega; have := (imax_le (x := 1) (y := x.lo)).1; omega
        have hw1 : IntKind.i64.wrap (x.hi - x.lo) = x.hi - x.lo := IntWalk.i64_in _ (by omega)
        have hw2 : IntKind.i64.wrap (1 - x.lo) = 1 - x.lo := IntWalk.i64_in _ (by omega)
        have hM : ∀ most, -1 ≤ most → most < 1000 → iMo n [.ptr p 0 0, rV y, .map nb, .int .i64 most] ⟨G ++ .cells 0 (cR x) :: (mps Ls ++ [.cells 0 (cR y)]), T⟩ = some (.map (G.length + (Ls.length + 2)), ⟨G ++ .cells 0 (cR x) :: (mps Ls ++ [.cells 0 (cR y), .amap (sents (cset (t.length + 1) (Upto (R t y) ns most)))]), T⟩) := fun most m1 m2 => by
          have := iMo_eq (n := n) (x := y) (T := T) (p := p) (b := nb) (t := t) (ks := ns) (G := G ++ .cells 0 (cR x) :: (mps Ls ++ [.cells 0 (cR y)])) (most := most) ⟨by rw [m_at hpl]; exact h.tx, h5' _, h2, h.len, h4, hsh _ fun q => by simp only [List.all_cons, List.all_append, cR_clo0, mps_clo, List.all_nil, Bool.and_true]⟩ hoky hry hszy m1 m2
          rw [this]
          simp [mps_len]
        have hfin : ∀ most, (∀ q : Nat, (most < 0 ∨ (q : Int) ≤ most) ↔ upTo (Hk.more x.lo x.hi y) q) → SetOf G T (cset (t.length + 1) (Im (R t x) ks)) (.map (G.length + (Ls.length + 2))) ⟨G ++ .cells 0 (cR x) :: (mps Ls ++ [.cells 0 (cR y), .amap (sents (cset (t.length + 1) (Upto (R t y) ns most)))]), T⟩ := fun most hq =>
          ⟨Ls.length + 2, _, cset (t.length + 1) (Upto (R t y) ns most), rfl, rfl, by rw [List.getElem?_cons_succ, List.getElem?_append_right (by rw [mps_len]; omega), mps_len]; simp, by
            have e : cset (t.length + 1) (Upto (R t y) ns most) = cset (t.length + 1) (Im (R t x) ks) := cset_congr fun j _ => by
              rw [Im_upto hq h3]
              simp only [Im, R_k5 k5 hl, hsz, if_false]
            rw [e]⟩
        by_cases c1 : 0 ≤ x.hi
        · have hmx := imax_le (x := 1) (y := x.lo)
          have hM1 := hM (x.hi - x.lo) (by rcases hhi with hh | hh <;> omega) (by omega)
          simp (disch := first | assumption | omega | exact okR_new | exact okR_one | exact trivial | (simp only [lnA, lnC, lnN]; omega) | (simp only [lnA, lnC, lnN, Nat.reduceAdd])) only [go_sem, e_go, e_cond_bool, e_w_bool, e_step_ite, e_reg_ite, e_regW_ite, e_code_ite, e_block_ite, e_evQ_ite, e_fin_ite, e_pair_ite, Tryz.f40, iSz_eq, iOne_eq, iCopy_eq, iClone_eq, l_s_cR, hk0, k5, hk7, hk70, hd0, hlen, hk5, hk6, hw1, hM1]
          exact hfin _ fun q => by simp only [Hk.more, c1, if_true, upTo]; rcases hhi with hh | hh <;> omega
        · by_cases c2 : y.k = 5
          · by_cases c3 : y.hi < 0
            · by_cases c4 : y.lo ≤ 1
              · have hM1 := hM (imax 0 (1 - x.lo)) (by have := imax_le (x := 0) (y := 1 - x.lo); omega) (by have := imax_le (x := 0) (y := 1 - x.lo); omega)
                simp (disch := first | assumption | omega | exact okR_new | exact okR_one | exact trivial | (simp only [lnA, lnC, lnN]; omega) | (simp only [lnA, lnC, lnN, Nat.reduceAdd])) only [go_sem, e_go, e_cond_bool, e_w_bool, e_step_ite, e_reg_ite, e_regW_ite, e_code_ite, e_block_ite, e_evQ_ite, e_fin_ite, e_pair_ite, Tryz.f40, iSz_eq, iOne_eq, iCopy_eq, iClone_eq, l_s_cR, hk0, k5, hk7, hk70, hd0, hlen, hk5, hk6, hw2, hM1, yk0, yk5, yk6, c2]
                exact hfin _ fun q => by simp only [Hk.more, c1, if_false, loopy, c2, c3, c4, decide_true, Bool.and_self, if_true, upTo]; have := imax_le (x := 0) (y := 1 - x.lo); omega
              · have hM1 := hM (-1) (by omega) (by omega)
                simp (disch := first | assumption | omega | exact okR_new | exact okR_one | exact trivial | (simp only [lnA, lnC, lnN]; omega) | (simp only [lnA, lnC, lnN, Nat.reduceAdd])) only [go_sem, e_go, e_cond_bool, e_w_bool, e_step_ite, e_reg_ite, e_regW_ite, e_code_ite, e_block_ite, e_evQ_ite, e_fin_ite, e_pair_ite, Tryz.f40, iSz_eq, iOne_eq, iCopy_eq, iClone_eq, l_s_cR, hk0, k5, hk7, hk70, hd0, hlen, hk5, hk6, hw2, hM1, yk0, yk5, yk6, c2]
                exact hfin _ fun q => by simp [Hk.more, c1, loopy, c4, upTo]
            · have hM1 := hM (-1) (by omega) (by omega)
              simp (disch := first | assumption | omega | exact okR_new | exact okR_one | exact trivial | (simp only [lnA, lnC, lnN]; omega) | (simp only [lnA, lnC, lnN, Nat.reduceAdd])) only [go_sem, e_go, e_cond_bool, e_w_bool, e_step_ite, e_reg_ite, e_regW_ite, e_code_ite, e_block_ite, e_evQ_ite, e_fin_ite, e_pair_ite, Tryz.f40, iSz_eq, iOne_eq, iCopy_eq, iClone_eq, l_s_cR, hk0, k5, hk7, hk70, hd0, hlen, hk5, hk6, hw2, hM1, yk0, yk5, yk6, c2]
              exact hfin _ fun q => by simp [Hk.more, c1, loopy, c3, upTo]
          · have hM1 := hM (-1) (by omega) (by omega)
            have c2' : decide (y.k = 5) = false := by simp [c2]
            simp (disch := first | assumption | omega | exact okR_new | exact okR_one | exact trivial | (simp only [lnA, lnC, lnN]; omega) | (simp only [lnA, lnC, lnN, Nat.reduceAdd])) only [go_sem, e_go, e_cond_bool, e_w_bool, e_step_ite, e_reg_ite, e_regW_ite, e_code_ite, e_block_ite, e_evQ_ite, e_fin_ite, e_pair_ite, Tryz.f40, iSz_eq, iOne_eq, iCopy_eq, iClone_eq, l_s_cR, hk0, k5, hk7, hk70, hd0, hlen, hk5, hk6, hw2, hM1, yk0, yk5, yk6, c2']
            exact hfin _ fun q => by simp [Hk.more, c1, loopy, c2, upTo]
theorem iBh_call : ∀ (n : Nat) xs m v m', iBh n xs m = some (v, m') → RCall Tryz.prog 40 xs m v m' := by
  intro n
  induction n with
  | zero =>
    intro xs m v m' h0
    obtain ⟨G, T, p, b, t, ks, x, ⟨hP, hx, hr, hn⟩, rfl, rfl, rfl, rfl⟩ := rimp_spec h0
    exact absurd hn (Nat.not_lt_zero _)
  | succ n ih =>
    intro xs m v m' h0
    obtain ⟨G, T, p, b, t, ks, x, ⟨hP, hx, hr, hn⟩, rfl, rfl, rfl, rfl⟩ := rimp_spec h0
    exact w_behind n ih G T p b t ks x hP hx hr (by omega)
end Go.Hk.MZ
namespace Go.Hk.MZ
open Go.Proofs Go.RowKit Go.Maps Go.Sort Go.Shelf
def keysL_ren : Go.Shelf.Ren := ⟨fun | 7 => 39 | 10 => 60 | n => n, fun | 23 => 88 | 26 => 3 | 3 => 89 | 28 => 85 | 0 => 0 | 27 => 84 | 33 => 97 | 4 => 4 | n => n, fun | n => n⟩
theorem keysL : Go.Proofs.SlLaysZI.n7 Tryz.prog keysL_ren where
  mixed := by kernel_rfl
  f7 := ⟨Tryz.f39.name, by decide, Tryz.func39.trans (congrArg some (by kernel_rfl))⟩
  f10 := ⟨Tryz.f60.name, by decide, Tryz.func60.trans (congrArg some (by kernel_rfl))⟩
  t0 := Tryz.underlying0
  a0 := Tryz.isAgg0
  z0 := Tryz.sizeOf0
  v0 := Tryz.zeroValue0
  t4 := Tryz.underlying4
  a4 := Tryz.isAgg4
  z4 := Tryz.sizeOf4
  v4 := Tryz.zeroValue4
  t23 := Tryz.underlying88
  a23 := Tryz.isAgg88
  z23 := Tryz.sizeOf88
  v23 := Tryz.zeroValue88
  t26 := Tryz.underlying3
  a26 := Tryz.isAgg3
  z26 := Tryz.sizeOf3
  v26 := Tryz.zeroValue3
  t27 := Tryz.underlying84
  a27 := Tryz.isAgg84
  z27 := Tryz.sizeOf84
  v27 := Tryz.zeroValue84
  t28 := Tryz.underlying85
  a28 := Tryz.isAgg85
  z28 := Tryz.sizeOf85
  v28 := Tryz.zeroValue85
  t33 := Tryz.underlying97
  a33 := Tryz.isAgg97
  z33 := Tryz.sizeOf97
  v33 := Tryz.zeroValue97
def sortedL_ren : Go.Shelf.Ren := ⟨fun | 6 => 38 | 8 => 58 | 9 => 59 | 11 => 78 | 13 => 80 | 12 => 79 | 23 => 104 | 24 => 105 | 14 => 95 | 15 => 96 | 16 => 97 | 17 => 98 | 18 => 99 | 19 => 100 | 20 => 101 | 21 => 102 | 22 => 103 | 25 => 108 | 26 => 109 | 27 => 110 | 28 => 111 | 29 => 112 | 30 => 113 | 31 => 114 | n => n, fun | 26 => 3 | 28 => 85 | 24 => 41 | 0 => 0 | 3 => 3 | 37 => 119 | 48 => 138 | 50 => 32 | 4 => 4 | 40 => 131 | 39 => 130 | 45 => 135 | 5 => 5 | 9 => 9 | 51 => 141 | 55 => 145 | 57 => 147 | 58 => 51 | 33 => 97 | n => n, fun | n => n⟩
theorem sortedL : Go.Proofs.SlLaysZI.n6 Tryz.prog sortedL_ren where
  mixed := by kernel_rfl
  f6 := ⟨Tryz.f38.name, by decide, Tryz.func38.trans (congrArg some (by kernel_rfl))⟩
  f8 := ⟨Tryz.f58.name, by decide, Tryz.func58.trans (congrArg some (by kernel_rfl))⟩
  f11 := ⟨Tryz.f78.name, by decide, Tryz.func78.trans (congrArg some (by kernel_rfl))⟩
  t0 := Tryz.underlying0
  a0 := Tryz.isAgg0
  z0 := Tryz.sizeOf0
  v0 := Tryz.zeroValue0
  t24 := Tryz.underlying41
  a24 := Tryz.isAgg41
  z24 := Tryz.sizeOf41
  v24 := Tryz.zeroValue41
  t26 := Tryz.underlying3
  a26 := Tryz.isAgg3
  z26 := Tryz.sizeOf3
  v26 := Tryz.zeroValue3
  t28 := Tryz.underlying85
  a28 := Tryz.isAgg85
  z28 := Tryz.sizeOf85
  v28 := Tryz.zeroValue85
  i26 := by kernel_rfl
def sortL_ren : Go.Shelf.Ren := ⟨fun | 5 => 59 | 8 => 80 | 7 => 79 | 19 => 104 | 20 => 105 | 10 => 95 | 11 => 96 | 12 => 97 | 13 => 98 | 14 => 99 | 15 => 100 | 16 => 101 | 17 => 102 | 18 => 103 | 30 => 108 | 31 => 109 | 32 => 110 | 33 => 111 | 34 => 112 | 35 => 113 | 40 => 114 | n => n, fun | 23 => 41 | 25 => 3 | 3 => 3 | 32 => 119 | 22 => 41 | 0 => 0 | 44 => 138 | 46 => 32 | 4 => 4 | 36 => 131 | 35 => 130 | 41 => 135 | 5 => 5 | 9 => 9 | 53 => 141 | 57 => 145 | 63 => 147 | 64 => 51 | n => n, fun | n => n⟩
theorem sortL : Go.Proofs.SlLaysM.n5 Tryz.prog sortL_ren where
  mixed := by kernel_rfl
  f5 := ⟨Tryz.f59.name, by decide, Tryz.func59.trans (congrArg some (by kernel_rfl))⟩
  f7 := ⟨Tryz.f79.name, by decide, Tryz.func79.trans (congrArg some (by kernel_rfl))⟩
  f8 := Tryz.func80.trans (congrArg some (by kernel_rfl))
  f10 := ⟨Tryz.f95.name, by decide, Tryz.func95.trans (congrArg some (by kernel_rfl))⟩
  f11 := ⟨Tryz.f96.name, by decide, Tryz.func96.trans (congrArg some (by kernel_rfl))⟩
  f12 := ⟨Tryz.f97.name, by decide, Tryz.func97.trans (congrArg some (by kernel_rfl))⟩
  f13 := ⟨Tryz.f98.name, by decide, Tryz.func98.trans (congrArg some (by kernel_rfl))⟩
  f14 := ⟨Tryz.f99.name, by decide, Tryz.func99.trans (congrArg some (by kernel_rfl))⟩
  f15 := ⟨Tryz.f100.name, by decide, Tryz.func100.trans (congrArg some (by kernel_rfl))⟩
  f16 := ⟨Tryz.f101.name, by decide, Tryz.func101.trans (congrArg some (by kernel_rfl))⟩
  f17 := ⟨Tryz.f102.name, by decide, Tryz.func102.trans (congrArg some (by kernel_rfl))⟩
  f18 := ⟨Tryz.f103.name, by decide, Tryz.func103.trans (congrArg some (by kernel_rfl))⟩
  f19 := Tryz.func104.trans (congrArg some (by kernel_rfl))
  f20 := Tryz.func105.trans (congrArg some (by kernel_rfl))
  f30 := ⟨Tryz.f108.name, by decide, Tryz.func108.trans (congrArg some (by kernel_rfl))⟩
  f31 := Tryz.func109.trans (congrArg some (by kernel_rfl))
  f32 := Tryz.func110.trans (congrArg some (by kernel_rfl))
  f33 := ⟨Tryz.f111.name, by decide, Tryz.func111.trans (congrArg some (by kernel_rfl))⟩
  f34 := ⟨Tryz.f112.name, by decide, Tryz.func112.trans (congrArg some (by kernel_rfl))⟩
  f35 := ⟨Tryz.f113.name, by decide, Tryz.func113.trans (congrArg some (by kernel_rfl))⟩
  f40 := ⟨Tryz.f114.name, by decide, Tryz.func114.trans (congrArg some (by kernel_rfl))⟩
  t0 := Tryz.underlying0
  a0 := Tryz.isAgg0
  z0 := Tryz.sizeOf0
  v0 := Tryz.zeroValue0
  t3 := Tryz.underlying3
  a3 := Tryz.isAgg3
  z3 := Tryz.sizeOf3
  v3 := Tryz.zeroValue3
  t4 := Tryz.underlying4
  a4 := Tryz.isAgg4
  z4 := Tryz.sizeOf4
  v4 := Tryz.zeroValue4
  t5 := Tryz.underlying5
  a5 := Tryz.isAgg5
  z5 := Tryz.sizeOf5
  v5 := Tryz.zeroValue5
  t9 := Tryz.underlying9
  a9 := Tryz.isAgg9
  z9 := Tryz.sizeOf9
  v9 := Tryz.zeroValue9
  t22 := Tryz.underlying41
  a22 := Tryz.isAgg41
  z22 := Tryz.sizeOf41
  v22 := Tryz.zeroValue41
  t23 := Tryz.underlying41
  a23 := Tryz.isAgg41
  z23 := Tryz.sizeOf41
  v23 := Tryz.zeroValue41
  t25 := Tryz.underlying3
  a25 := Tryz.isAgg3
  z25 := Tryz.sizeOf3
  v25 := Tryz.zeroValue3
  t32 := Tryz.underlying119
  a32 := Tryz.isAgg119
  z32 := Tryz.sizeOf119
  v32 := Tryz.zeroValue119
  t35 := Tryz.underlying130
  a35 := Tryz.isAgg130
  z35 := Tryz.sizeOf130
  v35 := Tryz.zeroValue130
  t36 := Tryz.underlying131
  a36 := Tryz.isAgg131
  z36 := Tryz.sizeOf131
  v36 := Tryz.zeroValue131
  t41 := Tryz.underlying135
  a41 := Tryz.isAgg135
  z41 := Tryz.sizeOf135
  v41 := Tryz.zeroValue135
  t44 := Tryz.underlying138
  a44 := Tryz.isAgg138
  z44 := Tryz.sizeOf138
  v44 := Tryz.zeroValue138
  t46 := Tryz.underlying32
  a46 := Tryz.isAgg32
  z46 := Tryz.sizeOf32
  v46 := Tryz.zeroValue32
  t53 := Tryz.underlying141
  a53 := Tryz.isAgg141
  z53 := Tryz.sizeOf141
  v53 := Tryz.zeroValue141
  t57 := Tryz.underlying145
  a57 := Tryz.isAgg145
  z57 := Tryz.sizeOf145
  v57 := Tryz.zeroValue145
  t63 := Tryz.underlying147
  a63 := Tryz.isAgg147
  z63 := Tryz.sizeOf147
  v63 := Tryz.zeroValue147
  t64 := Tryz.underlying51
  a64 := Tryz.isAgg51
  z64 := Tryz.sizeOf51
  v64 := Tryz.zeroValue51
theorem sortsL (m : Nat) : AnyZI.SortsIn Tryz.prog sortedL_ren Fence.wide m :=
  ⟨fun blk off cap ss W hH hblk hsz => callsIn_wide.2 (AnyM.slices_Sort_int sortL blk off cap ss W hH hblk hsz),
   fun p cap W => callsIn_wide.2 (AnyM.slices_Sort_int_none sortL p cap W)⟩
end Go.Hk.MZ
namespace Go.Hk.MZ
open Go.Proofs Go.RowKit Go.Maps Go.Sort Go.Shelf
theorem ti84 : tiOf Tryz.prog 84 = some { size := 1, bytes := 8, zero := some (.nilf), k := .func } := by kernel_rfl
attribute [go_sem] ti84
theorem ti85 : tiOf Tryz.prog 85 = some { size := 1, bytes := 8, zero := some (.nilf), k := .func } := by kernel_rfl
attribute [go_sem] ti85
theorem w_Keys (G : List ABlk) (T : List (Nat × (Nat × Nat))) (b : Nat) (hb : b < G.length) (hs : shut ⟨G, T⟩ = true) :
    RCall Tryz.prog 39 [.map b] ⟨G, T⟩ (.fn 60 [] [.ptr G.length 0 0]) ⟨G ++ [.cells 0 [.map b]], T⟩ := by
  refine RCall.of_w (fn := Tryz.f39) (Γ := gam []) (mu := false) (by simp) (by simp) Sound.nil mixed Tryz.func39 rfl (by kernel_rfl) (by simp) (by kernel_rfl) ?_
  simp (disch := first | assumption | omega | exact okR_new | exact okR_one | exact trivial | (simp only [lnA, lnC, lnN]; omega) | (simp only [lnA, lnC, lnN, Nat.reduceAdd])) only [go_sem, e_go, e_cond_bool, e_w_bool, e_step_ite, e_reg_ite, e_regW_ite, e_code_ite, e_block_ite, e_evQ_ite, e_fin_ite, e_pair_ite, Tryz.f39]
  exact .inl rfl
noncomputable def iKeys : List AVal → AMem → Option (AVal × AMem) := rimp fun xs m r m' => ∃ (G : List ABlk) (T : List (Nat × (Nat × Nat))) (b : Nat), (b < G.length ∧ shut ⟨G, T⟩ = true) ∧ xs = [.map b] ∧ m = ⟨G, T⟩ ∧ r = .fn 60 [] [.ptr G.length 0 0] ∧ m' = ⟨G ++ [.cells 0 [.map b]], T⟩
theorem iKeys_eq {G : List ABlk} {T : List (Nat × (Nat × Nat))} {b : Nat} (h : b < G.length ∧ shut ⟨G, T⟩ = true) : iKeys [.map b] ⟨G, T⟩ = some (.fn 60 [] [.ptr G.length 0 0], ⟨G ++ [.cells 0 [.map b]], T⟩) := rimp_eq ⟨G, T, b, h, rfl, rfl, rfl, rfl⟩ (by rintro _ _ ⟨G', T', b', h', e, em, rfl, rfl⟩; cases em; cases e; exact ⟨rfl, rfl⟩)
theorem iKeys_call : ∀ xs m v m', iKeys xs m = some (v, m') → RCall Tryz.prog 39 xs m v m' := fun xs m v m' h0 => by obtain ⟨G, T, b, h, rfl, rfl, rfl, rfl⟩ := rimp_spec h0; exact w_Keys G T b h.1 h.2
theorem w_Sorted (G : List ABlk) (T : List (Nat × (Nat × Nat))) (c b : Nat) (ks : List Nat) (hc : G[c]? = some (.cells 0 [.map b])) (hb : G[b]? = some (.amap (sents ks))) (hn : ks.Nodup) (hl : ks.length < 1000000) (hk : ∀ k ∈ ks, k < 1000000) :
    RCall Tryz.prog 38 [.fn 60 [] [.ptr c 0 0]] ⟨G, T⟩ (slc cI ((ks.map fun k : Nat => (k : Int)).mergeSort fun x y => decide (x ≤ y))) ⟨G, T⟩ := by
  refine ⟨by kernel_rfl, fun γ vals hr hS hv => ?_⟩
  obtain ⟨hsz, hv⟩ := hv
  have h0 := hv 0 (by simp)
  have hvals := vals_one (by simpa using hsz)
  simp only [List.getElem_cons_zero] at h0
  generalize vals.getD 0 undef = u at *
  subst hvals
  have hc : γ.S.H[c]? = some (.cells 0 [.map b]) := by rw [hS]; exact hc
  have hb : γ.S.H[b]? = some (.amap (sents ks)) := by rw [hS]; exact hb
  cases h0 with
  | fn _ _ _ xs ys g1 g2 hx hy =>
    have hxs : xs = #[] := Array.eq_empty_of_size_eq_zero (by simpa using g1)
    have hys := vals_one (by simpa using g2)
    have hy0 := hy 0 (by simp)
    simp only [List.getElem_cons_zero] at hy0
    generalize ys.getD 0 undef = q at *
    subst hxs
    subst hys
    have hq := ptr_at hc rfl hy0
    subst hq
    obtain ⟨arr, ty, k1, k2, k3, k4, k5⟩ := hr.cells c 0 [.map b] hc
    have hm0 := k4 0 (by simp)
    simp only [List.getElem_cons_zero] at hm0
    have ha0 : arr[0]? = some (arr.getD 0 undef) := by
      have : 0 < arr.size := k2
      simp [Array.getD, this]
    have hmv : arr.getD 0 undef = .map (some (γ.ι.h b)) := by
      generalize arr.getD 0 undef = z at hm0
      cases hm0 with
      | map _ g cc hblk =>
        obtain ⟨y, hy1, _, hy2⟩ := hblk
        rw [hb] at hy1
        cases hy1
        rw [(hy2 rfl).1]
    have hcell : γ.w.cell? ⟨γ.ι.h c, 0, none⟩ = some (.map (some (γ.ι.h b))) := by
      simp only [World.cell?, k1]
      rw [← hmv]
      simpa using ha0
    have hlt : γ.ι.h c < γ.w.heap.size := (Array.getElem?_eq_some_iff.1 k1).1
    obtain ⟨D0, hown, hperm, hsize⟩ := set_owned (P := Tryz.prog) (kt := 3) Tryz.underlying3 hr hb hn hl hk
    have hseq : SeqGives Fence.wide 2 Tryz.prog 60 #[.pointer (some ⟨γ.ι.h c, 0, none⟩)] encZ (fun ss => ss.Perm (intKeys D0)) (Maps.size D0) γ.w :=
      AnyZI.keys_gives (ρ := keysL_ren) { keysL with } Fence.wide _ trivial rfl (by omega) (γ.ι.h c) (γ.ι.h b) ks.length D0 γ.w hlt hcell hown
    have hml : 1000000 ≤ maxLen := by decide
    have cS := AnyZI.sorted_in sortedL Fence.wide 5 trivial trivial trivial trivial rfl (by omega) (sortsL _) (enters_of Tryz.func59 (by kernel_rfl) rfl) 60 #[.pointer (some ⟨γ.ι.h c, 0, none⟩)] trivial (enters_of Tryz.func60 (by kernel_rfl) rfl) _ _ (by rw [hsize]; omega) (by rw [hsize]; omega) γ.w hseq
    refine (callsIn_wide.1 cS).mono ?_
    rintro e w' ⟨v, ss, rfl, hP, hrow, hnil, hbel⟩
    have hL : ss.mergeSort (fun x y => decide (x ≤ y)) = (ks.map fun k : Nat => (k : Int)).mergeSort fun x y => decide (x ≤ y) := mergeSort_of_perm_i (hP.trans hperm)
    rw [hL] at hrow
    obtain ⟨r1, r2, r3⟩ := told_row hr hbel hrow
    exact ⟨v, { γ with w := w' }, rfl, rfl, hS, r2, r1, r3⟩
noncomputable def iSo : List AVal → AMem → Option (AVal × AMem) := rimp fun xs m r m' => ∃ (G : List ABlk) (T : List (Nat × (Nat × Nat))) (c b : Nat) (ks : List Nat), (G[c]? = some (.cells 0 [.map b]) ∧ G[b]? = some (.amap (sents ks)) ∧ ks.Nodup ∧ ks.length < 1000000 ∧ ∀ k ∈ ks, k < 1000000) ∧ xs = [.fn 60 [] [.ptr c 0 0]] ∧ m = ⟨G, T⟩ ∧ r = slc cI ((ks.map fun k : Nat => (k : Int)).mergeSort fun x y => decide (x ≤ y)) ∧ m' = ⟨G, T⟩
theorem iSo_eq {G : List ABlk} {T : List (Nat × (Nat × Nat))} {c b : Nat} {ks : List Nat} (h : G[c]? = some (.cells 0 [.map b]) ∧ G[b]? = some (.amap (sents ks)) ∧ ks.Nodup ∧ ks.length < 1000000 ∧ ∀ k ∈ ks, k < 1000000) : iSo [.fn 60 [] [.ptr c 0 0]] ⟨G, T⟩ = some (slc cI ((ks.map fun k : Nat => (k : Int)).mergeSort fun x y => decide (x ≤ y)), ⟨G, T⟩) := rimp_eq ⟨G, T, c, b, ks, h, rfl, rfl, rfl, rfl⟩ (by rintro _ _ ⟨G', T', c', b', ks', h', e, em, rfl, rfl⟩; cases em; cases e; have e1 := h.1.symm.trans h'.1; simp only [Option.some.injEq, ABlk.cells.injEq, List.cons.injEq, AVal.map.injEq, true_and, and_true] at e1; subst e1; have e2 := h.2.1.symm.trans h'.2.1; simp only [Option.some.injEq, ABlk.amap.injEq] at e2; rw [sents_inj e2]; exact ⟨rfl, rfl⟩)
theorem iSo_call : ∀ xs m v m', iSo xs m = some (v, m') → RCall Tryz.prog 38 xs m v m' := fun xs m v m' h0 => by obtain ⟨G, T, c, b, ks, h, rfl, rfl, rfl, rfl⟩ := rimp_spec h0; exact w_Sorted G T c b ks h.1 h.2.1 h.2.2.1 h.2.2.2.1 h.2.2.2.2
end Go.Hk.MZ
