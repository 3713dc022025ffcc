import Derived.Test.YtdimacffjdpkfaaHkQ34
import Derived.Test.YtdimacffjdpkfaaChecked
import Derived.Test.YtdimacffjdpkfaaHkQ24
import Derived.Shelf.SortM.Plain
import Derived.Shelf.SortM.SortNone
import Derived.KernelRfl
/- Layer 5: the places behind a pattern. -/
set_option linter.unusedSimpArgs false
set_option linter.unusedVariables false
set_option maxRecDepth 20000
namespace Go.Hk.M
open Go.Proofs



theorem iMo_call (n : Nat) (ih : ∀ xs m v m', iBh n xs m = some (v, m') → RCall Try.prog 38 xs m v m') : ∀ xs m v m', iMo n xs m = some (v, m') → RCall Try.prog 64 xs m v m' := by
  intro xs m v m' h
  obtain ⟨G, T, p, b, t, ks, x, most, ⟨hP, hx, hr, hn, h1, h2⟩, rfl, rfl, rfl, rfl⟩ := rimp_spec h
  exact w_more n ih G T p b t ks x most hP hx hr hn h1 h2
theorem w_behind (n : Nat) (ih : ∀ xs m v m', iBh n xs m = some (v, m') → RCall Try.prog 38 xs m v m') (G : List ABlk) (T : List (Nat × (Nat × Nat))) (p b : Nat) (t : List UInt8) (ks : List Nat) (x : Rx)
    (h : PlOK G T p b t ks) (hx : okX x) (hr : inR x) (hn : sz x ≤ n) :
    RCall Try.prog 38 [.ptr p 0 0, rV x, .map b] ⟨G, T⟩ (.map G.length) ⟨G ++ [.amap (sents (cset (t.length + 1) (Im (R t x) ks)))], T⟩ := by
  have hs := h.shut
  have hpl := (List.getElem?_eq_some_iff.1 h.tx).1
  have hbl := (List.getElem?_eq_some_iff.1 h.at_).1
  have hRx := R_le (t := t) x
  have hk0 : (cR x)[0]? = some (.int .i64 x.k) := by rw [cR_eq]; rfl
  have hk5 : (cR x)[5]? = some (.int .i64 x.lo) := by rw [cR_eq]; rfl
  have hk6 : (cR x)[6]? = some (.int .i64 x.hi) := by rw [cR_eq]; rfl
  have hk7 : (cR x)[7]? = some (slc cR x.l) := by rw [cR_eq]; rfl
  have hk1 : List.take 4 (List.drop 1 (cR x)) = setL x.s := by rw [cR_eq]; rfl
  have hcl : iClone [.map b] ⟨G ++ [.cells 0 (cR x)], T⟩ = some (.map (G.length + 1), ⟨G ++ [.cells 0 (cR x), .amap (sents ks)], T⟩) := by
    have := iClone_eq (G := G ++ [.cells 0 (cR x)]) (T := T) (b := b) (ks := ks) ⟨by rw [m_at hbl]; exact h.at_, shut_one hs fun _ _ => by simp [cR_clo0]⟩
    simpa using this
  have hone : x.k = 2 → iOne [.ptr p 0 0, setV x.s, .map b] ⟨G ++ [.cells 0 (cR x)], T⟩ = some (.map (G.length + 1), ⟨G ++ [.cells 0 (cR x), .amap (sents (cset (t.length + 1) (Im (R t x) ks)))], T⟩) := fun k2 => by
    have := iOne_eq (G := G ++ [.cells 0 (cR x)]) (T := T) (p := p) (b := b) (A := x.s) (t := t) (ks := ks) ⟨by rw [m_at hpl]; exact h.tx, by rw [m_at hbl]; exact h.at_, h.nd, hx.st, h.len, h.le, shut_one hs fun _ _ => by simp [cR_clo0]⟩
    have e : (fun j => ∃ i, i ∈ ks ∧ i < t.length ∧ x.s.testBit (t.getD i 0).toNat = true ∧ j = i + 1) = Im (R t x) ks := by funext j; simp only [Im, R_k2 k2]
    rw [this, e]
    simp only [List.length_append, List.length_singleton, List.append_assoc, List.singleton_append]
  have hsame : (∀ j, Im (R t x) ks j ↔ j ∈ ks) → SetOf G T (cset (t.length + 1) (Im (R t x) ks)) (.map (G.length + 1)) ⟨G ++ [.cells 0 (cR x), .amap (sents ks)], T⟩ := fun hi =>
    ⟨1, _, ks, rfl, rfl, rfl, perm_of_mem h.nd cset_nodup fun j => by rw [cset_mem, hi j]; exact ⟨fun hj => ⟨by have := h.le j hj; omega, hj⟩, fun hj => hj.2⟩⟩
  refine RCall.of_wset (fn := Try.f38) (Γ := gam [(56, .pure iSz), (61, .raw iOne), (62, .raw iCopy), (63, .raw iClone), (38, .raw (iBh n)), (64, .raw (iMo n))]) (mu := false) hs (Sound.pure iSz_call (Sound.raw iOne_call (Sound.raw iCopy_call (Sound.raw iClone_call (Sound.raw ih (Sound.raw (iMo_call n ih) Sound.nil)))))) mixed Try.func38 rfl (by kernel_rfl) (by simp) (by kernel_rfl) ?_
  rcases hr.cases with ⟨k1, hl⟩ | ⟨k2, _, hl⟩ | ⟨k34, _, hl2⟩ | ⟨k5, _, htm, y, hl⟩
  · simp (disch := first | assumption | omega | exact okR_new | exact okR_one | exact trivial | (simp only [List.length_append, List.length_cons, List.length_nil]; omega) | (simp only [List.length_append, List.length_cons, List.length_nil, Nat.reduceAdd])) only [go_sem, e_go, e_cond_bool, e_w_bool, e_step_ite, e_reg_ite, e_regW_ite, e_code_ite, e_block_ite, e_evQ_ite, e_fin_ite, e_pair_ite, Try.f38, iSz_eq, iOne_eq, iCopy_eq, iClone_eq, l_s_cR, hk0, k1, hcl]
    exact hsame fun j => by simp only [Im, R_k1 k1]; exact ⟨fun ⟨i, h1, h2⟩ => h2 ▸ h1, fun hj => ⟨j, hj, rfl⟩⟩
  · have hone := hone k2
    simp (disch := first | assumption | omega | exact okR_new | exact okR_one | exact trivial | (simp only [List.length_append, List.length_cons, List.length_nil]; omega) | (simp only [List.length_append, List.length_cons, List.length_nil, Nat.reduceAdd])) only [go_sem, e_go, e_cond_bool, e_w_bool, e_step_ite, e_reg_ite, e_regW_ite, e_code_ite, e_block_ite, e_evQ_ite, e_fin_ite, e_pair_ite, Try.f38, iSz_eq, iOne_eq, iCopy_eq, iClone_eq, l_s_cR, hk0, k2, hk1, hone]
    exact ⟨1, _, _, rfl, rfl, rfl, .refl _⟩
  · rcases k34 with k3 | k4
    · simp (disch := first | assumption | omega | exact okR_new | exact okR_one | exact trivial | (simp only [List.length_append, List.length_cons, List.length_nil]; omega) | (simp only [List.length_append, List.length_cons, List.length_nil, Nat.reduceAdd])) only [go_sem, e_go, e_cond_bool, e_w_bool, e_step_ite, e_reg_ite, e_regW_ite, e_code_ite, e_block_ite, e_evQ_ite, e_fin_ite, e_pair_ite, Try.f38, iSz_eq, iOne_eq, iCopy_eq, iClone_eq, l_s_cR, hk0, k3, hk7]
      refine w_loop [] [2, 28] (fun z : Nat × Nat × List Nat × List ABlk => x.l.length - z.1)
        (fun z => z.1 ≤ x.l.length ∧ z.2.2.1.Nodup ∧ (∀ j, j ∈ z.2.2.1 ↔ Im (Rall t (x.l.take z.1)) ks j) ∧ (∀ k ∈ z.2.2.1, k ≤ t.length) ∧ (G ++ (.cells 0 (cR x) :: z.2.2.2))[z.2.1]? = some (.amap (sents z.2.2.1)) ∧ (∀ h k, z.2.2.2.all (cloB h k) = true) ∧ (z.1 = 0 ∨ G.length + 1 ≤ z.2.1))
        (fun z => ⟨G ++ (.cells 0 (cR x) :: z.2.2.2), T⟩) (fun z => [(2, .map z.2.1), (28, .int .i64 (z.1 : Nat))]) (0, b, ks, []) (fun _ => rfl) (by kernel_rfl)
        ⟨Nat.zero_le _, h.nd, fun j => by simp [Im, Rall], h.le, by rw [m_at hbl]; exact h.at_, fun _ _ => rfl, .inl rfl⟩ rfl (by simp [HasE, lk]) ?_
      rintro ⟨i, nb, ns, Lb⟩ ⟨h1, h2, h3, h4, h5, h6, h7⟩
      simp only at h1 h2 h3 h4 h5 h6 h7
      by_cases hi : i < x.l.length
      · have hg : x.l[i]? = some x.l[i] := by simp [hi]
        have hat := fl_at cR_len hg
        have hle : i * 8 + 8 ≤ x.l.length * 8 := by omega
        have hsh : shut ⟨G ++ .cells 0 (cR x) :: (Lb ++ [.cells 0 (cR x.l[i])]), T⟩ = true := shut_one hs fun q _ => by simp only [List.all_cons, List.all_append, cR_clo0, h6, List.all_nil, Bool.and_true]
        have h5' : (G ++ .cells 0 (cR x) :: (Lb ++ [.cells 0 (cR x.l[i])]))[nb]? = some (.amap (sents ns)) := by
          have := (List.getElem?_eq_some_iff.1 h5).1
          rw [← List.cons_append, ← List.append_assoc, List.getElem?_append_left this]
          exact h5
        have hw : IntKind.i64.wrap ((i : Int) + 1) = (i : Int) + 1 := IntWalk.i64_in _ (by have := hx.len; omega)
        have hB := iBh_eq (n := n) (x := x.l[i]) (T := T) (p := p) (b := nb) (t := t) (ks := ns) (G := G ++ .cells 0 (cR x) :: (Lb ++ [.cells 0 (cR x.l[i])])) ⟨by rw [m_at hpl]; exact h.tx, h5', h2, h.len, h4, hsh⟩ (hx.kid hg) (hr.kid (List.getElem_mem hi)) (by have := sz_kid hg; omega)
        have e0 : (G ++ ABlk.cells 0 (cR x) :: (Lb ++ [ABlk.cells 0 (cR x.l[i])])).length = G.length + (Lb.length + 2) := by simp
        have e1 : G ++ ABlk.cells 0 (cR x) :: (Lb ++ [ABlk.cells 0 (cR x.l[i])]) ++ [ABlk.amap (sents (cset (t.length + 1) (Im (R t x.l[i]) ns)))] = G ++ ABlk.cells 0 (cR x) :: (Lb ++ [ABlk.cells 0 (cR x.l[i]), ABlk.amap (sents (cset (t.length + 1) (Im (R t x.l[i]) ns)))]) := by simp
        rw [e0, e1] at hB
        simp (disch := first | assumption | omega | exact okR_new | exact okR_one | exact trivial | (simp only [List.length_append, List.length_cons, List.length_nil]; omega) | (simp only [List.length_append, List.length_cons, List.length_nil, Nat.reduceAdd])) only [go_sem, e_go, e_cond_bool, e_w_bool, e_step_ite, e_reg_ite, e_regW_ite, e_code_ite, e_block_ite, e_evQ_ite, e_fin_ite, e_pair_ite, Try.f38, iSz_eq, iOne_eq, iCopy_eq, iClone_eq, l_s_cR, hk0, k3, hk7, hat, hB, hw]
        have hsn : x.l.take (i + 1) = x.l.take i ++ [x.l[i]] := List.take_succ_eq_append_getElem hi
        exact ⟨(i + 1, G.length + (Lb.length + 2), cset (t.length + 1) (Im (R t x.l[i]) ns), Lb ++ [.cells 0 (cR x.l[i]), .amap (sents (cset (t.length + 1) (Im (R t x.l[i]) ns)))]), dn hi, ⟨hi, cset_nodup, fun j => by rw [cset_le h4, hsn, Im_all h3], fun k hk => Im_le h4 ((cset_le h4).1 hk), by simp [m_own], fun a c => by simp only [List.all_append, h6, List.all_cons, cR_clo0, sents_cloB, List.all_nil, Bool.and_true], .inr (show G.length + 1 ≤ G.length + (Lb.length + 2) by omega)⟩, rfl, by simp [HasE, lk, hw]⟩
      · have hi' : i = x.l.length := by omega
        subst hi'
        simp (disch := first | assumption | omega | exact okR_new | exact okR_one | exact trivial | (simp only [List.length_append, List.length_cons, List.length_nil]; omega) | (simp only [List.length_append, List.length_cons, List.length_nil, Nat.reduceAdd])) only [go_sem, e_go, e_cond_bool, e_w_bool, e_step_ite, e_reg_ite, e_regW_ite, e_code_ite, e_block_ite, e_evQ_ite, e_fin_ite, e_pair_ite, Try.f38, iSz_eq, iOne_eq, iCopy_eq, iClone_eq, l_s_cR, hk0, k3, hk7]
        have hnb : G.length + 1 ≤ nb := by rcases h7 with h7 | h7; omega; exact h7
        obtain ⟨j, rfl⟩ : ∃ j, nb = G.length + j := ⟨nb - G.length, by omega⟩
        rw [m_own] at h5
        exact ⟨j, _, ns, rfl, rfl, h5, perm_of_mem h2 cset_nodup fun j => by
          rw [cset_le h.le, h3 j, List.take_length]
          simp only [Im, R_k3 k3]⟩
    · simp (disch := first | assumption | omega | exact okR_new | exact okR_one | exact trivial | (simp only [List.length_append, List.length_cons, List.length_nil]; omega) | (simp only [List.length_append, List.length_cons, List.length_nil, Nat.reduceAdd])) only [go_sem, e_go, e_cond_bool, e_w_bool, e_step_ite, e_reg_ite, e_regW_ite, e_code_ite, e_block_ite, e_evQ_ite, e_fin_ite, e_pair_ite, Try.f38, iSz_eq, iOne_eq, iCopy_eq, iClone_eq, l_s_cR, hk0, k4, hk7]
      refine w_loopc [] [44] (fun z : Nat × List Nat => x.l.length - z.1) (fun z => z.1 ≤ x.l.length ∧ z.2.Nodup ∧ (∀ j, j ∈ z.2 ↔ Im (Rany t (x.l.take z.1)) ks j))
        (fun z => ⟨G ++ [.cells 0 (cR x), .amap (sents z.2)], T⟩) (fun z => [(44, .int .i64 (z.1 : Nat))]) (0, []) (fun _ => rfl) (by kernel_rfl)
        ⟨Nat.zero_le _, List.nodup_nil, fun j => by simp [Im, Rany]⟩ ⟨[], [], by simp [sents]⟩ (by simp [HasE, lk]) ?_ ?_
      · intro z hz
        have hsl : ∀ A B, cloL A B [slc cR x.l] = true := fun A B => by simp [cloL, clo, slc, cloR, c_flR]
        have hsl2 : ∀ A B, clo A B (slc cR x.l) = true := fun A B => by simp [clo, slc, cloR, c_flR]
        refine ⟨shut_one hs fun q _ => by simp only [List.all_cons, cR_clo0, sents_cloB, List.all_nil, Bool.and_true], rfl, ?_⟩
        simp [cloE, clo, hsl2, c_rV, cloR, c_flR]
        omega
      rintro ⟨i, os⟩ ⟨h1, h2, h3⟩
      simp only at h1 h2 h3
      by_cases hi : i < x.l.length
      · have hg : x.l[i]? = some x.l[i] := by simp [hi]
        have hat := fl_at cR_len hg
        have hle : i * 8 + 8 ≤ x.l.length * 8 := by omega
        have hw : IntKind.i64.wrap ((i : Int) + 1) = (i : Int) + 1 := IntWalk.i64_in _ (by have := hx.len; omega)
        have hsh : ∀ L : List ABlk, (∀ q, L.all (cloB q T.length) = true) → shut ⟨G ++ L, T⟩ = true := fun L hL => shut_one hs fun q _ => hL q
        obtain ⟨S, hS⟩ : ∃ S, cset (t.length + 1) (Im (R t x.l[i]) ks) = S := ⟨_, rfl⟩
        have hB := iBh_eq (n := n) (x := x.l[i]) (T := T) (p := p) (b := b) (t := t) (ks := ks) (G := G ++ [.cells 0 (cR x), .amap (sents os), .cells 0 (cR x.l[i])]) ⟨by rw [m_at hpl]; exact h.tx, by rw [m_at hbl]; exact h.at_, h.nd, h.len, h.le, hsh _ fun q => by simp only [List.all_cons, cR_clo0, sents_cloB, List.all_nil, Bool.and_true]⟩ (hx.kid hg) (hr.kid (List.getElem_mem hi)) (by have := sz_kid hg; omega)
        have e0 : (G ++ [ABlk.cells 0 (cR x), .amap (sents os), .cells 0 (cR x.l[i])]).length = G.length + 3 := by simp
        have e1 : G ++ [ABlk.cells 0 (cR x), .amap (sents os), .cells 0 (cR x.l[i])] ++ [.amap (sents S)] = G ++ [.cells 0 (cR x), .amap (sents os), .cells 0 (cR x.l[i]), .amap (sents S)] := by simp
        rw [hS, e0, e1] at hB
        have hC : iCopy [.map (G.length + 1), .map (G.length + 3)] ⟨G ++ [.cells 0 (cR x), .amap (sents os), .cells 0 (cR x.l[i]), .amap (sents S)], T⟩ = some (.undef, ⟨G ++ [.cells 0 (cR x), .amap (sents (uni os S)), .cells 0 (cR x.l[i]), .amap (sents S)], T⟩) := by
          have := iCopy_eq (G := G ++ [.cells 0 (cR x), .amap (sents os), .cells 0 (cR x.l[i]), .amap (sents S)]) (T := T) (d := G.length + 1) (s := G.length + 3) (os := os) (ks := S) ⟨by rw [m_own]; rfl, by rw [m_own]; rfl, by omega, by rw [noIt_app, noIt_shut hs (by omega)]; rfl, h2, by rw [← hS]; exact cset_nodup, hsh _ fun q => by simp only [List.all_cons, cR_clo0, sents_cloB, List.all_nil, Bool.and_true]⟩
          rw [this, m_put]; rfl
        simp (disch := first | assumption | omega | exact okR_new | exact okR_one | exact trivial | (simp only [List.length_append, List.length_cons, List.length_nil]; omega) | (simp only [List.length_append, List.length_cons, List.length_nil, Nat.reduceAdd])) only [go_sem, e_go, e_cond_bool, e_w_bool, e_step_ite, e_reg_ite, e_regW_ite, e_code_ite, e_block_ite, e_evQ_ite, e_fin_ite, e_pair_ite, Try.f38, iSz_eq, iOne_eq, iCopy_eq, iClone_eq, l_s_cR, hk0, k4, hk7, hat, hB, hC, hw]
        have hsn : x.l.take (i + 1) = x.l.take i ++ [x.l[i]] := List.take_succ_eq_append_getElem hi
        refine ⟨(i + 1, uni os S), dn hi, ⟨hi, uni_nodup h2, fun j => ?_⟩, ⟨[.cells 0 (cR x.l[i]), .amap (sents S)], [], by simp⟩, by simp [HasE, lk, hw]⟩
        rw [uni_mem, h3 j, ← hS, cset_le h.le, hsn]
        simp only [Im, Rany_snoc]
        constructor
        · rintro (⟨a, b, c⟩ | ⟨a, b, c⟩)
          · exact ⟨a, b, .inl c⟩
          · exact ⟨a, b, .inr c⟩
        · rintro ⟨a, b, c | c⟩
          · exact .inl ⟨a, b, c⟩
          · exact .inr ⟨a, b, c⟩
      · have hi' : i = x.l.length := by omega
        subst hi'
        simp (disch := first | assumption | omega | exact okR_new | exact okR_one | exact trivial | (simp only [List.length_append, List.length_cons, List.length_nil]; omega) | (simp only [List.length_append, List.length_cons, List.length_nil, Nat.reduceAdd])) only [go_sem, e_go, e_cond_bool, e_w_bool, e_step_ite, e_reg_ite, e_regW_ite, e_code_ite, e_block_ite, e_evQ_ite, e_fin_ite, e_pair_ite, Try.f38, iSz_eq, iOne_eq, iCopy_eq, iClone_eq, l_s_cR, hk0, k4, hk7]
        exact ⟨1, _, os, rfl, rfl, rfl, perm_of_mem h2 cset_nodup fun j => by
          rw [cset_le h.le, h3 j, List.take_length]
          simp only [Im, R_k4 k4]⟩
  · have hg : x.l[0]? = some y := by rw [hl]; rfl
    have hy : y ∈ x.l := by rw [hl]; simp
    have hlen : x.l.length = 1 := by rw [hl]; rfl
    have hat := fl_at cR_len hg
    have hoky := hx.mem hy
    have hry := hr.kid hy
    have hszy : sz y < n := by have := sz_mem hy; omega
    simp only [times, Bool.and_eq_true, Bool.or_eq_true, decide_eq_true_eq] at htm
    obtain ⟨⟨hlo0, hlo⟩, hhi⟩ := htm
    by_cases hsz : size x = 0
    · simp (disch := first | assumption | omega | exact okR_new | exact okR_one | exact trivial | (simp only [List.length_append, List.length_cons, List.length_nil]; omega) | (simp only [List.length_append, List.length_cons, List.length_nil, Nat.reduceAdd])) only [go_sem, e_go, e_cond_bool, e_w_bool, e_step_ite, e_reg_ite, e_regW_ite, e_code_ite, e_block_ite, e_evQ_ite, e_fin_ite, e_pair_ite, Try.f38, iSz_eq, iOne_eq, iCopy_eq, iClone_eq, l_s_cR, hk0, k5, hk7, hsz, hcl]
      exact hsame fun j => by simp only [Im, R_k5 k5 hl, hsz, if_true]; exact ⟨fun ⟨i, h1, h2⟩ => h2 ▸ h1, fun hj => ⟨j, hj, rfl⟩⟩
    · simp (disch := first | assumption | omega | exact okR_new | exact okR_one | exact trivial | (simp only [List.length_append, List.length_cons, List.length_nil]; omega) | (simp only [List.length_append, List.length_cons, List.length_nil, Nat.reduceAdd])) only [go_sem, e_go, e_cond_bool, e_w_bool, e_step_ite, e_reg_ite, e_regW_ite, e_code_ite, e_block_ite, e_evQ_ite, e_fin_ite, e_pair_ite, Try.f38, iSz_eq, iOne_eq, iCopy_eq, iClone_eq, l_s_cR, hk0, k5, hk7, hsz, hk5]
      refine w_loop [] [2, 65] (fun z : Nat × Nat × List Nat × List (List Nat) => x.lo.toNat - z.1)
        (fun z => z.1 ≤ x.lo.toNat ∧ z.2.2.1.Nodup ∧ (∀ j, j ∈ z.2.2.1 ↔ Im (iter (R t y) z.1) ks j) ∧ (∀ k ∈ z.2.2.1, k ≤ t.length) ∧ (G ++ (.cells 0 (cR x) :: mps z.2.2.2))[z.2.1]? = some (.amap (sents z.2.2.1)))
        (fun z => ⟨G ++ (.cells 0 (cR x) :: mps z.2.2.2), T⟩) (fun z => [(2, .map z.2.1), (65, .int .i64 (z.1 : Nat))]) (0, b, ks, []) (fun _ => rfl) (by kernel_rfl)
        ⟨Nat.zero_le _, h.nd, fun j => by simp [Im, iter], h.le, by rw [m_at hbl]; exact h.at_⟩ rfl (by simp [HasE, lk]) ?_
      rintro ⟨i, nb, ns, Ls⟩ ⟨h1, h2, h3, h4, h5⟩
      simp only at h1 h2 h3 h4 h5
      have hsh : ∀ L : List ABlk, (∀ q, L.all (cloB q T.length) = true) → shut ⟨G ++ L, T⟩ = true := fun L hL => shut_one hs fun q _ => hL q
      have hk70 : List.take 8 (fl cR x.l) = cR y := by
        rw [hl, fl_cons]
        exact List.take_left' (cR_len y)
      have h5' : ∀ B : List ABlk, (G ++ .cells 0 (cR x) :: (mps Ls ++ B))[nb]? = some (.amap (sents ns)) := fun B => by
        have := (List.getElem?_eq_some_iff.1 h5).1
        rw [← List.cons_append, ← List.append_assoc, List.getElem?_append_left this]
        exact h5
      by_cases hi : i < x.lo.toNat
      · have hd0 : decide ((i : Int) < x.lo) = true := by simp; omega
        have hw : IntKind.i64.wrap ((i : Int) + 1) = (i : Int) + 1 := IntWalk.i64_in _ (by omega)
        have hB := iBh_eq (n := n) (x := y) (T := T) (p := p) (b := nb) (t := t) (ks := ns) (G := G ++ .cells 0 (cR x) :: mps Ls) ⟨by rw [m_at hpl]; exact h.tx, h5, h2, h.len, h4, hsh _ fun q => by simp only [List.all_cons, cR_clo0, mps_clo, Bool.and_true]⟩ hoky hry hszy
        have e1 : G ++ .cells 0 (cR x) :: mps Ls ++ [.amap (sents (cset (t.length + 1) (Im (R t y) ns)))] = G ++ .cells 0 (cR x) :: mps (Ls ++ [cset (t.length + 1) (Im (R t y) ns)]) := by rw [mps_app]; simp
        have e0 : (G ++ ABlk.cells 0 (cR x) :: mps Ls).length = G.length + (Ls.length + 1) := by simp [mps_len]
        rw [e0, e1] at hB
        simp (disch := first | assumption | omega | exact okR_new | exact okR_one | exact trivial | (simp only [List.length_append, List.length_cons, List.length_nil]; omega) | (simp only [List.length_append, List.length_cons, List.length_nil, Nat.reduceAdd])) only [go_sem, e_go, e_cond_bool, e_w_bool, e_step_ite, e_reg_ite, e_regW_ite, e_code_ite, e_block_ite, e_evQ_ite, e_fin_ite, e_pair_ite, Try.f38, iSz_eq, iOne_eq, iCopy_eq, iClone_eq, l_s_cR, hk0, k5, hk7, hk70, hd0, hw, hlen, hB]
        exact ⟨(i + 1, G.length + (Ls.length + 1), cset (t.length + 1) (Im (R t y) ns), Ls ++ [cset (t.length + 1) (Im (R t y) ns)]), dn hi, ⟨hi, cset_nodup, fun j => by rw [cset_le h4, Im_iter h3], fun k hk => Im_le h4 ((cset_le h4).1 hk), by simp only [m_own, mps_app, List.getElem?_cons_succ]; rw [List.getElem?_append_right (by rw [mps_len]; exact Nat.le_refl _), mps_len, Nat.sub_self]; rfl⟩, rfl, by simp [HasE, lk, hw]⟩
      · have hi' : i = x.lo.toNat := by omega
        subst hi'
        have hd0 : decide (((x.lo.toNat : Nat) : Int) < x.lo) = false := by simp; omega
        have yk0 : (cR y)[0]? = some (.int .i64 y.k) := by rw [cR_eq]; rfl
        have yk5 : (cR y)[5]? = some (.int .i64 y.lo) := by rw [cR_eq]; rfl
        have yk6 : (cR y)[6]? = some (.int .i64 y.hi) := by rw [cR_eq]; rfl
        have hhi2 : -1 ≤ x.hi ∧ x.hi ≤ 20 := by rcases hhi with hh | hh; omega; have := (imax_le (x := 1) (y := x.lo)).1; omega
        have hw1 : IntKind.i64.wrap (x.hi - x.lo) = x.hi - x.lo := IntWalk.i64_in _ (by omega)
        have hw2 : IntKind.i64.wrap (1 - x.lo) = 1 - x.lo := IntWalk.i64_in _ (by omega)
        have hM : ∀ most, -1 ≤ most → most < 1000 → iMo n [.ptr p 0 0, rV y, .map nb, .int .i64 most] ⟨G ++ .cells 0 (cR x) :: (mps Ls ++ [.cells 0 (cR y)]), T⟩ = some (.map (G.length + (Ls.length + 2)), ⟨G ++ .cells 0 (cR x) :: (mps Ls ++ [.cells 0 (cR y), .amap (sents (cset (t.length + 1) (Upto (R t y) ns most)))]), T⟩) := fun most m1 m2 => by
          have := iMo_eq (n := n) (x := y) (T := T) (p := p) (b := nb) (t := t) (ks := ns) (G := G ++ .cells 0 (cR x) :: (mps Ls ++ [.cells 0 (cR y)])) (most := most) ⟨by rw [m_at hpl]; exact h.tx, h5' _, h2, h.len, h4, hsh _ fun q => by simp only [List.all_cons, List.all_append, cR_clo0, mps_clo, List.all_nil, Bool.and_true]⟩ hoky hry hszy m1 m2
          rw [this]
          simp [mps_len]
        have hfin : ∀ most, (∀ q : Nat, (most < 0 ∨ (q : Int) ≤ most) ↔ upTo (Hk.more x.lo x.hi y) q) → SetOf G T (cset (t.length + 1) (Im (R t x) ks)) (.map (G.length + (Ls.length + 2))) ⟨G ++ .cells 0 (cR x) :: (mps Ls ++ [.cells 0 (cR y), .amap (sents (cset (t.length + 1) (Upto (R t y) ns most)))]), T⟩ := fun most hq =>
          ⟨Ls.length + 2, _, cset (t.length + 1) (Upto (R t y) ns most), rfl, rfl, by rw [List.getElem?_cons_succ, List.getElem?_append_right (by rw [mps_len]; omega), mps_len]; simp, by
            have e : cset (t.length + 1) (Upto (R t y) ns most) = cset (t.length + 1) (Im (R t x) ks) := cset_congr fun j _ => by
              rw [Im_upto hq h3]
              simp only [Im, R_k5 k5 hl, hsz, if_false]
            rw [e]⟩
        by_cases c1 : 0 ≤ x.hi
        · have hmx := imax_le (x := 1) (y := x.lo)
          have hM1 := hM (x.hi - x.lo) (by rcases hhi with hh | hh <;> omega) (by omega)
          simp (disch := first | assumption | omega | exact okR_new | exact okR_one | exact trivial | (simp only [List.length_append, List.length_cons, List.length_nil]; omega) | (simp only [List.length_append, List.length_cons, List.length_nil, Nat.reduceAdd])) only [go_sem, e_go, e_cond_bool, e_w_bool, e_step_ite, e_reg_ite, e_regW_ite, e_code_ite, e_block_ite, e_evQ_ite, e_fin_ite, e_pair_ite, Try.f38, iSz_eq, iOne_eq, iCopy_eq, iClone_eq, l_s_cR, hk0, k5, hk7, hk70, hd0, hlen, hk5, hk6, hw1, hM1]
          exact hfin _ fun q => by simp only [Hk.more, c1, if_true, upTo]; rcases hhi with hh | hh <;> omega
        · by_cases c2 : y.k = 5
          · by_cases c3 : y.hi < 0
            · by_cases c4 : y.lo ≤ 1
              · have hM1 := hM (imax 0 (1 - x.lo)) (by have := imax_le (x := 0) (y := 1 - x.lo); omega) (by have := imax_le (x := 0) (y := 1 - x.lo); omega)
                simp (disch := first | assumption | omega | exact okR_new | exact okR_one | exact trivial | (simp only [List.length_append, List.length_cons, List.length_nil]; omega) | (simp only [List.length_append, List.length_cons, List.length_nil, Nat.reduceAdd])) only [go_sem, e_go, e_cond_bool, e_w_bool, e_step_ite, e_reg_ite, e_regW_ite, e_code_ite, e_block_ite, e_evQ_ite, e_fin_ite, e_pair_ite, Try.f38, iSz_eq, iOne_eq, iCopy_eq, iClone_eq, l_s_cR, hk0, k5, hk7, hk70, hd0, hlen, hk5, hk6, hw2, hM1, yk0, yk5, yk6, c2]
                exact hfin _ fun q => by simp only [Hk.more, c1, if_false, loopy, c2, c3, c4, decide_true, Bool.and_self, if_true, upTo]; have := imax_le (x := 0) (y := 1 - x.lo); omega
              · have hM1 := hM (-1) (by omega) (by omega)
                simp (disch := first | assumption | omega | exact okR_new | exact okR_one | exact trivial | (simp only [List.length_append, List.length_cons, List.length_nil]; omega) | (simp only [List.length_append, List.length_cons, List.length_nil, Nat.reduceAdd])) only [go_sem, e_go, e_cond_bool, e_w_bool, e_step_ite, e_reg_ite, e_regW_ite, e_code_ite, e_block_ite, e_evQ_ite, e_fin_ite, e_pair_ite, Try.f38, iSz_eq, iOne_eq, iCopy_eq, iClone_eq, l_s_cR, hk0, k5, hk7, hk70, hd0, hlen, hk5, hk6, hw2, hM1, yk0, yk5, yk6, c2]
                exact hfin _ fun q => by simp [Hk.more, c1, loopy, c4, upTo]
            · have hM1 := hM (-1) (by omega) (by omega)
              simp (disch := first | assumption | omega | exact okR_new | exact okR_one | exact trivial | (simp only [List.length_append, List.length_cons, List.length_nil]; omega) | (simp only [List.length_append, List.length_cons, List.length_nil, Nat.reduceAdd])) only [go_sem, e_go, e_cond_bool, e_w_bool, e_step_ite, e_reg_ite, e_regW_ite, e_code_ite, e_block_ite, e_evQ_ite, e_fin_ite, e_pair_ite, Try.f38, iSz_eq, iOne_eq, iCopy_eq, iClone_eq, l_s_cR, hk0, k5, hk7, hk70, hd0, hlen, hk5, hk6, hw2, hM1, yk0, yk5, yk6, c2]
              exact hfin _ fun q => by simp [Hk.more, c1, loopy, c3, upTo]
          · have hM1 := hM (-1) (by omega) (by omega)
            have c2' : decide (y.k = 5) = false := by simp [c2]
            simp (disch := first | assumption | omega | exact okR_new | exact okR_one | exact trivial | (simp only [List.length_append, List.length_cons, List.length_nil]; omega) | (simp only [List.length_append, List.length_cons, List.length_nil, Nat.reduceAdd])) only [go_sem, e_go, e_cond_bool, e_w_bool, e_step_ite, e_reg_ite, e_regW_ite, e_code_ite, e_block_ite, e_evQ_ite, e_fin_ite, e_pair_ite, Try.f38, iSz_eq, iOne_eq, iCopy_eq, iClone_eq, l_s_cR, hk0, k5, hk7, hk70, hd0, hlen, hk5, hk6, hw2, hM1, yk0, yk5, yk6, c2']
            exact hfin _ fun q => by simp [Hk.more, c1, loopy, c2, upTo]
theorem iBh_call : ∀ (n : Nat) xs m v m', iBh n xs m = some (v, m') → RCall Try.prog 38 xs m v m' := by
  intro n
  induction n with
  | zero =>
    intro xs m v m' h0
    obtain ⟨G, T, p, b, t, ks, x, ⟨hP, hx, hr, hn⟩, rfl, rfl, rfl, rfl⟩ := rimp_spec h0
    exact absurd hn (Nat.not_lt_zero _)
  | succ n ih =>
    intro xs m v m' h0
    obtain ⟨G, T, p, b, t, ks, x, ⟨hP, hx, hr, hn⟩, rfl, rfl, rfl, rfl⟩ := rimp_spec h0
    exact w_behind n ih G T p b t ks x hP hx hr (by omega)
end Go.Hk.M
/- The library's sorting, at this program's numbers. -/
namespace Go.Hk.M
open Go.Proofs Go.RowKit Go.Maps Go.Sort Go.Shelf
def keysL_ren : Go.Shelf.Ren := ⟨fun | 7 => 37 | 10 => 60 | n => n, fun | 23 => 88 | 26 => 3 | 3 => 89 | 28 => 85 | 0 => 0 | 27 => 84 | 33 => 97 | 4 => 4 | n => n, fun | n => n⟩
theorem keysL : Go.Proofs.SlLaysZI.n7 Try.prog keysL_ren where
  mixed := by kernel_rfl
  f7 := ⟨Try.f37.name, by decide, Try.func37.trans (congrArg some (by kernel_rfl))⟩
  f10 := ⟨Try.f60.name, by decide, Try.func60.trans (congrArg some (by kernel_rfl))⟩
  t0 := Try.underlying0
  a0 := Try.isAgg0
  z0 := Try.sizeOf0
  v0 := Try.zeroValue0
  t4 := Try.underlying4
  a4 := Try.isAgg4
  z4 := Try.sizeOf4
  v4 := Try.zeroValue4
  t23 := Try.underlying88
  a23 := Try.isAgg88
  z23 := Try.sizeOf88
  v23 := Try.zeroValue88
  t26 := Try.underlying3
  a26 := Try.isAgg3
  z26 := Try.sizeOf3
  v26 := Try.zeroValue3
  t27 := Try.underlying84
  a27 := Try.isAgg84
  z27 := Try.sizeOf84
  v27 := Try.zeroValue84
  t28 := Try.underlying85
  a28 := Try.isAgg85
  z28 := Try.sizeOf85
  v28 := Try.zeroValue85
  t33 := Try.underlying97
  a33 := Try.isAgg97
  z33 := Try.sizeOf97
  v33 := Try.zeroValue97
def sortedL_ren : Go.Shelf.Ren := ⟨fun | 6 => 36 | 8 => 58 | 9 => 59 | 11 => 76 | 13 => 78 | 12 => 77 | 23 => 96 | 24 => 97 | 14 => 87 | 15 => 88 | 16 => 89 | 17 => 90 | 18 => 91 | 19 => 92 | 20 => 93 | 21 => 94 | 22 => 95 | 25 => 98 | 26 => 99 | 27 => 100 | 28 => 101 | 29 => 102 | 30 => 103 | 31 => 104 | n => n, fun | 26 => 3 | 28 => 85 | 24 => 38 | 0 => 0 | 3 => 3 | 37 => 120 | 48 => 136 | 50 => 39 | 4 => 4 | 40 => 129 | 39 => 128 | 45 => 133 | 5 => 5 | 9 => 9 | 51 => 138 | 55 => 142 | 57 => 144 | 58 => 50 | 33 => 97 | n => n, fun | n => n⟩
theorem sortedL : Go.Proofs.SlLaysZI.n6 Try.prog sortedL_ren where
  mixed := by kernel_rfl
  f6 := ⟨Try.f36.name, by decide, Try.func36.trans (congrArg some (by kernel_rfl))⟩
  f8 := ⟨Try.f58.name, by decide, Try.func58.trans (congrArg some (by kernel_rfl))⟩
  f11 := ⟨Try.f76.name, by decide, Try.func76.trans (congrArg some (by kernel_rfl))⟩
  t0 := Try.underlying0
  a0 := Try.isAgg0
  z0 := Try.sizeOf0
  v0 := Try.zeroValue0
  t24 := Try.underlying38
  a24 := Try.isAgg38
  z24 := Try.sizeOf38
  v24 := Try.zeroValue38
  t26 := Try.underlying3
  a26 := Try.isAgg3
  z26 := Try.sizeOf3
  v26 := Try.zeroValue3
  t28 := Try.underlying85
  a28 := Try.isAgg85
  z28 := Try.sizeOf85
  v28 := Try.zeroValue85
  i26 := by kernel_rfl
def sortL_ren : Go.Shelf.Ren := ⟨fun | 5 => 59 | 8 => 78 | 7 => 77 | 19 => 96 | 20 => 97 | 10 => 87 | 11 => 88 | 12 => 89 | 13 => 90 | 14 => 91 | 15 => 92 | 16 => 93 | 17 => 94 | 18 => 95 | 30 => 98 | 31 => 99 | 32 => 100 | 33 => 101 | 34 => 102 | 35 => 103 | 40 => 104 | n => n, fun | 23 => 38 | 25 => 3 | 3 => 3 | 32 => 120 | 22 => 38 | 0 => 0 | 44 => 136 | 46 => 39 | 4 => 4 | 36 => 129 | 35 => 128 | 41 => 133 | 5 => 5 | 9 => 9 | 53 => 138 | 57 => 142 | 63 => 144 | 64 => 50 | n => n, fun | n => n⟩
theorem sortL : Go.Proofs.SlLaysM.n5 Try.prog sortL_ren where
  mixed := by kernel_rfl
  f5 := ⟨Try.f59.name, by decide, Try.func59.trans (congrArg some (by kernel_rfl))⟩
  f7 := ⟨Try.f77.name, by decide, Try.func77.trans (congrArg some (by kernel_rfl))⟩
  f8 := Try.func78.trans (congrArg some (by kernel_rfl))
  f10 := ⟨Try.f87.name, by decide, Try.func87.trans (congrArg some (by kernel_rfl))⟩
  f11 := ⟨Try.f88.name, by decide, Try.func88.trans (congrArg some (by kernel_rfl))⟩
  f12 := ⟨Try.f89.name, by decide, Try.func89.trans (congrArg some (by kernel_rfl))⟩
  f13 := ⟨Try.f90.name, by decide, Try.func90.trans (congrArg some (by kernel_rfl))⟩
  f14 := ⟨Try.f91.name, by decide, Try.func91.trans (congrArg some (by kernel_rfl))⟩
  f15 := ⟨Try.f92.name, by decide, Try.func92.trans (congrArg some (by kernel_rfl))⟩
  f16 := ⟨Try.f93.name, by decide, Try.func93.trans (congrArg some (by kernel_rfl))⟩
  f17 := ⟨Try.f94.name, by decide, Try.func94.trans (congrArg some (by kernel_rfl))⟩
  f18 := ⟨Try.f95.name, by decide, Try.func95.trans (congrArg some (by kernel_rfl))⟩
  f19 := Try.func96.trans (congrArg some (by kernel_rfl))
  f20 := Try.func97.trans (congrArg some (by kernel_rfl))
  f30 := ⟨Try.f98.name, by decide, Try.func98.trans (congrArg some (by kernel_rfl))⟩
  f31 := Try.func99.trans (congrArg some (by kernel_rfl))
  f32 := Try.func100.trans (congrArg some (by kernel_rfl))
  f33 := ⟨Try.f101.name, by decide, Try.func101.trans (congrArg some (by kernel_rfl))⟩
  f34 := ⟨Try.f102.name, by decide, Try.func102.trans (congrArg some (by kernel_rfl))⟩
  f35 := ⟨Try.f103.name, by decide, Try.func103.trans (congrArg some (by kernel_rfl))⟩
  f40 := ⟨Try.f104.name, by decide, Try.func104.trans (congrArg some (by kernel_rfl))⟩
  t0 := Try.underlying0
  a0 := Try.isAgg0
  z0 := Try.sizeOf0
  v0 := Try.zeroValue0
  t3 := Try.underlying3
  a3 := Try.isAgg3
  z3 := Try.sizeOf3
  v3 := Try.zeroValue3
  t4 := Try.underlying4
  a4 := Try.isAgg4
  z4 := Try.sizeOf4
  v4 := Try.zeroValue4
  t5 := Try.underlying5
  a5 := Try.isAgg5
  z5 := Try.sizeOf5
  v5 := Try.zeroValue5
  t9 := Try.underlying9
  a9 := Try.isAgg9
  z9 := Try.sizeOf9
  v9 := Try.zeroValue9
  t22 := Try.underlying38
  a22 := Try.isAgg38
  z22 := Try.sizeOf38
  v22 := Try.zeroValue38
  t23 := Try.underlying38
  a23 := Try.isAgg38
  z23 := Try.sizeOf38
  v23 := Try.zeroValue38
  t25 := Try.underlying3
  a25 := Try.isAgg3
  z25 := Try.sizeOf3
  v25 := Try.zeroValue3
  t32 := Try.underlying120
  a32 := Try.isAgg120
  z32 := Try.sizeOf120
  v32 := Try.zeroValue120
  t35 := Try.underlying128
  a35 := Try.isAgg128
  z35 := Try.sizeOf128
  v35 := Try.zeroValue128
  t36 := Try.underlying129
  a36 := Try.isAgg129
  z36 := Try.sizeOf129
  v36 := Try.zeroValue129
  t41 := Try.underlying133
  a41 := Try.isAgg133
  z41 := Try.sizeOf133
  v41 := Try.zeroValue133
  t44 := Try.underlying136
  a44 := Try.isAgg136
  z44 := Try.sizeOf136
  v44 := Try.zeroValue136
  t46 := Try.underlying39
  a46 := Try.isAgg39
  z46 := Try.sizeOf39
  v46 := Try.zeroValue39
  t53 := Try.underlying138
  a53 := Try.isAgg138
  z53 := Try.sizeOf138
  v53 := Try.zeroValue138
  t57 := Try.underlying142
  a57 := Try.isAgg142
  z57 := Try.sizeOf142
  v57 := Try.zeroValue142
  t63 := Try.underlying144
  a63 := Try.isAgg144
  z63 := Try.sizeOf144
  v63 := Try.zeroValue144
  t64 := Try.underlying50
  a64 := Try.isAgg50
  z64 := Try.sizeOf50
  v64 := Try.zeroValue50
theorem sortsL (m : Nat) : AnyZI.SortsIn Try.prog sortedL_ren Fence.wide m :=
  ⟨fun blk off cap ss W hH hblk hsz => callsIn_wide.2 (AnyM.slices_Sort_int sortL blk off cap ss W hH hblk hsz),
   fun p cap W => callsIn_wide.2 (AnyM.slices_Sort_int_none sortL p cap W)⟩
end Go.Hk.M
