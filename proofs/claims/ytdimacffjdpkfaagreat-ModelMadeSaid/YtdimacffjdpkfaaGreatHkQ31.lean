import Derived.Test.YtdimacffjdpkfaaGreatHkQ30
set_option linter.unusedSimpArgs false
set_option linter.unusedVariables false
set_option maxRecDepth 20000
namespace Go.Hk.MZ
open Go.Proofs


noncomputable def iSt' (n : Nat) : List AVal → Option AVal := pimp fun xs r => ∃ (x : Rx) (t : List UInt8) (L : List Bool), ((okX x ∧ inR x ∧ L.length = t.length + 1 ∧ t.length < 1000000) ∧ sz x < n) ∧ xs = [rV x, .str t, slc cB L] ∧ r = slc cB (bset (t.length + 1) (ImP (R t x) (isT L)))
theorem iSt'_eq {n : Nat} {x : Rx} {t : List UInt8} {L : List Bool} (h0 : (okX x ∧ inR x ∧ L.length = t.length + 1 ∧ t.length < 1000000) ∧ sz x < n) : iSt' n [rV x, .str t, slc cB L] = some (slc cB (bset (t.length + 1) (ImP (R t x) (isT L)))) := by
  have h := h0.1
  refine pimp_eq ⟨x, t, L, h0, rfl, rfl⟩ ?_
  rintro _ ⟨x', t', L', h0', e, rfl⟩
  have h' := h0'.1
  have e0 := (List.cons.inj e).1; have e0r := (List.cons.inj e).2; have e1 := (List.cons.inj e0r).1; have e1r := (List.cons.inj e0r).2; have e2 := (List.cons.inj e1r).1; have e2r := (List.cons.inj e1r).2; have q0 := rV_inj (by first | assumption | exact h | exact h.1 | exact h.1.1 | exact h.1.1.1 | exact h.2 | exact h.2.1 | exact h.2.2 | exact h.2.2.1) (by first | assumption | exact h' | exact h'.1 | exact h'.1.1 | exact h'.1.1.1 | exact h'.2 | exact h'.2.1 | exact h'.2.2 | exact h'.2.2.1) e0; have q1 := AVal.str.inj e1; have q2 := slc_inj cB_len (fun _ _ _ _ => cB_inj) e2; subst q0; subst q1; subst q2; first | rfl | exact ⟨rfl, rfl⟩
theorem w_step (n : Nat) (ih_iSt' : ∀ xs v, iSt' n xs = some v → PCall Tryz.prog 68 xs v) (x : Rx) (t : List UInt8) (L : List Bool) (h : okX x ∧ inR x ∧ L.length = t.length + 1 ∧ t.length < 1000000) (hn : sz x ≤ n) : PCall Tryz.prog 68 [rV x, .str t, slc cB L] (slc cB (bset (t.length + 1) (ImP (R t x) (isT L)))) := by
  obtain ⟨hx, hr, hL, ht⟩ := h
  have hk0 : (cR x)[0]? = some (.int .i64 x.k) := by rw [cR_eq]; rfl
  have hk5 : (cR x)[5]? = some (.int .i64 x.lo) := by rw [cR_eq]; rfl
  have hk6 : (cR x)[6]? = some (.int .i64 x.hi) := by rw [cR_eq]; rfl
  have hk7 : (cR x)[7]? = some (slc cR x.l) := by rw [cR_eq]; rfl
  have hk1 : List.take 4 (List.drop 1 (cR x)) = setL x.s := by rw [cR_eq]; rfl
  have hN : L.length = t.length + 1 := hL
  have hLN : L.length = L.length := rfl
  rw [← hN]
  have hfill : ∀ B C : List Bool, B.length = C.length → setMany (fl cB B) 0 (fl cB C) = fl cB C := fun B C e => setMany_full (fl cB C) (fl cB B) [] (by rw [fl_len cB_len, fl_len cB_len, e])
  have hrep : List.replicate (L.length) (AVal.bool false) = fl cB (List.replicate (L.length) false) := by rw [fl_cB_map]; simp
  have hcopy : ∀ B C : List Bool, B.length = (L.length) → C.length = (L.length) → acopy Tryz.prog ⟨[.cells 0 (cR x), .cells 1 (fl cB B)], []⟩ 109 (.msl 1 1 0 (L.length) (L.length)) (slc cB C) = some (.int .i64 (L.length), ⟨[.cells 0 (cR x), .cells 1 (fl cB C)], []⟩) := fun B C hB hC => by
    have hf := hfill B C (by omega)
    have hl1 : (fl cB C).length = (L.length) := by rw [fl_len cB_len]; omega
    have hl2 : (fl cB B).length = (L.length) := by rw [fl_len cB_len]; omega
    simp [acopy, ti109, ti4, alist, slc, hC, hl1, hl2, hf]
  have hrN : (List.replicate (L.length) false).length = (L.length) := by simp
  have hRl : ∀ (z : Rx) (i j : Nat), R t z i j → i < (L.length) → j < (L.length) := fun z i j hij hi => by have := R_le z i j hij (by omega); omega
  have hSL : ∀ i, isT L i → i < (L.length) := fun i hi => by have := isT_lt hi; omega
  have hlen0 : (fl cB (List.replicate (L.length) false)).length = (L.length) := by rw [fl_len cB_len]; simp
  have hsl : ∀ l : List Bool, l.length = (L.length) → AVal.sl .no (L.length) (fl cB l) = slc cB l := fun l e => by rw [slc, e]
  have hslb : ∀ S, AVal.sl .no (L.length) (fl cB (bset (L.length) S)) = slc cB (bset (L.length) S) := fun S => hsl _ bset_len
  refine PCall.of_w (fn := Tryz.f68) (Γ := gam [(47, .pure iSr), (68, .pure (iSt' n)), (87, .pure iHas'), (89, .pure iClo), (90, .pure iWi), (88, .raw iOrM)]) (mu := true) (Sound.pure iSr_call (Sound.pure ih_iSt' (Sound.pure iHas'_call (Sound.pure iClo_call (Sound.pure iWi_call (Sound.raw iOrM_call Sound.nil)))))) mixed Tryz.func68 rfl (by kernel_rfl) (by simp) (by kernel_rfl) ?_
  rcases hr.cases with ⟨k1, hl⟩ | ⟨k2, _, hl⟩ | ⟨k34, _, hl2⟩ | ⟨k5, _, htm, y, hl⟩
  · have e1 : bset (L.length) (ImP (R t x) (isT L)) = L := by
      refine Eq.trans (bset_congr (S' := isT L) fun j _ => ?_) (bset_isT hLN)
      simp only [ImP, R_k1 k1]
      exact ⟨fun ⟨i, a, b⟩ => b ▸ a, fun a => ⟨j, a, rfl⟩⟩
    rw [e1]
    have hc1 := hcopy _ L hrN hLN
    simp (disch := first | assumption | omega | exact okR_new | exact okR_one | exact trivial | (simp only [lnA, lnC, lnN]; omega) | (simp only [lnA, lnC, lnN, Nat.reduceAdd])) only [go_sem, e_go, e_cond_bool, e_w_bool, e_step_ite, e_reg_ite, e_regW_ite, e_code_ite, e_block_ite, e_evQ_ite, e_fin_ite, e_pair_ite, Tryz.f68, iSr_eq, iSt'_eq, iHas'_eq, iClo_eq, iWi_eq, iOrM_told, hk0, k1, hrep, hc1]
  · simp (disch := first | assumption | omega | exact okR_new | exact okR_one | exact trivial | (simp only [lnA, lnC, lnN]; omega) | (simp only [lnA, lnC, lnN, Nat.reduceAdd])) only [go_sem, e_go, e_cond_bool, e_w_bool, e_step_ite, e_reg_ite, e_regW_ite, e_code_ite, e_block_ite, e_evQ_ite, e_fin_ite, e_pair_ite, Tryz.f68, iSr_eq, iSt'_eq, iHas'_eq, iClo_eq, iWi_eq, iOrM_told, hk0, k2, hrep]
    refine w_loop [] [8] (fun i : Nat => t.length - i) (fun i => i ≤ t.length) (fun i => ⟨[.cells 0 (cR x), .cells 1 (fl cB (bset (L.length) fun j => ∃ i0, i0 < i ∧ isT L i0 ∧ x.s.testBit (t.getD i0 0).toNat = true ∧ j = i0 + 1))], []⟩)
      (fun i => [(8, .int .i64 (i : Nat))]) 0 (fun _ => rfl) (by kernel_rfl) (Nat.zero_le _) (by rw [bset_false (fun j _ => by rintro ⟨i0, h, _⟩; omega)]) (by simp [HasE, lk]) ?_
    intro i hi
    by_cases h1 : i < t.length
    · have hiL : i < L.length := by omega
      have hg := fl_cB_get (l := L) (i := i) (x := L[i]) (by simp [hiL])
      have hw : IntKind.i64.wrap ((i : Int) + 1) = (i : Int) + 1 := IntWalk.i64_in _ (by omega)
      obtain ⟨ch, hch⟩ : ∃ ch, t.getD i 0 = ch := ⟨_, rfl⟩
      have hgt : t[i]? = some ch := by rw [← hch]; simp [h1]
      have hw2 : IntKind.i64.wrap (ch.toNat : Int) = (ch.toNat : Int) := IntWalk.i64_in _ (by have := ch.toNat_lt; omega)
      have hh : has x.s (ch.toNat : Int) = x.s.testBit ch.toNat := has_nat (by have := ch.toNat_lt; omega)
      have hst := hx.st
      have hset : ∀ v : Bool, (v = true ↔ (isT L i ∧ x.s.testBit ch.toNat = true)) → (fl cB (bset (L.length) fun j => ∃ i0, i0 < i ∧ isT L i0 ∧ x.s.testBit (t.getD i0 0).toNat = true ∧ j = i0 + 1)).set (i + 1) (.bool v) = fl cB (bset (L.length) fun j => ∃ i0, i0 < i + 1 ∧ isT L i0 ∧ x.s.testBit (t.getD i0 0).toNat = true ∧ j = i0 + 1) := fun v hv => by
        rw [fl_cB_set, bset_set (S' := fun j => ∃ i0, i0 < i + 1 ∧ isT L i0 ∧ x.s.testBit (t.getD i0 0).toNat = true ∧ j = i0 + 1) (by omega) ?_ ?_]
        · rw [hv]
          constructor
          · rintro ⟨a, b⟩; exact ⟨i, by omega, a, by rw [hch]; exact b, rfl⟩
          · rintro ⟨i0, a, b, c, d⟩
            obtain rfl : i0 = i := by omega
            rw [hch] at c
            exact ⟨b, c⟩
        · intro j _ hj
          constructor
          · rintro ⟨i0, a, b⟩; exact ⟨i0, by omega, b⟩
          · rintro ⟨i0, a, b⟩; exact ⟨i0, by omega, b⟩
      have hbl : (fl cB (bset (L.length) fun j => ∃ i0, i0 < i ∧ isT L i0 ∧ x.s.testBit (t.getD i0 0).toNat = true ∧ j = i0 + 1)).length = (L.length) := by rw [fl_len cB_len, bset_len, Nat.mul_one]
      have hTi : isT L i ↔ L[i] = true := isT_get hiL
      have htn : ((i : Int) + 1).toNat = i + 1 := by omega
      cases hb : L[i] <;> simp only [hb] at hg hTi
      · have hs1 := hset false (by simp [hTi])
        simp (disch := first | assumption | omega | exact okR_new | exact okR_one | exact trivial | (simp only [lnA, lnC, lnN]; omega) | (simp only [lnA, lnC, lnN, Nat.reduceAdd])) only [go_sem, e_go, e_cond_bool, e_w_bool, e_step_ite, e_reg_ite, e_regW_ite, e_code_ite, e_block_ite, e_evQ_ite, e_fin_ite, e_pair_ite, Tryz.f68, iSr_eq, iSt'_eq, iHas'_eq, iClo_eq, iWi_eq, iOrM_told, hk0, k2, hg, hw, hs1, hbl, htn]
        exact ⟨i + 1, dn h1, h1, rfl, by simp [HasE, lk]⟩
      · have hs1 := hset (x.s.testBit ch.toNat) (by simp [hTi])
        simp (disch := first | assumption | omega | exact okR_new | exact okR_one | exact trivial | (simp only [lnA, lnC, lnN]; omega) | (simp only [lnA, lnC, lnN, Nat.reduceAdd])) only [go_sem, e_go, e_cond_bool, e_w_bool, e_step_ite, e_reg_ite, e_regW_ite, e_code_ite, e_block_ite, e_evQ_ite, e_fin_ite, e_pair_ite, Tryz.f68, iSr_eq, iSt'_eq, iHas'_eq, iClo_eq, iWi_eq, iOrM_told, hk0, k2, hg, hw, hs1, hbl, hgt, hw2, hh, hk1, htn]
        exact ⟨i + 1, dn h1, h1, rfl, by simp [HasE, lk]⟩
    · have hi' : i = t.length := by omega
      subst hi'
      simp (disch := first | assumption | omega | exact okR_new | exact okR_one | exact trivial | (simp only [lnA, lnC, lnN]; omega) | (simp only [lnA, lnC, lnN, Nat.reduceAdd])) only [go_sem, e_go, e_cond_bool, e_w_bool, e_step_ite, e_reg_ite, e_regW_ite, e_code_ite, e_block_ite, e_evQ_ite, e_fin_ite, e_pair_ite, Tryz.f68, iSr_eq, iSt'_eq, iHas'_eq, iClo_eq, iWi_eq, iOrM_told, hk0, k2]
      rw [if_pos bset_len.symm, hslb, Option.some.injEq]
      congr 1
      refine bset_congr fun j _ => ?_
      simp only [ImP, R_k2 k2]
      constructor
      · rintro ⟨i0, a, b, c, d⟩; exact ⟨i0, b, a, c, d⟩
      · rintro ⟨i0, b, a, c, d⟩; exact ⟨i0, a, b, c, d⟩
  · rcases k34 with k3 | k4
    · have hstep : ∀ (l : List Rx) (z : Rx), bset (L.length) (ImP (R t z) (isT (bset (L.length) (ImP (Rall t l) (isT L))))) = bset (L.length) (ImP (Rall t (l ++ [z])) (isT L)) := fun l z => bset_congr fun j _ => by
        have hlt : ∀ i, ImP (Rall t l) (isT L) i → i < (L.length) := fun i ⟨a, b, c⟩ => by
          have := Rall_le l (fun z _ => R_le z) a i c (by have := hSL a b; omega)
          omega
        constructor
        · rintro ⟨a, b, c⟩
          obtain ⟨i, d, e⟩ := (isT_bset' hlt).1 b
          exact ⟨i, d, Rall_snoc.2 ⟨a, e, c⟩⟩
        · rintro ⟨i, d, e⟩
          obtain ⟨a, f, c⟩ := Rall_snoc.1 e
          exact ⟨a, (isT_bset' hlt).2 ⟨i, d, f⟩, c⟩
      simp (disch := first | assumption | omega | exact okR_new | exact okR_one | exact trivial | (simp only [lnA, lnC, lnN]; omega) | (simp only [lnA, lnC, lnN, Nat.reduceAdd])) only [go_sem, e_go, e_cond_bool, e_w_bool, e_step_ite, e_reg_ite, e_regW_ite, e_code_ite, e_block_ite, e_evQ_ite, e_fin_ite, e_pair_ite, Tryz.f68, iSr_eq, iSt'_eq, iHas'_eq, iClo_eq, iWi_eq, iOrM_told, hk0, k3, hrep]
      refine w_loop [] [9, 10] (fun i : Nat => x.l.length - i) (fun i => i ≤ x.l.length) (fun i => ⟨[.cells 0 (cR x), .cells 1 (fl cB (List.replicate (L.length) false))], []⟩)
        (fun i => [(9, slc cB (bset (L.length) (ImP (Rall t (x.l.take i)) (isT L)))), (10, .int .i64 (i : Nat))]) 0 (fun _ => rfl) (by kernel_rfl) (Nat.zero_le _) rfl (by
          have e : bset (L.length) (ImP (Rall t []) (isT L)) = L := by
            refine Eq.trans (bset_congr (S' := isT L) fun j _ => ?_) (bset_isT hLN)
            simp only [ImP, Rall]
            exact ⟨fun ⟨i, a, b⟩ => b ▸ a, fun a => ⟨j, a, rfl⟩⟩
          simp [HasE, lk, e]) ?_
      intro i hi
      by_cases h1 : i < x.l.length
      · have hg : x.l[i]? = some x.l[i] := by simp [h1]
        have hat := fl_at cR_len hg
        have hle : i * 8 + 8 ≤ x.l.length * 8 := by omega
        have hw : IntKind.i64.wrap ((i : Int) + 1) = (i : Int) + 1 := IntWalk.i64_in _ (by have := hx.len; omega)
        have hcall := iSt'_eq (n := n) (x := x.l[i]) (t := t) (L := bset (L.length) (ImP (Rall t (x.l.take i)) (isT L))) ⟨⟨hx.kid hg, hr.kid (List.getElem_mem h1), by rw [bset_len, hN], ht⟩, by have := sz_kid hg; omega⟩
        have hsn : x.l.take (i + 1) = x.l.take i ++ [x.l[i]] := List.take_succ_eq_append_getElem h1
        rw [← hN, hstep, ← hsn] at hcall
        simp (disch := first | assumption | omega | exact okR_new | exact okR_one | exact trivial | (simp only [lnA, lnC, lnN]; omega) | (simp only [lnA, lnC, lnN, Nat.reduceAdd])) only [go_sem, e_go, e_cond_bool, e_w_bool, e_step_ite, e_reg_ite, e_regW_ite, e_code_ite, e_block_ite, e_evQ_ite, e_fin_ite, e_pair_ite, Tryz.f68, iSr_eq, iSt'_eq, iHas'_eq, iClo_eq, iWi_eq, iOrM_told, hk0, k3, hk7, hat, hw, hcall]
        exact ⟨i + 1, dn h1, h1, rfl, by simp [HasE, lk]⟩
      · have hi' : i = x.l.length := by omega
        subst hi'
        have e : bset (L.length) (ImP (Rall t (x.l.take x.l.length)) (isT L)) = bset (L.length) (ImP (R t x) (isT L)) := by
          rw [List.take_length]
          refine bset_congr fun j _ => ?_
          simp only [ImP, R_k3 k3]
        have hc1 := hcopy _ (bset (L.length) (ImP (R t x) (isT L))) hrN bset_len
        simp (disch := first | assumption | omega | exact okR_new | exact okR_one | exact trivial | (simp only [lnA, lnC, lnN]; omega) | (simp only [lnA, lnC, lnN, Nat.reduceAdd])) only [go_sem, e_go, e_cond_bool, e_w_bool, e_step_ite, e_reg_ite, e_regW_ite, e_code_ite, e_block_ite, e_evQ_ite, e_fin_ite, e_pair_ite, Tryz.f68, iSr_eq, iSt'_eq, iHas'_eq, iClo_eq, iWi_eq, iOrM_told, hk0, k3, hk7, e, hc1, hslb]
        rw [if_pos bset_len.symm]
    · have hstep : ∀ (l : List Rx) (z : Rx), orB (bset (L.length) (ImP (Rany t l) (isT L))) (bset (L.length) (ImP (R t z) (isT L))) = bset (L.length) (ImP (Rany t (l ++ [z])) (isT L)) := fun l z => by
        rw [orB_bset]
        refine bset_congr fun j _ => ?_
        simp only [ImP, Rany_snoc]
        constructor
        · rintro (⟨a, b, c⟩ | ⟨a, b, c⟩)
          · exact ⟨a, b, .inl c⟩
          · exact ⟨a, b, .inr c⟩
        · rintro ⟨a, b, c | c⟩
          · exact .inl ⟨a, b, c⟩
          · exact .inr ⟨a, b, c⟩
      have e0 : bset (L.length) (ImP (Rany t []) (isT L)) = List.replicate (L.length) false := bset_false fun j _ => by simp [ImP, Rany]
      simp (disch := first | assumption | omega | exact okR_new | exact okR_one | exact trivial | (simp only [lnA, lnC, lnN]; omega) | (simp only [lnA, lnC, lnN, Nat.reduceAdd])) only [go_sem, e_go, e_cond_bool, e_w_bool, e_step_ite, e_reg_ite, e_regW_ite, e_code_ite, e_block_ite, e_evQ_ite, e_fin_ite, e_pair_ite, Tryz.f68, iSr_eq, iSt'_eq, iHas'_eq, iClo_eq, iWi_eq, iOrM_told, hk0, k4, hrep]
      refine w_loop [] [7, 11] (fun i : Nat => x.l.length - i) (fun i => i ≤ x.l.length) (fun i => ⟨[.cells 0 (cR x), .cells 1 (fl cB (List.replicate (L.length) false))], []⟩)
        (fun i => [(7, if i = 0 then .msl 1 1 0 (L.length) (L.length) else slc cB (bset (L.length) (ImP (Rany t (x.l.take i)) (isT L)))), (11, .int .i64 (i : Nat))]) 0 (fun _ => rfl) (by kernel_rfl) (Nat.zero_le _) rfl (by simp [HasE, lk]) ?_
      intro i hi
      by_cases h1 : i < x.l.length
      · have hg : x.l[i]? = some x.l[i] := by simp [h1]
        have hat := fl_at cR_len hg
        have hle : i * 8 + 8 ≤ x.l.length * 8 := by omega
        have hw : IntKind.i64.wrap ((i : Int) + 1) = (i : Int) + 1 := IntWalk.i64_in _ (by have := hx.len; omega)
        have hcall := iSt'_eq (n := n) (x := x.l[i]) (t := t) (L := L) ⟨⟨hx.kid hg, hr.kid (List.getElem_mem h1), hL, ht⟩, by have := sz_kid hg; omega⟩
        rw [← hN] at hcall
        have hsn : x.l.take (i + 1) = x.l.take i ++ [x.l[i]] := List.take_succ_eq_append_getElem h1
        have hor : ∀ u m, _ → iOrM [u, slc cB (bset L.length (ImP (R t x.l[i]) (isT L)))] m = some (slc cB (bset L.length (ImP (Rany t (x.l.take (i + 1))) (isT L))), m) := fun u m hu => by
          have := iOrM_at (m := m) (u := u) (A := bset L.length (ImP (Rany t (x.l.take i)) (isT L))) (B := bset L.length (ImP (R t x.l[i]) (isT L))) ⟨by rw [bset_len, bset_len], by rw [bset_len]; omega⟩ hu
          rw [hstep, ← hsn] at this
          exact this
        by_cases hi0 : i = 0
        · subst hi0
          simp only [if_true]
          have hor1 := hor (.msl 1 1 0 L.length L.length) ⟨[.cells 0 (cR x), .cells 1 (fl cB (List.replicate L.length false))], []⟩ (.inr ⟨1, by rw [bset_len], by rw [List.take_zero, e0]; rfl, rfl, by simp only [shut, List.all_cons, cR_clo0, cB_clo1, List.all_nil, Bool.and_true]⟩)
          have hat0 : List.take 8 (fl cR x.l) = cR x.l[0] := by simpa using hat
          simp (disch := first | assumption | omega | exact okR_new | exact okR_one | exact trivial | (simp only [lnA, lnC, lnN]; omega) | (simp only [lnA, lnC, lnN, Nat.reduceAdd])) only [go_sem, e_go, e_cond_bool, e_w_bool, e_step_ite, e_reg_ite, e_regW_ite, e_code_ite, e_block_ite, e_evQ_ite, e_fin_ite, e_pair_ite, Tryz.f68, iSr_eq, iSt'_eq, iHas'_eq, iClo_eq, iWi_eq, iOrM_told, hk0, k4, hk7, hat0, hw, hcall, hor1]
          exact ⟨1, (by show x.l.length - 1 < x.l.length - 0; omega), h1, rfl, by simp [HasE, lk]⟩
        · simp only [if_neg hi0]
          have hor1 := fun m => hor (slc cB (bset L.length (ImP (Rany t (x.l.take i)) (isT L)))) m (.inl rfl)
          simp (disch := first | assumption | omega | exact okR_new | exact okR_one | exact trivial | (simp only [lnA, lnC, lnN]; omega) | (simp only [lnA, lnC, lnN, Nat.reduceAdd])) only [go_sem, e_go, e_cond_bool, e_w_bool, e_step_ite, e_reg_ite, e_regW_ite, e_code_ite, e_block_ite, e_evQ_ite, e_fin_ite, e_pair_ite, Tryz.f68, iSr_eq, iSt'_eq, iHas'_eq, iClo_eq, iWi_eq, iOrM_told, hk0, k4, hk7, hat, hw, hcall, hor1]
          exact ⟨i + 1, dn h1, h1, rfl, by simp [HasE, lk]⟩
      · have hi' : i = x.l.length := by omega
        subst hi'
        have e : bset (L.length) (ImP (Rany t (x.l.take x.l.length)) (isT L)) = bset (L.length) (ImP (R t x) (isT L)) := by
          rw [List.take_length]
          refine bset_congr fun j _ => ?_
          simp only [ImP, R_k4 k4]
        have hne : ¬ x.l.length = 0 := by omega
        simp only [if_neg hne]
        simp (disch := first | assumption | omega | exact okR_new | exact okR_one | exact trivial | (simp only [lnA, lnC, lnN]; omega) | (simp only [lnA, lnC, lnN, Nat.reduceAdd])) only [go_sem, e_go, e_cond_bool, e_w_bool, e_step_ite, e_reg_ite, e_regW_ite, e_code_ite, e_block_ite, e_evQ_ite, e_fin_ite, e_pair_ite, Tryz.f68, iSr_eq, iSt'_eq, iHas'_eq, iClo_eq, iWi_eq, iOrM_told, hk0, k4, hk7, e, hslb]
  · have hy : y ∈ x.l := by rw [hl]; simp
    have hlen : x.l.length = 1 := by rw [hl]; rfl
    have hk80 : List.take 8 (fl cR x.l) = cR y := by
      rw [hl, fl_cons]
      exact List.take_left' (cR_len y)
    have hoky := hx.mem hy
    have hry := hr.kid hy
    have hszy : sz y < n := by have := sz_mem hy; omega
    simp only [times, Bool.and_eq_true, Bool.or_eq_true, decide_eq_true_eq] at htm
    obtain ⟨⟨hlo0, hlo⟩, hhi⟩ := htm
    have hlb : ∀ S, (fl cB (bset L.length S)).length = L.length := fun S => by rw [fl_len cB_len, bset_len, Nat.mul_one]
    by_cases hsz : size x = 0
    · have e1 : bset L.length (ImP (R t x) (isT L)) = L := by
        refine Eq.trans (bset_congr (S' := isT L) fun j _ => ?_) (bset_isT hLN)
        simp only [ImP, R_k5 k5 hl, hsz, if_true]
        exact ⟨fun ⟨i, a, b⟩ => b ▸ a, fun a => ⟨j, a, rfl⟩⟩
      rw [e1]
      have hc1 := hcopy _ L hrN hLN
      simp (disch := first | assumption | omega | exact okR_new | exact okR_one | exact trivial | (simp only [lnA, lnC, lnN]; omega) | (simp only [lnA, lnC, lnN, Nat.reduceAdd])) only [go_sem, e_go, e_cond_bool, e_w_bool, e_step_ite, e_reg_ite, e_regW_ite, e_code_ite, e_block_ite, e_evQ_ite, e_fin_ite, e_pair_ite, Tryz.f68, iSr_eq, iSt'_eq, iHas'_eq, iClo_eq, iWi_eq, iOrM_told, hk0, k5, hrep, hsz, hc1]
    · have hRe : ∀ S, (∀ j, S j ↔ ImP (fun i j => ∃ k, upTo (Hk.more x.lo x.hi y) k ∧ iter (R t y) (x.lo.toNat + k) i j) (isT L) j) → bset L.length S = bset L.length (ImP (R t x) (isT L)) := fun S hS => bset_congr fun j _ => by
        rw [hS j]
        simp only [ImP, R_k5 k5 hl, hsz, if_false]
      have hItl : ∀ k i, ImP (iter (R t y) k) (isT L) i → i < L.length := fun k i => ImP_lt (iter_lt (hRl y) k) hSL
      have hcall : ∀ k, iSt' n [rV y, .str t, slc cB (bset L.length (ImP (iter (R t y) k) (isT L)))] = some (slc cB (bset L.length (ImP (iter (R t y) (k + 1)) (isT L)))) := fun k => by
        have := iSt'_eq (n := n) (x := y) (t := t) (L := bset L.length (ImP (iter (R t y) k) (isT L))) ⟨⟨hoky, hry, by rw [bset_len]; exact hN, ht⟩, hszy⟩
        rw [this, ← hN]
        congr 2
        refine bset_congr fun j _ => ?_
        rw [← ImP_iter]
        constructor
        · rintro ⟨i, a, b⟩; exact ⟨i, (isT_bset' (hItl k)).1 a, b⟩
        · rintro ⟨i, a, b⟩; exact ⟨i, (isT_bset' (hItl k)).2 a, b⟩
      have hi0 : bset L.length (ImP (iter (R t y) 0) (isT L)) = L := by
        refine Eq.trans (bset_congr (S' := isT L) fun j _ => ?_) (bset_isT hLN)
        simp only [ImP, iter]
        exact ⟨fun ⟨i, a, b⟩ => b ▸ a, fun a => ⟨j, a, rfl⟩⟩
      simp (disch := first | assumption | omega | exact okR_new | exact okR_one | exact trivial | (simp only [lnA, lnC, lnN]; omega) | (simp only [lnA, lnC, lnN, Nat.reduceAdd])) only [go_sem, e_go, e_cond_bool, e_w_bool, e_step_ite, e_reg_ite, e_regW_ite, e_code_ite, e_block_ite, e_evQ_ite, e_fin_ite, e_pair_ite, Tryz.f68, iSr_eq, iSt'_eq, iHas'_eq, iClo_eq, iWi_eq, iOrM_told, hk0, k5, hrep, hsz]
      refine w_loop [] [12, 13] (fun i : Nat => x.lo.toNat - i) (fun i => i ≤ x.lo.toNat) (fun i => ⟨[.cells 0 (cR x), .cells 1 (fl cB (List.replicate L.length false))], []⟩)
        (fun i => [(12, slc cB (bset L.length (ImP (iter (R t y) i) (isT L)))), (13, .int .i64 (i : Nat))]) 0 (fun _ => rfl) (by kernel_rfl) (Nat.zero_le _) rfl (by simp [HasE, lk, hi0]) ?_
      intro i hi
      by_cases h1 : i < x.lo.toNat
      · have hd0 : decide ((i : Int) < x.lo) = true := by simp; omega
        have hw : IntKind.i64.wrap ((i : Int) + 1) = (i : Int) + 1 := IntWalk.i64_in _ (by omega)
        simp (disch := first | assumption | omega | exact okR_new | exact okR_one | exact trivial | (simp only [lnA, lnC, lnN]; omega) | (simp only [lnA, lnC, lnN, Nat.reduceAdd])) only [go_sem, e_go, e_cond_bool, e_w_bool, e_step_ite, e_reg_ite, e_regW_ite, e_code_ite, e_block_ite, e_evQ_ite, e_fin_ite, e_pair_ite, Tryz.f68, iSr_eq, iSt'_eq, iHas'_eq, iClo_eq, iWi_eq, iOrM_told, hk0, k5, hk5, hk7, hk80, hlen, hd0, hw, hcall]
        exact ⟨i + 1, dn h1, h1, rfl, by simp [HasE, lk]⟩
      · have hi' : i = x.lo.toNat := by omega
        subst hi'
        have hd0 : decide (((x.lo.toNat : Nat) : Int) < x.lo) = false := by simp; omega
        have hhi2 : -1 ≤ x.hi ∧ x.hi ≤ 20 := by rcases hhi with hh | hh; omega; have := (imax_le (x := 1) (y := x.lo)).1; omega
        have hw1 : IntKind.i64.wrap (x.hi - x.lo) = x.hi - x.lo := IntWalk.i64_in _ (by omega)
        have hw2 : IntKind.i64.wrap (1 - x.lo) = 1 - x.lo := IntWalk.i64_in _ (by omega)
        have hc1 := hcopy _ (bset L.length (ImP (iter (R t y) x.lo.toNat) (isT L))) hrN bset_len
        have hD0 : bset L.length (ImP (iter (R t y) x.lo.toNat) (isT L)) = bset L.length (DS (R t y) (isT L) x.lo.toNat 0) := bset_congr fun j _ => DS_zero.symm
        have hDl : ∀ k j, DS (R t y) (isT L) x.lo.toNat k j → j < L.length := fun k j ⟨q, _, h2⟩ => hItl _ j h2
        have hwi : ∀ k, iWi [slc cB (bset L.length (ImP (iter (R t y) (x.lo.toNat + k + 1)) (isT L))), slc cB (bset L.length (DS (R t y) (isT L) x.lo.toNat k))] = some (.bool (inB (bset L.length (ImP (iter (R t y) (x.lo.toNat + k + 1)) (isT L))) (bset L.length (DS (R t y) (isT L) x.lo.toNat k)))) := fun k => iWi_eq ⟨by rw [bset_len, bset_len], by rw [bset_len]; omega⟩
        have hin : ∀ k, inB (bset L.length (ImP (iter (R t y) (x.lo.toNat + k + 1)) (isT L))) (bset L.length (DS (R t y) (isT L) x.lo.toNat k)) = true ↔ ∀ j, ImP (iter (R t y) (x.lo.toNat + (k + 1))) (isT L) j → DS (R t y) (isT L) x.lo.toNat k j := fun k => by
          rw [inB_iff (by rw [bset_len, bset_len])]
          constructor
          · intro h j hj; exact (isT_bset' (hDl k)).1 (h j ((isT_bset' (hItl _)).2 hj))
          · intro h j hj; exact (isT_bset' (hDl k)).2 (h j ((isT_bset' (hItl _)).1 hj))
        have hor : ∀ k u m, _ → iOrM [u, slc cB (bset L.length (ImP (iter (R t y) (x.lo.toNat + k + 1)) (isT L)))] m = some (slc cB (bset L.length (DS (R t y) (isT L) x.lo.toNat (k + 1))), m) := fun k u m hu => by
          have := iOrM_at (m := m) (u := u) (A := bset L.length (DS (R t y) (isT L) x.lo.toNat k)) (B := bset L.length (ImP (iter (R t y) (x.lo.toNat + k + 1)) (isT L))) ⟨by rw [bset_len, bset_len], by rw [bset_len]; omega⟩ hu
          rw [this, orB_bset]
          congr 3
          exact bset_congr fun j _ => DS_succ.symm
        have hsh : ∀ S, shut ⟨[.cells 0 (cR x), .cells 1 (fl cB (bset L.length S))], []⟩ = true := fun S => by simp only [shut, List.all_cons, cR_clo0, cB_clo1, List.all_nil, Bool.and_true]
        by_cases c1 : 0 ≤ x.hi
        · have hmx := imax_le (x := 1) (y := x.lo)
          obtain ⟨M, hM⟩ : ∃ M : Nat, x.hi - x.lo = (M : Int) := ⟨(x.hi - x.lo).toNat, by rcases hhi with hh | hh <;> omega⟩
          have hmo : Hk.more x.lo x.hi y = some M := by simp only [Hk.more, c1, if_true]; congr 1; omega
          have hML : M < 1000 := by omega
          rw [hM] at hw1
          simp (disch := first | assumption | omega | exact okR_new | exact okR_one | exact trivial | (simp only [lnA, lnC, lnN]; omega) | (simp only [lnA, lnC, lnN, Nat.reduceAdd])) only [go_sem, e_go, e_cond_bool, e_w_bool, e_step_ite, e_reg_ite, e_regW_ite, e_code_ite, e_block_ite, e_evQ_ite, e_fin_ite, e_pair_ite, Tryz.f68, iSr_eq, iSt'_eq, iHas'_eq, iClo_eq, iWi_eq, iOrM_told, hk0, k5, hk5, hk6, hk7, hk80, hlen, hd0, hc1, hw1, hM]
          refine w_loop [] [7, 12, 15] (fun i : Nat => M - i) (fun i => i ≤ M) (fun i => ⟨[.cells 0 (cR x), .cells 1 (fl cB (bset L.length (DS (R t y) (isT L) x.lo.toNat 0)))], []⟩)
            (fun i => [(7, if i = 0 then .msl 1 1 0 L.length L.length else slc cB (bset L.length (DS (R t y) (isT L) x.lo.toNat i))), (12, slc cB (bset L.length (ImP (iter (R t y) (x.lo.toNat + i)) (isT L)))), (15, .int .i64 (i : Nat))]) 0 (fun _ => rfl) (by kernel_rfl) (Nat.zero_le _) (by rw [hD0]) (by simp [HasE, lk]) ?_
          rintro i hi
          have hw : IntKind.i64.wrap ((i : Int) + 1) = (i : Int) + 1 := IntWalk.i64_in _ (by omega)
          have hc2 := hcall (x.lo.toNat + i)
          have hw3 := hwi i
          by_cases h1 : i < M
          · have hd1 : decide ((i : Int) < (M : Int)) = true := by simp; omega
            cases hbr : inB (bset L.length (ImP (iter (R t y) (x.lo.toNat + i + 1)) (isT L))) (bset L.length (DS (R t y) (isT L) x.lo.toNat i))
            · have hgr : True := by
                trivial
              by_cases hi0 : i = 0
              · have hDi : bset L.length (DS (R t y) (isT L) x.lo.toNat 0) = bset L.length (DS (R t y) (isT L) x.lo.toNat i) := by rw [hi0]
                simp only [if_pos hi0]
                have hor1 := hor i (.msl 1 1 0 L.length L.length) ⟨[.cells 0 (cR x), .cells 1 (fl cB (bset L.length (DS (R t y) (isT L) x.lo.toNat i)))], []⟩ (.inr ⟨1, by rw [bset_len], rfl, rfl, hsh _⟩)
                simp (disch := first | assumption | omega | exact okR_new | exact okR_one | exact trivial | (simp only [lnA, lnC, lnN]; omega) | (simp only [lnA, lnC, lnN, Nat.reduceAdd])) only [go_sem, e_go, e_cond_bool, e_w_bool, e_step_ite, e_reg_ite, e_regW_ite, e_code_ite, e_block_ite, e_evQ_ite, e_fin_ite, e_pair_ite, Tryz.f68, iSr_eq, iSt'_eq, iHas'_eq, iClo_eq, iWi_eq, iOrM_told, hk0, k5, hk5, hk6, hk7, hk80, hlen, hd1, hw, hc2, hDi, hor1, hlb, hslb, hw3, hbr]
                exact ⟨i + 1, (by show M - (i + 1) < M - i; omega), h1, rfl, by simp [HasE, lk, Nat.add_assoc]⟩
              · simp only [if_neg hi0]
                have hor1 := fun m => hor i (slc cB (bset L.length (DS (R t y) (isT L) x.lo.toNat i))) m (.inl rfl)
                simp (disch := first | assumption | omega | exact okR_new | exact okR_one | exact trivial | (simp only [lnA, lnC, lnN]; omega) | (simp only [lnA, lnC, lnN, Nat.reduceAdd])) only [go_sem, e_go, e_cond_bool, e_w_bool, e_step_ite, e_reg_ite, e_regW_ite, e_code_ite, e_block_ite, e_evQ_ite, e_fin_ite, e_pair_ite, Tryz.f68, iSr_eq, iSt'_eq, iHas'_eq, iClo_eq, iWi_eq, iOrM_told, hk0, k5, hk5, hk6, hk7, hk80, hlen, hd1, hw, hc2, hor1, hw3, hbr]
                exact ⟨i + 1, (by show M - (i + 1) < M - i; omega), h1, rfl, by simp [HasE, lk, Nat.add_assoc]⟩
            · have hres : bset L.length (DS (R t y) (isT L) x.lo.toNat i) = bset L.length (ImP (R t x) (isT L)) := hRe _ fun j => by
                rw [hmo]
                exact DS_stand (o := some M) hi ((hin i).1 hbr)
              by_cases hi0 : i = 0
              · have hDi : bset L.length (DS (R t y) (isT L) x.lo.toNat 0) = bset L.length (DS (R t y) (isT L) x.lo.toNat i) := by rw [hi0]
                simp only [if_pos hi0]
                simp (disch := first | assumption | omega | exact okR_new | exact okR_one | exact trivial | (simp only [lnA, lnC, lnN]; omega) | (simp only [lnA, lnC, lnN, Nat.reduceAdd])) only [go_sem, e_go, e_cond_bool, e_w_bool, e_step_ite, e_reg_ite, e_regW_ite, e_code_ite, e_block_ite, e_evQ_ite, e_fin_ite, e_pair_ite, Tryz.f68, iSr_eq, iSt'_eq, iHas'_eq, iClo_eq, iWi_eq, iOrM_told, hk0, k5, hk5, hk6, hk7, hk80, hlen, hd1, hw, hc2, hDi, hlb, hslb, hw3, hbr]
                rw [hres]
              · simp only [if_neg hi0]
                simp (disch := first | assumption | omega | exact okR_new | exact okR_one | exact trivial | (simp only [lnA, lnC, lnN]; omega) | (simp only [lnA, lnC, lnN, Nat.reduceAdd])) only [go_sem, e_go, e_cond_bool, e_w_bool, e_step_ite, e_reg_ite, e_regW_ite, e_code_ite, e_block_ite, e_evQ_ite, e_fin_ite, e_pair_ite, Tryz.f68, iSr_eq, iSt'_eq, iHas'_eq, iClo_eq, iWi_eq, iOrM_told, hk0, k5, hk5, hk6, hk7, hk80, hlen, hd1, hw, hc2, hw3, hbr]
                rw [hres]
          · have hd1 : decide ((i : Int) < (M : Int)) = false := by simp; omega
            have hres : bset L.length (DS (R t y) (isT L) x.lo.toNat i) = bset L.length (ImP (R t x) (isT L)) := by
              obtain rfl : i = M := by omega
              exact hRe _ fun j => by rw [hmo]; exact DS_bound
            by_cases hi0 : i = 0
            · have hDi : bset L.length (DS (R t y) (isT L) x.lo.toNat 0) = bset L.length (DS (R t y) (isT L) x.lo.toNat i) := by rw [hi0]
              simp only [if_pos hi0]
              simp (disch := first | assumption | omega | exact okR_new | exact okR_one | exact trivial | (simp only [lnA, lnC, lnN]; omega) | (simp only [lnA, lnC, lnN, Nat.reduceAdd])) only [go_sem, e_go, e_cond_bool, e_w_bool, e_step_ite, e_reg_ite, e_regW_ite, e_code_ite, e_block_ite, e_evQ_ite, e_fin_ite, e_pair_ite, Tryz.f68, iSr_eq, iSt'_eq, iHas'_eq, iClo_eq, iWi_eq, iOrM_told, hk0, k5, hk5, hk6, hk7, hk80, hlen, hd1, hDi, hlb, hslb]
              rw [hres]
            · simp only [if_neg hi0]
              simp (disch := first | assumption | omega | exact okR_new | exact okR_one | exact trivial | (simp only [lnA, lnC, lnN]; omega) | (simp only [lnA, lnC, lnN, Nat.reduceAdd])) only [go_sem, e_go, e_cond_bool, e_w_bool, e_step_ite, e_reg_ite, e_regW_ite, e_code_ite, e_block_ite, e_evQ_ite, e_fin_ite, e_pair_ite, Tryz.f68, iSr_eq, iSt'_eq, iHas'_eq, iClo_eq, iWi_eq, iOrM_told, hk0, k5, hk5, hk6, hk7, hk80, hlen, hd1, hslb]
              rw [hres]
        · cases hlp : loopy y
          · have hmo : Hk.more x.lo x.hi y = none := by simp [Hk.more, c1, hlp]
            obtain ⟨M, hM⟩ : ∃ M : Nat, M = L.length := ⟨_, rfl⟩
            simp (disch := first | assumption | omega | exact okR_new | exact okR_one | exact trivial | (simp only [lnA, lnC, lnN]; omega) | (simp only [lnA, lnC, lnN, Nat.reduceAdd])) only [go_sem, e_go, e_cond_bool, e_w_bool, e_step_ite, e_reg_ite, e_regW_ite, e_code_ite, e_block_ite, e_evQ_ite, e_fin_ite, e_pair_ite, Tryz.f68, iSr_eq, iSt'_eq, iHas'_eq, iClo_eq, iWi_eq, iOrM_told, hk0, k5, hk5, hk6, hk7, hk80, hlen, hd0, hc1, hw1, hlp]
            refine w_loop [] [7, 12, 15] (fun i : Nat => M - i) (fun i => i ≤ M ∧ i ≤ (cset L.length (DS (R t y) (isT L) x.lo.toNat i)).length) (fun i => ⟨[.cells 0 (cR x), .cells 1 (fl cB (bset L.length (DS (R t y) (isT L) x.lo.toNat 0)))], []⟩)
              (fun i => [(7, if i = 0 then .msl 1 1 0 L.length L.length else slc cB (bset L.length (DS (R t y) (isT L) x.lo.toNat i))), (12, slc cB (bset L.length (ImP (iter (R t y) (x.lo.toNat + i)) (isT L)))), (15, .int .i64 (i : Nat))]) 0 (fun _ => rfl) (by kernel_rfl) ⟨Nat.zero_le _, Nat.zero_le _⟩ (by rw [hD0]) (by simp [HasE, lk]) ?_
            rintro i ⟨hi, hX⟩
            have hw : IntKind.i64.wrap ((i : Int) + 1) = (i : Int) + 1 := IntWalk.i64_in _ (by omega)
            have hc2 := hcall (x.lo.toNat + i)
            have hw3 := hwi i
            by_cases h1 : i < M
            · have hd1 : decide ((i : Int) < (L.length : Int)) = true := by simp; omega
              cases hbr : inB (bset L.length (ImP (iter (R t y) (x.lo.toNat + i + 1)) (isT L))) (bset L.length (DS (R t y) (isT L) x.lo.toNat i))
              · have hgr : i + 1 ≤ (cset L.length (DS (R t y) (isT L) x.lo.toNat (i + 1))).length := by
                  by_cases hall : ∀ j, ImP (iter (R t y) (x.lo.toNat + (i + 1))) (isT L) j → DS (R t y) (isT L) x.lo.toNat i j
                  · rw [(hin i).2 hall] at hbr; cases hbr
                  · obtain ⟨j, hj⟩ := Classical.not_forall.1 hall
                    rw [Classical.not_imp] at hj
                    have := cset_grow (N := L.length) (S := DS (R t y) (isT L) x.lo.toNat i) (S' := DS (R t y) (isT L) x.lo.toNat (i + 1)) (fun j h => DS_succ.2 (.inl h)) (hItl _ j hj.1) (DS_succ.2 (.inr hj.1)) hj.2
                    omega
                by_cases hi0 : i = 0
                · have hDi : bset L.length (DS (R t y) (isT L) x.lo.toNat 0) = bset L.length (DS (R t y) (isT L) x.lo.toNat i) := by rw [hi0]
                  simp only [if_pos hi0]
                  have hor1 := hor i (.msl 1 1 0 L.length L.length) ⟨[.cells 0 (cR x), .cells 1 (fl cB (bset L.length (DS (R t y) (isT L) x.lo.toNat i)))], []⟩ (.inr ⟨1, by rw [bset_len], rfl, rfl, hsh _⟩)
                  simp (disch := first | assumption | omega | exact okR_new | exact okR_one | exact trivial | (simp only [lnA, lnC, lnN]; omega) | (simp only [lnA, lnC, lnN, Nat.reduceAdd])) only [go_sem, e_go, e_cond_bool, e_w_bool, e_step_ite, e_reg_ite, e_regW_ite, e_code_ite, e_block_ite, e_evQ_ite, e_fin_ite, e_pair_ite, Tryz.f68, iSr_eq, iSt'_eq, iHas'_eq, iClo_eq, iWi_eq, iOrM_told, hk0, k5, hk5, hk6, hk7, hk80, hlen, hd1, hw, hc2, hDi, hor1, hlb, hslb, hw3, hbr]
                  exact ⟨i + 1, (by show M - (i + 1) < M - i; omega), ⟨h1, hgr⟩, rfl, by simp [HasE, lk, Nat.add_assoc]⟩
                · simp only [if_neg hi0]
                  have hor1 := fun m => hor i (slc cB (bset L.length (DS (R t y) (isT L) x.lo.toNat i))) m (.inl rfl)
                  simp (disch := first | assumption | omega | exact okR_new | exact okR_one | exact trivial | (simp only [lnA, lnC, lnN]; omega) | (simp only [lnA, lnC, lnN, Nat.reduceAdd])) only [go_sem, e_go, e_cond_bool, e_w_bool, e_step_ite, e_reg_ite, e_regW_ite, e_code_ite, e_block_ite, e_evQ_ite, e_fin_ite, e_pair_ite, Tryz.f68, iSr_eq, iSt'_eq, iHas'_eq, iClo_eq, iWi_eq, iOrM_told, hk0, k5, hk5, hk6, hk7, hk80, hlen, hd1, hw, hc2, hor1, hw3, hbr]
                  exact ⟨i + 1, (by show M - (i + 1) < M - i; omega), ⟨h1, hgr⟩, rfl, by simp [HasE, lk, Nat.add_assoc]⟩
              · have hres : bset L.length (DS (R t y) (isT L) x.lo.toNat i) = bset L.length (ImP (R t x) (isT L)) := hRe _ fun j => by
                  rw [hmo]
                  exact DS_stand (o := none) trivial ((hin i).1 hbr)
                by_cases hi0 : i = 0
                · have hDi : bset L.length (DS (R t y) (isT L) x.lo.toNat 0) = bset L.length (DS (R t y) (isT L) x.lo.toNat i) := by rw [hi0]
                  simp only [if_pos hi0]
                  simp (disch := first | assumption | omega | exact okR_new | exact okR_one | exact trivial | (simp only [lnA, lnC, lnN]; omega) | (simp only [lnA, lnC, lnN, Nat.reduceAdd])) only [go_sem, e_go, e_cond_bool, e_w_bool, e_step_ite, e_reg_ite, e_regW_ite, e_code_ite, e_block_ite, e_evQ_ite, e_fin_ite, e_pair_ite, Tryz.f68, iSr_eq, iSt'_eq, iHas'_eq, iClo_eq, iWi_eq, iOrM_told, hk0, k5, hk5, hk6, hk7, hk80, hlen, hd1, hw, hc2, hDi, hlb, hslb, hw3, hbr]
                  rw [hres]
                · simp only [if_neg hi0]
                  simp (disch := first | assumption | omega | exact okR_new | exact okR_one | exact trivial | (simp only [lnA, lnC, lnN]; omega) | (simp only [lnA, lnC, lnN, Nat.reduceAdd])) only [go_sem, e_go, e_cond_bool, e_w_bool, e_step_ite, e_reg_ite, e_regW_ite, e_code_ite, e_block_ite, e_evQ_ite, e_fin_ite, e_pair_ite, Tryz.f68, iSr_eq, iSt'_eq, iHas'_eq, iClo_eq, iWi_eq, iOrM_told, hk0, k5, hk5, hk6, hk7, hk80, hlen, hd1, hw, hc2, hw3, hbr]
                  rw [hres]
            · have hd1 : decide ((i : Int) < (L.length : Int)) = false := by simp; omega
              have hres : bset L.length (DS (R t y) (isT L) x.lo.toNat i) = bset L.length (ImP (R t x) (isT L)) := by
                refine bset_congr fun j hj => ?_
                have hf : DS (R t y) (isT L) x.lo.toNat i j := cset_full (by omega) hj
                refine ⟨fun _ => ?_, fun _ => hf⟩
                have := DS_any hf
                simp only [ImP, R_k5 k5 hl, hsz, if_false, hmo]
                exact this
              by_cases hi0 : i = 0
              · have hDi : bset L.length (DS (R t y) (isT L) x.lo.toNat 0) = bset L.length (DS (R t y) (isT L) x.lo.toNat i) := by rw [hi0]
                simp only [if_pos hi0]
                simp (disch := first | assumption | omega | exact okR_new | exact okR_one | exact trivial | (simp only [lnA, lnC, lnN]; omega) | (simp only [lnA, lnC, lnN, Nat.reduceAdd])) only [go_sem, e_go, e_cond_bool, e_w_bool, e_step_ite, e_reg_ite, e_regW_ite, e_code_ite, e_block_ite, e_evQ_ite, e_fin_ite, e_pair_ite, Tryz.f68, iSr_eq, iSt'_eq, iHas'_eq, iClo_eq, iWi_eq, iOrM_told, hk0, k5, hk5, hk6, hk7, hk80, hlen, hd1, hDi, hlb, hslb]
                rw [hres]
              · simp only [if_neg hi0]
                simp (disch := first | assumption | omega | exact okR_new | exact okR_one | exact trivial | (simp only [lnA, lnC, lnN]; omega) | (simp only [lnA, lnC, lnN, Nat.reduceAdd])) only [go_sem, e_go, e_cond_bool, e_w_bool, e_step_ite, e_reg_ite, e_regW_ite, e_code_ite, e_block_ite, e_evQ_ite, e_fin_ite, e_pair_ite, Tryz.f68, iSr_eq, iSt'_eq, iHas'_eq, iClo_eq, iWi_eq, iOrM_told, hk0, k5, hk5, hk6, hk7, hk80, hlen, hd1, hslb]
                rw [hres]
          · obtain ⟨M, hM⟩ : ∃ M : Nat, imax 0 (1 - x.lo) = (M : Int) := ⟨(imax 0 (1 - x.lo)).toNat, by have := imax_le (x := 0) (y := 1 - x.lo); omega⟩
            have hmo : Hk.more x.lo x.hi y = some M := by simp only [Hk.more, c1, if_false, hlp, if_true]; congr 1; have := imax_le (x := 0) (y := 1 - x.lo); omega
            have hML : M < 1000 := by have := imax_le (x := 0) (y := 1 - x.lo); omega
            simp (disch := first | assumption | omega | exact okR_new | exact okR_one | exact trivial | (simp only [lnA, lnC, lnN]; omega) | (simp only [lnA, lnC, lnN, Nat.reduceAdd])) only [go_sem, e_go, e_cond_bool, e_w_bool, e_step_ite, e_reg_ite, e_regW_ite, e_code_ite, e_block_ite, e_evQ_ite, e_fin_ite, e_pair_ite, Tryz.f68, iSr_eq, iSt'_eq, iHas'_eq, iClo_eq, iWi_eq, iOrM_told, hk0, k5, hk5, hk6, hk7, hk80, hlen, hd0, hc1, hw1, hw2, hlp, hM]
            refine w_loop [] [7, 12, 15] (fun i : Nat => M - i) (fun i => i ≤ M) (fun i => ⟨[.cells 0 (cR x), .cells 1 (fl cB (bset L.length (DS (R t y) (isT L) x.lo.toNat 0)))], []⟩)
              (fun i => [(7, if i = 0 then .msl 1 1 0 L.length L.length else slc cB (bset L.length (DS (R t y) (isT L) x.lo.toNat i))), (12, slc cB (bset L.length (ImP (iter (R t y) (x.lo.toNat + i)) (isT L)))), (15, .int .i64 (i : Nat))]) 0 (fun _ => rfl) (by kernel_rfl) (Nat.zero_le _) (by rw [hD0]) (by simp [HasE, lk]) ?_
            rintro i hi
            have hw : IntKind.i64.wrap ((i : Int) + 1) = (i : Int) + 1 := IntWalk.i64_in _ (by omega)
            have hc2 := hcall (x.lo.toNat + i)
            have hw3 := hwi i
            by_cases h1 : i < M
            · have hd1 : decide ((i : Int) < (M : Int)) = true := by simp; omega
              cases hbr : inB (bset L.length (ImP (iter (R t y) (x.lo.toNat + i + 1)) (isT L))) (bset L.length (DS (R t y) (isT L) x.lo.toNat i))
              · have hgr : True := by
                  trivial
                by_cases hi0 : i = 0
                · have hDi : bset L.length (DS (R t y) (isT L) x.lo.toNat 0) = bset L.length (DS (R t y) (isT L) x.lo.toNat i) := by rw [hi0]
                  simp only [if_pos hi0]
                  have hor1 := hor i (.msl 1 1 0 L.length L.length) ⟨[.cells 0 (cR x), .cells 1 (fl cB (bset L.length (DS (R t y) (isT L) x.lo.toNat i)))], []⟩ (.inr ⟨1, by rw [bset_len], rfl, rfl, hsh _⟩)
                  simp (disch := first | assumption | omega | exact okR_new | exact okR_one | exact trivial | (simp only [lnA, lnC, lnN]; omega) | (simp only [lnA, lnC, lnN, Nat.reduceAdd])) only [go_sem, e_go, e_cond_bool, e_w_bool, e_step_ite, e_reg_ite, e_regW_ite, e_code_ite, e_block_ite, e_evQ_ite, e_fin_ite, e_pair_ite, Tryz.f68, iSr_eq, iSt'_eq, iHas'_eq, iClo_eq, iWi_eq, iOrM_told, hk0, k5, hk5, hk6, hk7, hk80, hlen, hd1, hw, hc2, hDi, hor1, hlb, hslb, hw3, hbr]
                  exact ⟨i + 1, (by show M - (i + 1) < M - i; omega), h1, rfl, by simp [HasE, lk, Nat.add_assoc]⟩
                · simp only [if_neg hi0]
                  have hor1 := fun m => hor i (slc cB (bset L.length (DS (R t y) (isT L) x.lo.toNat i))) m (.inl rfl)
                  simp (disch := first | assumption | omega | exact okR_new | exact okR_one | exact trivial | (simp only [lnA, lnC, lnN]; omega) | (simp only [lnA, lnC, lnN, Nat.reduceAdd])) only [go_sem, e_go, e_cond_bool, e_w_bool, e_step_ite, e_reg_ite, e_regW_ite, e_code_ite, e_block_ite, e_evQ_ite, e_fin_ite, e_pair_ite, Tryz.f68, iSr_eq, iSt'_eq, iHas'_eq, iClo_eq, iWi_eq, iOrM_told, hk0, k5, hk5, hk6, hk7, hk80, hlen, hd1, hw, hc2, hor1, hw3, hbr]
                  exact ⟨i + 1, (by show M - (i + 1) < M - i; omega), h1, rfl, by simp [HasE, lk, Nat.add_assoc]⟩
              · have hres : bset L.length (DS (R t y) (isT L) x.lo.toNat i) = bset L.length (ImP (R t x) (isT L)) := hRe _ fun j => by
                  rw [hmo]
                  exact DS_stand (o := some M) hi ((hin i).1 hbr)
                by_cases hi0 : i = 0
                · have hDi : bset L.length (DS (R t y) (isT L) x.lo.toNat 0) = bset L.length (DS (R t y) (isT L) x.lo.toNat i) := by rw [hi0]
                  simp only [if_pos hi0]
                  simp (disch := first | assumption | omega | exact okR_new | exact okR_one | exact trivial | (simp only [lnA, lnC, lnN]; omega) | (simp only [lnA, lnC, lnN, Nat.reduceAdd])) only [go_sem, e_go, e_cond_bool, e_w_bool, e_step_ite, e_reg_ite, e_regW_ite, e_code_ite, e_block_ite, e_evQ_ite, e_fin_ite, e_pair_ite, Tryz.f68, iSr_eq, iSt'_eq, iHas'_eq, iClo_eq, iWi_eq, iOrM_told, hk0, k5, hk5, hk6, hk7, hk80, hlen, hd1, hw, hc2, hDi, hlb, hslb, hw3, hbr]
                  rw [hres]
                · simp only [if_neg hi0]
                  simp (disch := first | assumption | omega | exact okR_new | exact okR_one | exact trivial | (simp only [lnA, lnC, lnN]; omega) | (simp only [lnA, lnC, lnN, Nat.reduceAdd])) only [go_sem, e_go, e_cond_bool, e_w_bool, e_step_ite, e_reg_ite, e_regW_ite, e_code_ite, e_block_ite, e_evQ_ite, e_fin_ite, e_pair_ite, Tryz.f68, iSr_eq, iSt'_eq, iHas'_eq, iClo_eq, iWi_eq, iOrM_told, hk0, k5, hk5, hk6, hk7, hk80, hlen, hd1, hw, hc2, hw3, hbr]
                  rw [hres]
            · have hd1 : decide ((i : Int) < (M : Int)) = false := by simp; omega
              have hres : bset L.length (DS (R t y) (isT L) x.lo.toNat i) = bset L.length (ImP (R t x) (isT L)) := by
                obtain rfl : i = M := by omega
                exact hRe _ fun j => by rw [hmo]; exact DS_bound
              by_cases hi0 : i = 0
              · have hDi : bset L.length (DS (R t y) (isT L) x.lo.toNat 0) = bset L.length (DS (R t y) (isT L) x.lo.toNat i) := by rw [hi0]
                simp only [if_pos hi0]
                simp (disch := first | assumption | omega | exact okR_new | exact okR_one | exact trivial | (simp only [lnA, lnC, lnN]; omega) | (simp only [lnA, lnC, lnN, Nat.reduceAdd])) only [go_sem, e_go, e_cond_bool, e_w_bool, e_step_ite, e_reg_ite, e_regW_ite, e_code_ite, e_block_ite, e_evQ_ite, e_fin_ite, e_pair_ite, Tryz.f68, iSr_eq, iSt'_eq, iHas'_eq, iClo_eq, iWi_eq, iOrM_told, hk0, k5, hk5, hk6, hk7, hk80, hlen, hd1, hDi, hlb, hslb]
                rw [hres]
              · simp only [if_neg hi0]
                simp (disch := first | assumption | omega | exact okR_new | exact okR_one | exact trivial | (simp only [lnA, lnC, lnN]; omega) | (simp only [lnA, lnC, lnN, Nat.reduceAdd])) only [go_sem, e_go, e_cond_bool, e_w_bool, e_step_ite, e_reg_ite, e_regW_ite, e_code_ite, e_block_ite, e_evQ_ite, e_fin_ite, e_pair_ite, Tryz.f68, iSr_eq, iSt'_eq, iHas'_eq, iClo_eq, iWi_eq, iOrM_told, hk0, k5, hk5, hk6, hk7, hk80, hlen, hd1, hslb]
                rw [hres]
theorem iSt'_all : ∀ n xs v, iSt' n xs = some v → PCall Tryz.prog 68 xs v := by
  intro n
  induction n with
  | zero => intro xs v h0; obtain ⟨x, t, L, h, rfl, rfl⟩ := pimp_spec h0; exact absurd h.2 (Nat.not_lt_zero _)
  | succ n ih => intro xs v h0; obtain ⟨x, t, L, h, rfl, rfl⟩ := pimp_spec h0; exact w_step n ih x t L h.1 (Nat.le_of_lt_succ h.2)
noncomputable def iSt : List AVal → Option AVal := pimp fun xs r => ∃ (x : Rx) (t : List UInt8) (L : List Bool), (okX x ∧ inR x ∧ L.length = t.length + 1 ∧ t.length < 1000000) ∧ xs = [rV x, .str t, slc cB L] ∧ r = slc cB (bset (t.length + 1) (ImP (R t x) (isT L)))
theorem iSt_eq {x : Rx} {t : List UInt8} {L : List Bool} (h : okX x ∧ inR x ∧ L.length = t.length + 1 ∧ t.length < 1000000) : iSt [rV x, .str t, slc cB L] = some (slc cB (bset (t.length + 1) (ImP (R t x) (isT L)))) := pimp_eq ⟨x, t, L, h, rfl, rfl⟩ (by rintro _ ⟨x', t', L', h', e, rfl⟩; have e0 := (List.cons.inj e).1; have e0r := (List.cons.inj e).2; have e1 := (List.cons.inj e0r).1; have e1r := (List.cons.inj e0r).2; have e2 := (List.cons.inj e1r).1; have e2r := (List.cons.inj e1r).2; have q0 := rV_inj (by first | assumption | exact h | exact h.1 | exact h.1.1 | exact h.1.1.1 | exact h.2 | exact h.2.1 | exact h.2.2 | exact h.2.2.1) (by first | assumption | exact h' | exact h'.1 | exact h'.1.1 | exact h'.1.1.1 | exact h'.2 | exact h'.2.1 | exact h'.2.2 | exact h'.2.2.1) e0; have q1 := AVal.str.inj e1; have q2 := slc_inj cB_len (fun _ _ _ _ => cB_inj) e2; subst q0; subst q1; subst q2; first | rfl | exact ⟨rfl, rfl⟩)
theorem iSt_call : ∀ xs v, iSt xs = some v → PCall Tryz.prog 68 xs v := fun xs v h0 => by obtain ⟨x, t, L, h, rfl, rfl⟩ := pimp_spec h0; exact iSt'_all (sz x + 1) _ _ (iSt'_eq ⟨h, Nat.lt_succ_self _⟩)
end Go.Hk.MZ
