import Derived.Test.YtojahfdjfacgaaaHkQ33
import Derived.Test.YtojahfdjfacgaaaHkQ30
import Derived.Test.YtojahfdjfacgaaaHkQ28
/- Layer 14: tables as bytes. -/
set_option linter.unusedSimpArgs false
set_option linter.unusedVariables false
set_option maxRecDepth 20000
namespace Go.Hk.N
open Go.Proofs
theorem ti34 : tiOf Try.prog 34 = some { size := 1, bytes := 8, zero := some (.nilp), k := .ptr 40 } := by kernel_rfl
attribute [go_sem] ti34
theorem ti67 : tiOf Try.prog 67 = some { size := 1, bytes := 8, zero := some (.int .u64 0), k := .int .u64 } := by kernel_rfl
attribute [go_sem] ti67
theorem w_numbers (l : List Int) (H : List ABlk) (T : List (Nat × (Nat × Nat))) (b t : Nat) (s : List UInt8) (r : Rt)
    (h : H[b]? = some (bW 40 b t s) ∧ okR T (.tok t) s.length (1, 5) = true ∧ s.length + 2 * l.length < 900000000 ∧ ∀ n ∈ l, numOK n) :
    RCall Try.prog 13 [.tpt 40 b 2, .sl r l.length (fl cI l)] ⟨H, T⟩ .undef ⟨H.set b (bW 40 b t (s ++ encL l)), T.set t (tW 5 (s ++ encL l))⟩ := by
  obtain ⟨hb, ht, hlen, hn⟩ := h
  have hl := (List.getElem?_eq_some_iff.1 hb).1
  have htl := (List.getElem?_eq_some_iff.1 (tok_of ht)).1
  refine RCall.of_w (fn := Try.f13) (Γ := gam [(27, .raw (iWB 40 5))]) (mu := false) (by simp) (by simp) (Sound.raw iWB_call Sound.nil) mixed Try.func13 rfl (by kernel_rfl) (by simp) (by kernel_rfl) ?_
  simp (disch := first | assumption | omega | exact okR_new | exact okR_one | exact trivial | (simp only [List.length_append, List.length_cons, List.length_nil]; omega) | (simp only [List.length_append, List.length_cons, List.length_nil, Nat.reduceAdd])) only [go_sem, e_go, e_cond_bool, e_w_bool, e_step_ite, e_reg_ite, e_regW_ite, e_code_ite, e_block_ite, e_evQ_ite, e_fin_ite, e_pair_ite, Try.f13, iWB_eq, bld_new, bld_nil, bld_on, bld_on0]
  refine w_loop [] [8] (fun i : Nat => l.length - i) (fun i => i ≤ l.length) (fun i => ⟨H.set b (bW 40 b t (s ++ encL (l.take i))), T.set t (tW 5 (s ++ encL (l.take i)))⟩)
    (fun i => [(8, .int .i64 (i : Nat))]) 0 (fun _ => rfl) (by kernel_rfl) (Nat.zero_le _) (by simp [encL_nil, set_self hb, set_self (show T[t]? = some (tW 5 s) from tok_of ht)]) (by simp [HasE, lk]) ?_
  intro i hi
  by_cases hlt : i < l.length
  · have hg : l[i]? = some l[i] := by simp [hlt]
    have hat := fl_cI_get hg
    have hnn := hn _ (List.getElem_mem hlt)
    have henc := encL_take hg
    have hel := encL_len (l.take i)
    rw [List.length_take, Nat.min_eq_left hi] at hel
    generalize l[i] = n at *
    obtain ⟨k, hk⟩ : ∃ k : Nat, n + 1 = (k : Int) := ⟨(n + 1).toNat, by have := hnn.1; omega⟩
    obtain rfl : n = (k : Int) - 1 := by omega
    have hk2 : k < 65536 := by have := hnn.2; omega
    have hwi : IntKind.i64.wrap ((i : Int) + 1) = (i : Int) + 1 := IntWalk.i64_in _ (by omega)
    rw [by2_nat] at henc
    generalize hX : s ++ encL (l.take i) = X at *
    have hXl : X.length < 900000000 := by rw [← hX, List.length_append, hel]; omega
    have hw8 : IntKind.u8.wrap (k : Int) = ((k % 256 : Nat) : Int) := by
      have e : (2 : Int) ^ IntKind.u8.bits = 256 := rfl
      have e3 : IntKind.u8.signed = false := rfl
      simp only [IntKind.wrap, e, e3, Bool.false_and, Bool.false_eq_true, if_false]; omega
    have hk8 : k % 256 < 256 := Nat.mod_lt _ (by decide)
    have hB1 := bld_bW (B := 40) (e := 5) (v := .nili) (b := b) (t := t) (H := H) (T := T) (X := X) (Y := [UInt8.ofNat (k / 2 ^ 8)]) hl htl (by simp; omega)
    have hB2 := bld_bW (B := 40) (e := 5) (v := .nili) (b := b) (t := t) (H := H) (T := T) (X := X ++ [UInt8.ofNat (k / 2 ^ 8)]) (Y := [UInt8.ofNat (k % 256)]) hl htl (by simp; omega)
    simp (disch := first | assumption | omega | exact okR_new | exact okR_one | exact trivial | (simp only [List.length_append, List.length_cons, List.length_nil]; omega) | (simp only [List.length_append, List.length_cons, List.length_nil, Nat.reduceAdd])) only [go_sem, e_go, e_cond_bool, e_w_bool, e_step_ite, e_reg_ite, e_regW_ite, e_code_ite, e_block_ite, e_evQ_ite, e_fin_ite, e_pair_ite, Try.f13, iWB_eq, bld_new, bld_nil, bld_on, bld_on0, hat, hB1, hB2, hwi, hw8]
    have hXn : s ++ encL (l.take (i + 1)) = X ++ [UInt8.ofNat (k / 2 ^ 8)] ++ [UInt8.ofNat (k % 256)] := by rw [henc, ← List.append_assoc, hX]; simp
    exact ⟨i + 1, dn hlt, hlt, by simp only [hXn], by simp [HasE, lk]⟩
  · have hi' : i = l.length := by omega
    subst hi'
    simp (disch := first | assumption | omega | exact okR_new | exact okR_one | exact trivial | (simp only [List.length_append, List.length_cons, List.length_nil]; omega) | (simp only [List.length_append, List.length_cons, List.length_nil, Nat.reduceAdd])) only [go_sem, e_go, e_cond_bool, e_w_bool, e_step_ite, e_reg_ite, e_regW_ite, e_code_ite, e_block_ite, e_evQ_ite, e_fin_ite, e_pair_ite, Try.f13, iWB_eq, bld_new, bld_nil, bld_on, bld_on0]
    rw [List.take_length]
    exact .inl rfl
noncomputable def iNu : List AVal → AMem → Option (AVal × AMem) := rimp fun xs m r m' => ∃ (l : List Int) (H : List ABlk) (T : List (Nat × (Nat × Nat))) (b : Nat) (t : Nat) (s : List UInt8) (q : Rt), (H[b]? = some (bW 40 b t s) ∧ okR T (.tok t) s.length (1, 5) = true ∧ s.length + 2 * l.length < 900000000 ∧ ∀ n ∈ l, numOK n) ∧ xs = [.tpt 40 b 2, .sl q l.length (fl cI l)] ∧ m = ⟨H, T⟩ ∧ r = .undef ∧ m' = ⟨H.set b (bW 40 b t (s ++ encL l)), T.set t (tW 5 (s ++ encL l))⟩
theorem iNu_eq {l : List Int} {H : List ABlk} {T : List (Nat × (Nat × Nat))} {b : Nat} {t : Nat} {s : List UInt8} {q : Rt} (h : H[b]? = some (bW 40 b t s) ∧ okR T (.tok t) s.length (1, 5) = true ∧ s.length + 2 * l.length < 900000000 ∧ ∀ n ∈ l, numOK n) : iNu [.tpt 40 b 2, .sl q l.length (fl cI l)] ⟨H, T⟩ = some (.undef, ⟨H.set b (bW 40 b t (s ++ encL l)), T.set t (tW 5 (s ++ encL l))⟩) := rimp_eq ⟨l, H, T, b, t, s, q, h, rfl, rfl, rfl, rfl⟩ (by rintro _ _ ⟨l', H', T', b', t', s', q', h', e, em, rfl, rfl⟩; have e1 := (AVal.tpt.inj (List.cons.inj e).1).2.1; have e2 := slr_inj (List.cons.inj (List.cons.inj e).2).1; obtain ⟨rfl, rfl⟩ := e2; subst e1; obtain ⟨rfl, rfl⟩ := AMem.mk.inj em; obtain ⟨rfl, rfl⟩ := bW_inj (Option.some.inj (h'.1.symm.trans h.1)); exact ⟨rfl, rfl⟩)
theorem iNu_call : ∀ xs m v m', iNu xs m = some (v, m') → RCall Try.prog 13 xs m v m' := fun xs m v m' h0 => by obtain ⟨l, H, T, b, t, s, q, h, rfl, rfl, rfl, rfl⟩ := rimp_spec h0; exact w_numbers l H T b t s q h
end Go.Hk.N
/- Layer 14: where tables' lists are; tables as bytes. -/
namespace Go.Hk.N
open Go.Proofs
theorem ti27 : tiOf Try.prog 27 = some { size := 1, bytes := 8, zero := some (.int .i64 0), k := .int .i64 } := by kernel_rfl
attribute [go_sem] ti27
theorem ti46 : tiOf Try.prog 46 = some { size := 1, bytes := 8, zero := some (.nilp), k := .ptr 22 } := by kernel_rfl
attribute [go_sem] ti46
theorem ti47 : tiOf Try.prog 47 = some { size := 7, bytes := 56, zero := some (.agg [.nilp, .nilp, .nilp, .nilp, .nilp, .nilp, .nilp]), k := .arr 7 46 } := by kernel_rfl
attribute [go_sem] ti47
theorem ti49 : tiOf Try.prog 49 = some { size := 1, bytes := 8, zero := some (.nilp), k := .ptr 24 } := by kernel_rfl
attribute [go_sem] ti49
def ptrs (b : Nat) : List AVal := [.ptr b 0 0, .ptr b 0 2, .ptr b 0 3, .ptr b 0 4, .ptr b 0 5, .ptr b 0 6, .ptr b 0 7]
theorem w_lists (H : List ABlk) (T : List (Nat × (Nat × Nat))) (b : Nat) (h : b < H.length ∧ H.all (cloB H.length T.length) = true) :
    RCall Try.prog 14 [.ptr b 0 0] ⟨H, T⟩ (.agg (ptrs b)) ⟨H, T⟩ := by
  obtain ⟨hb, hc⟩ := h
  refine RCall.of_w (fn := Try.f14) (Γ := gam []) (mu := false) (by simp) (by simp) Sound.nil mixed Try.func14 rfl (by kernel_rfl) (by simp) (by kernel_rfl) ?_
  simp (disch := first | assumption | omega | exact okR_new | exact okR_one | exact trivial | (simp only [List.length_append, List.length_cons, List.length_nil]; omega) | (simp only [List.length_append, List.length_cons, List.length_nil, Nat.reduceAdd])) only [go_sem, e_go, e_cond_bool, e_w_bool, e_step_ite, e_reg_ite, e_regW_ite, e_code_ite, e_block_ite, e_evQ_ite, e_fin_ite, e_pair_ite, Try.f14, m_own0, m_put0]
  refine ⟨rfl, left_app hc ?_⟩
  simp [ptrs, clo, cloL, hb]
noncomputable def iLi : List AVal → AMem → Option (AVal × AMem) := rimp fun xs m r m' => ∃ (H : List ABlk) (T : List (Nat × (Nat × Nat))) (b : Nat), (b < H.length ∧ H.all (cloB H.length T.length) = true) ∧ xs = [.ptr b 0 0] ∧ m = ⟨H, T⟩ ∧ r = .agg (ptrs b) ∧ m' = ⟨H, T⟩
theorem iLi_eq {H : List ABlk} {T : List (Nat × (Nat × Nat))} {b : Nat} (h : b < H.length ∧ H.all (cloB H.length T.length) = true) : iLi [.ptr b 0 0] ⟨H, T⟩ = some (.agg (ptrs b), ⟨H, T⟩) := rimp_eq ⟨H, T, b, h, rfl, rfl, rfl, rfl⟩ (by rintro _ _ ⟨H', T', b', h', e, em, rfl, rfl⟩; have e1 := (AVal.ptr.inj (List.cons.inj e).1).1; subst e1; obtain ⟨rfl, rfl⟩ := AMem.mk.inj em; exact ⟨rfl, rfl⟩)
theorem iLi_call : ∀ xs m v m', iLi xs m = some (v, m') → RCall Try.prog 14 xs m v m' := fun xs m v m' h0 => by obtain ⟨H, T, b, h, rfl, rfl, rfl, rfl⟩ := rimp_spec h0; exact w_lists H T b h
theorem bI4 {m : AMem} {a b c d : Int} : abuildSlice Try.prog false m 22 4 [(0, .int .i64 a), (1, .int .i64 b), (2, .int .i64 c), (3, .int .i64 d)] = some (.sl .full [a, b, c, d].length (fl cI [a, b, c, d]), m) := by
  exact build_seq (P := Try.prog) (mu := false) (m := m) (n := 4) (vs := [.int .i64 a, .int .i64 b, .int .i64 c, .int .i64 d]) (out := [.int .i64 a, .int .i64 b, .int .i64 c, .int .i64 d]) ti22 rfl ti3 rfl rfl ⟨by decide, rfl⟩ rfl (by decide)
theorem c_bW {B h k b t : Nat} {s : List UInt8} (h1 : b < h) (h2 : t < k) : cloB h k (bW B b t s) = true := by
  simp [bW, cloB, cloL, clo, cloR, cloL_strip _ _ (l_s_cU (s := s)), h1, h2]
theorem w_Encode (p : Pk) (h : okPk p) : PCall Try.prog 6 [pkV p] (if validP p = true then .tup (.str (encP p)) [.int .i64 0] else .tup (.str []) [.int .i64 1]) := by
  have hV := iVa_eq h
  have hc := cPk_eq p
  refine PCall.of_w (fn := Try.f6) (Γ := gam [(11, .pure iVa), (12, .raw (iWS 40 5)), (13, .raw iNu), (14, .raw iLi), (15, .raw (iBS 40 5))]) (mu := false) (Sound.pure iVa_call (Sound.raw iWS_call (Sound.raw iNu_call (Sound.raw iLi_call (Sound.raw iBS_call Sound.nil))))) mixed Try.func6 rfl (by kernel_rfl) (by simp) (by kernel_rfl) ?_
  by_cases hv : validP p = true
  · rw [if_pos hv]
    have hval := validP_iff.1 hv
    obtain ⟨h0, h1, h2, h3, h4, h5, h6⟩ := h
    have hle := encTo_len hval
    have hnm := hval.nums
    have hL := iLi_eq (b := 0) (H := [.cells 0 (cPk p), bW 40 1 0 (encTo p 0)]) (T := [(tW 5 (encTo p 0))]) ⟨by simp, by
      simp only [List.all_cons, List.all_nil, Bool.and_true, List.length_cons, List.length_nil, Bool.and_eq_true]
      exact ⟨by simp only [cloB]; exact cloL_strip _ _ (cPk_strip p), c_bW (by decide) (by decide)⟩⟩
    have hN0 : iNu [.tpt 40 1 2, .sl .full 4 (fl cI [p.wd, (p.bs.length : Nat), (p.nx.length : Nat), (p.st.length : Nat)])] ⟨[.cells 0 (cPk p), .cells 0 [.tpt 40 1 2, .sl (.tok 0) 4 (fl cU [72, 75, 76, 49])]], [(4, (1, 5))]⟩ =
        some (.undef, ⟨[.cells 0 (cPk p), bW 40 1 0 (encTo p 0)], [(tW 5 (encTo p 0))]⟩) := by
      have := iNu_eq (l := headOf p) (H := [.cells 0 (cPk p), bW 40 1 0 magic]) (T := [(4, (1, 5))]) (b := 1) (t := 0) (s := magic) (q := .full) ⟨rfl, rfl, by show 4 + 2 * 4 < _; decide, hval.head⟩
      rw [← encTo_zero] at this
      exact this
    have hN : ∀ i l, (listsOf p)[i]? = some l → iNu [.tpt 40 1 2, .sl .no l.length (fl cI l)] ⟨[.cells 0 (cPk p), bW 40 1 0 (encTo p i)], [(tW 5 (encTo p i))]⟩ =
        some (.undef, ⟨[.cells 0 (cPk p), bW 40 1 0 (encTo p (i + 1))], [(tW 5 (encTo p (i + 1)))]⟩) := by
      intro i l hg
      have hm := hnm l (List.mem_of_getElem? hg)
      have h1 := (hle i).2
      have := iNu_eq (l := l) (H := [.cells 0 (cPk p), bW 40 1 0 (encTo p i)]) (T := [(tW 5 (encTo p i))]) (b := 1) (t := 0) (s := encTo p i) (q := .no) ⟨rfl, by simp [okR, tW], by omega, hm.1⟩
      rw [this, encTo_next hg]
      rfl
    have hS : iBS 40 5 [.tpt 40 1 2] ⟨[.cells 0 (cPk p), bW 40 1 0 (encTo p 7)], [(tW 5 (encTo p 7))]⟩ = some (.str (encP p), ⟨[.cells 0 (cPk p), bW 40 1 0 (encTo p 7)], [(tW 5 (encTo p 7))]⟩) := by
      have h1 := hle 7
      rw [iBS_eq]
      show bstR _ _ (some (bW 40 1 0 (encTo p 7))) = _
      unfold bW
      rw [bst_on (by simp [okR, tW]) rfl (by omega) (by omega)]
      rfl
    have n0 := hN 0 _ rfl
    have n1 := hN 1 _ rfl
    have n2 := hN 2 _ rfl
    have n3 := hN 3 _ rfl
    have n4 := hN 4 _ rfl
    have n5 := hN 5 _ rfl
    have n6 := hN 6 _ rfl
    rw [hc] at hL hN0 hS n0 n1 n2 n3 n4 n5 n6
    simp (disch := first | assumption | omega | exact okR_new | exact okR_one | exact trivial | (simp only [List.length_append, List.length_cons, List.length_nil]; omega) | (simp only [List.length_append, List.length_cons, List.length_nil, Nat.reduceAdd])) only [go_sem, e_go, e_cond_bool, e_w_bool, e_step_ite, e_reg_ite, e_regW_ite, e_code_ite, e_block_ite, e_evQ_ite, e_fin_ite, e_pair_ite, Try.f6, iVa_eq, iWS_eq, bld_new, bld_nil, bld_on, bld_on0, iNu_eq, iLi_eq, iBS_eq, bst_on, bst_nil, hV, hv, bI4, hN0, hL]
    refine w_loop [] [31] (fun i : Nat => 7 - i) (fun i => i ≤ 7) (fun i => ⟨[.cells 0 (cPk p), bW 40 1 0 (encTo p i)], [(tW 5 (encTo p i))]⟩)
      (fun i => [(31, .int .i64 (i : Nat))]) 0 (fun _ => rfl) (by kernel_rfl) (Nat.zero_le _) (by simp only [hc]) (by simp [HasE, lk]) ?_
    intro i hi
    by_cases hlt : i < 7
    · have h7 : i = 0 ∨ i = 1 ∨ i = 2 ∨ i = 3 ∨ i = 4 ∨ i = 5 ∨ i = 6 := by omega
      rcases h7 with rfl | rfl | rfl | rfl | rfl | rfl | rfl
      · simp (disch := first | assumption | omega | exact okR_new | exact okR_one | exact trivial | (simp only [List.length_append, List.length_cons, List.length_nil]; omega) | (simp only [List.length_append, List.length_cons, List.length_nil, Nat.reduceAdd])) only [go_sem, e_go, e_cond_bool, e_w_bool, e_step_ite, e_reg_ite, e_regW_ite, e_code_ite, e_block_ite, e_evQ_ite, e_fin_ite, e_pair_ite, Try.f6, iVa_eq, iWS_eq, bld_new, bld_nil, bld_on, bld_on0, iNu_eq, iLi_eq, iBS_eq, bst_on, bst_nil, hc, n0, ptrs]
        exact ⟨1, by decide, by decide, by simp only [hc], by simp [HasE, lk]⟩
      · simp (disch := first | assumption | omega | exact okR_new | exact okR_one | exact trivial | (simp only [List.length_append, List.length_cons, List.length_nil]; omega) | (simp only [List.length_append, List.length_cons, List.length_nil, Nat.reduceAdd])) only [go_sem, e_go, e_cond_bool, e_w_bool, e_step_ite, e_reg_ite, e_regW_ite, e_code_ite, e_block_ite, e_evQ_ite, e_fin_ite, e_pair_ite, Try.f6, iVa_eq, iWS_eq, bld_new, bld_nil, bld_on, bld_on0, iNu_eq, iLi_eq, iBS_eq, bst_on, bst_nil, hc, n1, ptrs]
        exact ⟨2, by decide, by decide, by simp only [hc], by simp [HasE, lk]⟩
      · simp (disch := first | assumption | omega | exact okR_new | exact okR_one | exact trivial | (simp only [List.length_append, List.length_cons, List.length_nil]; omega) | (simp only [List.length_append, List.length_cons, List.length_nil, Nat.reduceAdd])) only [go_sem, e_go, e_cond_bool, e_w_bool, e_step_ite, e_reg_ite, e_regW_ite, e_code_ite, e_block_ite, e_evQ_ite, e_fin_ite, e_pair_ite, Try.f6, iVa_eq, iWS_eq, bld_new, bld_nil, bld_on, bld_on0, iNu_eq, iLi_eq, iBS_eq, bst_on, bst_nil, hc, n2, ptrs]
        exact ⟨3, by decide, by decide, by simp only [hc], by simp [HasE, lk]⟩
      · simp (disch := first | assumption | omega | exact okR_new | exact okR_one | exact trivial | (simp only [List.length_append, List.length_cons, List.length_nil]; omega) | (simp only [List.length_append, List.length_cons, List.length_nil, Nat.reduceAdd])) only [go_sem, e_go, e_cond_bool, e_w_bool, e_step_ite, e_reg_ite, e_regW_ite, e_code_ite, e_block_ite, e_evQ_ite, e_fin_ite, e_pair_ite, Try.f6, iVa_eq, iWS_eq, bld_new, bld_nil, bld_on, bld_on0, iNu_eq, iLi_eq, iBS_eq, bst_on, bst_nil, hc, n3, ptrs]
        exact ⟨4, by decide, by decide, by simp only [hc], by simp [HasE, lk]⟩
      · simp (disch := first | assumption | omega | exact okR_new | exact okR_one | exact trivial | (simp only [List.length_append, List.length_cons, List.length_nil]; omega) | (simp only [List.length_append, List.length_cons, List.length_nil, Nat.reduceAdd])) only [go_sem, e_go, e_cond_bool, e_w_bool, e_step_ite, e_reg_ite, e_regW_ite, e_code_ite, e_block_ite, e_evQ_ite, e_fin_ite, e_pair_ite, Try.f6, iVa_eq, iWS_eq, bld_new, bld_nil, bld_on, bld_on0, iNu_eq, iLi_eq, iBS_eq, bst_on, bst_nil, hc, n4, ptrs]
        exact ⟨5, by decide, by decide, by simp only [hc], by simp [HasE, lk]⟩
      · simp (disch := first | assumption | omega | exact okR_new | exact okR_one | exact trivial | (simp only [List.length_append, List.length_cons, List.length_nil]; omega) | (simp only [List.length_append, List.length_cons, List.length_nil, Nat.reduceAdd])) only [go_sem, e_go, e_cond_bool, e_w_bool, e_step_ite, e_reg_ite, e_regW_ite, e_code_ite, e_block_ite, e_evQ_ite, e_fin_ite, e_pair_ite, Try.f6, iVa_eq, iWS_eq, bld_new, bld_nil, bld_on, bld_on0, iNu_eq, iLi_eq, iBS_eq, bst_on, bst_nil, hc, n5, ptrs]
        exact ⟨6, by decide, by decide, by simp only [hc], by simp [HasE, lk]⟩
      · simp (disch := first | assumption | omega | exact okR_new | exact okR_one | exact trivial | (simp only [List.length_append, List.length_cons, List.length_nil]; omega) | (simp only [List.length_append, List.length_cons, List.length_nil, Nat.reduceAdd])) only [go_sem, e_go, e_cond_bool, e_w_bool, e_step_ite, e_reg_ite, e_regW_ite, e_code_ite, e_block_ite, e_evQ_ite, e_fin_ite, e_pair_ite, Try.f6, iVa_eq, iWS_eq, bld_new, bld_nil, bld_on, bld_on0, iNu_eq, iLi_eq, iBS_eq, bst_on, bst_nil, hc, n6, ptrs]
        exact ⟨7, by decide, by decide, by simp only [hc], by simp [HasE, lk]⟩
    · have hi' : i = 7 := by omega
      subst hi'
      simp (disch := first | assumption | omega | exact okR_new | exact okR_one | exact trivial | (simp only [List.length_append, List.length_cons, List.length_nil]; omega) | (simp only [List.length_append, List.length_cons, List.length_nil, Nat.reduceAdd])) only [go_sem, e_go, e_cond_bool, e_w_bool, e_step_ite, e_reg_ite, e_regW_ite, e_code_ite, e_block_ite, e_evQ_ite, e_fin_ite, e_pair_ite, Try.f6, iVa_eq, iWS_eq, bld_new, bld_nil, bld_on, bld_on0, iNu_eq, iLi_eq, iBS_eq, bst_on, bst_nil, hc, hS]
  · rw [if_neg hv]
    have hv : validP p = false := by simpa using hv
    simp (disch := first | assumption | omega | exact okR_new | exact okR_one | exact trivial | (simp only [List.length_append, List.length_cons, List.length_nil]; omega) | (simp only [List.length_append, List.length_cons, List.length_nil, Nat.reduceAdd])) only [go_sem, e_go, e_cond_bool, e_w_bool, e_step_ite, e_reg_ite, e_regW_ite, e_code_ite, e_block_ite, e_evQ_ite, e_fin_ite, e_pair_ite, Try.f6, iVa_eq, iWS_eq, bld_new, bld_nil, bld_on, bld_on0, iNu_eq, iLi_eq, iBS_eq, bst_on, bst_nil, hV, hv]
end Go.Hk.N
