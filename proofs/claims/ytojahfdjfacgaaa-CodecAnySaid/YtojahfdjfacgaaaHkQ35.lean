/- Layer 14, the document's answer: tables as bytes. -/
import Derived.Test.YtojahfdjfacgaaaHkQ34
set_option linter.unusedSimpArgs false
set_option linter.unusedVariables false
set_option maxRecDepth 20000
namespace Go.Hk.N
open Go.Proofs

theorem bU2 {m : AMem} {x y : Int} : abuildSlice Try.prog false m 36 2 [(0, .int .u8 x), (1, .int .u8 y)] = some (.sl .full 2 [.int .u8 x, .int .u8 y], m) := by
  exact build_seq (P := Try.prog) (mu := false) (m := m) (n := 2) (vs := [.int .u8 x, .int .u8 y]) (out := [.int .u8 x, .int .u8 y]) ti36 rfl ti5 rfl rfl ⟨by decide, rfl⟩ rfl (by decide)
theorem u8_hi {k : Nat} (h : k < 65536) : IntKind.u8.wrap (IntKind.i64.wrap ((k : Int).tdiv 256)) = ((k / 256 : Nat) : Int) := by
  rw [Int.tdiv_eq_ediv_of_nonneg (by omega), IntWalk.i64_in _ (by omega)]
  have e : (2 : Int) ^ IntKind.u8.bits = 256 := rfl
  have e3 : IntKind.u8.signed = false := rfl
  simp only [IntKind.wrap, e, e3, Bool.false_and, Bool.false_eq_true, if_false]; omega
theorem u8_lo {k : Nat} : IntKind.u8.wrap ((k : Int).tmod 256) = ((k % 256 : Nat) : Int) := by
  rw [Int.tmod_eq_emod_of_nonneg (by omega)]
  have e : (2 : Int) ^ IntKind.u8.bits = 256 := rfl
  have e3 : IntKind.u8.signed = false := rfl
  simp only [IntKind.wrap, e, e3, Bool.false_and, Bool.false_eq_true, if_false]; omega
theorem fl2 {k : Nat} (h : k < 65536) : [AVal.int .u8 ((k / 256 : Nat) : Int), AVal.int .u8 ((k % 256 : Nat) : Int)] = fl cU [UInt8.ofNat (k / 256), UInt8.ofNat (k % 256)] := by
  have h1 : (UInt8.ofNat (k / 256)).toNat = k / 256 := by simp; omega
  have h2 : (UInt8.ofNat (k % 256)).toNat = k % 256 := by simp
  simp only [fl, cU, h1, h2, List.append_nil, List.cons_append, List.nil_append]
theorem by2_len (n : Int) : (by2 n).length = 2 := rfl
theorem w_numberR (n : Int) (h : numOK n) : PCall Try.prog 21 [.int .i64 n] (.str (by2 n)) := by
  obtain ⟨k, hk⟩ : ∃ k : Nat, n + 1 = (k : Int) := ⟨(n + 1).toNat, by have := h.1; omega⟩
  obtain rfl : n = (k : Int) - 1 := by omega
  have hk2 : k < 65536 := by have := h.2; omega
  rw [by2_nat]
  have h1 := u8_hi hk2
  have h2 := u8_lo (k := k)
  have hf := fl2 hk2
  refine PCall.of_w (fn := Try.f21) (Γ := gam []) (mu := false) Sound.nil mixed Try.func21 rfl (by kernel_rfl) (by simp) (by kernel_rfl) ?_
  simp (disch := first | assumption | omega | exact okR_new | exact okR_one | exact trivial | (simp only [List.length_append, List.length_cons, List.length_nil]; omega) | (simp only [List.length_append, List.length_cons, List.length_nil, Nat.reduceAdd])) only [go_sem, e_go, e_cond_bool, e_w_bool, e_step_ite, e_reg_ite, e_regW_ite, e_code_ite, e_block_ite, e_evQ_ite, e_fin_ite, e_pair_ite, Try.f21, bU2, h1, h2, hf, bytesOf_cU]
noncomputable def iNb : List AVal → Option AVal := pimp fun xs r => ∃ (n : Int), (numOK n) ∧ xs = [.int .i64 n] ∧ r = .str (by2 n)
theorem iNb_eq {n : Int} (h : numOK n) : iNb [.int .i64 n] = some (.str (by2 n)) := pimp_eq ⟨n, h, rfl, rfl⟩ (by rintro _ ⟨n', h', e, rfl⟩; have e0 := (List.cons.inj e).1; have e0r := (List.cons.inj e).2; have q0 := (AVal.int.inj e0).2; subst q0; first | rfl | exact ⟨rfl, rfl⟩)
theorem iNb_call : ∀ xs v, iNb xs = some v → PCall Try.prog 21 xs v := fun xs v h0 => by obtain ⟨n, h, rfl, rfl⟩ := pimp_spec h0; exact w_numberR n h
theorem apUU_T : appT Try.prog 36 36 = some ⟨5, 1, 1⟩ := by kernel_rfl
theorem apUU {H : List ABlk} {T : List (Nat × (Nat × Nat))} {r r' : Rt} {l l' : List UInt8} (hr : okR T r l.length (1, 5) = true) (hf : r = .full → l.length = 0 ∨ 0 < l'.length) (hn : l.length + l'.length < 1000000000) :
    aappend Try.prog 36 36 ⟨H, T⟩ (.sl r l.length (fl cU l)) (.sl r' l'.length (fl cU l')) = some (.sl (nxR T r) (l ++ l').length (fl cU (l ++ l')), ⟨H, nxT T r (l ++ l').length (1, 5)⟩) := app_fls1 apUU_T (by decide) cU_len hr hf hn
theorem w_numbersR (l : List Int) (hl : l.length < 400000000) (h : ∀ n ∈ l, numOK n) : PCall Try.prog 22 [slc cI l] (.str (encL l)) := by
  refine PCall.of_w (fn := Try.f22) (Γ := gam []) (mu := false) Sound.nil mixed Try.func22 rfl (by kernel_rfl) (by simp) (by kernel_rfl) ?_
  simp (disch := first | assumption | omega | exact okR_new | exact okR_one | exact trivial | (simp only [List.length_append, List.length_cons, List.length_nil]; omega) | (simp only [List.length_append, List.length_cons, List.length_nil, Nat.reduceAdd])) only [go_sem, e_go, e_cond_bool, e_w_bool, e_step_ite, e_reg_ite, e_regW_ite, e_code_ite, e_block_ite, e_evQ_ite, e_fin_ite, e_pair_ite, Try.f22]
  refine w_loop [] [3, 4] (fun x : Lz => l.length - x.i) (fun x => x.i ≤ l.length ∧ okR x.T x.r (encL (l.take x.i)).length (1, 5) = true) (fun x => ⟨[], x.T⟩)
    (fun x => [(3, .sl x.r (encL (l.take x.i)).length (fl cU (encL (l.take x.i)))), (4, .int .i64 (x.i : Nat))]) ⟨0, .nil, []⟩ (fun _ => rfl) (by kernel_rfl) (by simp [okR, encL]) rfl (by simp [HasE, lk, encL, fl]) ?_
  rintro ⟨i, r, T⟩ ⟨hi, hr⟩
  simp only at hi hr
  by_cases hlt : i < l.length
  · have hg : l[i]? = some l[i] := by simp [hlt]
    have hat := fl_cI_get hg
    have hnn := h _ (List.getElem_mem hlt)
    have henc := encL_take hg
    have hel := encL_len (l.take i)
    rw [List.length_take, Nat.min_eq_left hi] at hel
    generalize l[i] = n at *
    obtain ⟨k, hk⟩ : ∃ k : Nat, n + 1 = (k : Int) := ⟨(n + 1).toNat, by have := hnn.1; omega⟩
    obtain rfl : n = (k : Int) - 1 := by omega
    have hk2 : k < 65536 := by have := hnn.2; omega
    have hwi : IntKind.i64.wrap ((i : Int) + 1) = (i : Int) + 1 := IntWalk.i64_in _ (by omega)
    have h1 := u8_hi hk2
    have h2 := u8_lo (k := k)
    have hf := fl2 hk2
    rw [by2_nat] at henc
    generalize hX : encL (l.take i) = X at *
    have ha : aappend Try.prog 36 36 ⟨[], T⟩ (.sl r X.length (fl cU X)) (.sl .full 2 (fl cU [UInt8.ofNat (k / 256), UInt8.ofNat (k % 256)])) = _ := apUU (l' := [UInt8.ofNat (k / 256), UInt8.ofNat (k % 256)]) hr (fun _ => .inr (by simp)) (by simp; omega)
    simp (disch := first | assumption | omega | exact okR_new | exact okR_one | exact trivial | (simp only [List.length_append, List.length_cons, List.length_nil]; omega) | (simp only [List.length_append, List.length_cons, List.length_nil, Nat.reduceAdd])) only [go_sem, e_go, e_cond_bool, e_w_bool, e_step_ite, e_reg_ite, e_regW_ite, e_code_ite, e_block_ite, e_evQ_ite, e_fin_ite, e_pair_ite, Try.f22, hat, hwi, bU2, h1, h2, hf, ha]
    exact ⟨⟨i + 1, nxR T r, _⟩, dn hlt, ⟨hlt, by simp only [henc, List.length_append, List.length_cons, List.length_nil, Nat.reduceAdd]; exact okR_nx hr⟩, rfl, by simp only [HasE, lk, henc]; simp⟩
  · have hi' : i = l.length := by omega
    subst hi'
    rw [List.take_length] at *
    simp (disch := first | assumption | omega | exact okR_new | exact okR_one | exact trivial | (simp only [List.length_append, List.length_cons, List.length_nil]; omega) | (simp only [List.length_append, List.length_cons, List.length_nil, Nat.reduceAdd])) only [go_sem, e_go, e_cond_bool, e_w_bool, e_step_ite, e_reg_ite, e_regW_ite, e_code_ite, e_block_ite, e_evQ_ite, e_fin_ite, e_pair_ite, Try.f22, bytesOf_cU]
noncomputable def iNs : List AVal → Option AVal := pimp fun xs r => ∃ (l : List Int), (l.length < 400000000 ∧ ∀ n ∈ l, numOK n) ∧ xs = [slc cI l] ∧ r = .str (encL l)
theorem iNs_eq {l : List Int} (h : l.length < 400000000 ∧ ∀ n ∈ l, numOK n) : iNs [slc cI l] = some (.str (encL l)) := pimp_eq ⟨l, h, rfl, rfl⟩ (by rintro _ ⟨l', h', e, rfl⟩; have e0 := (List.cons.inj e).1; have e0r := (List.cons.inj e).2; have q0 := slc_inj cI_len (fun _ _ _ _ => cI_inj) e0; subst q0; first | rfl | exact ⟨rfl, rfl⟩)
theorem iNs_call : ∀ xs v, iNs xs = some v → PCall Try.prog 22 xs v := fun xs v h0 => by obtain ⟨l, h, rfl, rfl⟩ := pimp_spec h0; exact w_numbersR l h.1 h.2
theorem w_EncodeR (p : Pk) (h : okPk p) : PCall Try.prog 9 [pkV p] (if validP p = true then .tup (.str (encP p)) [.int .i64 0] else .tup (.str []) [.int .i64 1]) := by
  have hV := iVr_eq h
  have hc := cPk_eq p
  refine PCall.of_w (fn := Try.f9) (Γ := gam [(20, .pure iVr), (21, .pure iNb), (22, .pure iNs)]) (mu := false) (Sound.pure iVr_call (Sound.pure iNb_call (Sound.pure iNs_call Sound.nil))) mixed Try.func9 rfl (by kernel_rfl) (by simp) (by kernel_rfl) ?_
  by_cases hv : validP p = true
  · rw [if_pos hv]
    have hval := validP_iff.1 hv
    have hnm := hval.nums
    have hh := hval.head
    have m0 : iNb [.int .i64 p.wd] = _ := iNb_eq (n := p.wd) (hh _ (by simp [headOf]))
    have m1 : iNb [.int .i64 (p.bs.length : Nat)] = _ := iNb_eq (hh _ (by simp [headOf]))
    have m2 : iNb [.int .i64 (p.nx.length : Nat)] = _ := iNb_eq (hh _ (by simp [headOf]))
    have m3 : iNb [.int .i64 (p.st.length : Nat)] = _ := iNb_eq (hh _ (by simp [headOf]))
    have hN : ∀ l, l ∈ listsOf p → iNs [.sl .no l.length (fl cI l)] = some (.str (encL l)) := fun l hl => iNs_eq ⟨by have := (hnm l hl).2; omega, (hnm l hl).1⟩
    have n0 := hN p.mp (by simp [listsOf])
    have n1 := hN p.bs (by simp [listsOf])
    have n2 := hN p.df (by simp [listsOf])
    have n3 := hN p.nx (by simp [listsOf])
    have n4 := hN p.ck (by simp [listsOf])
    have n5 := hN p.ac (by simp [listsOf])
    have n6 := hN p.st (by simp [listsOf])
    obtain ⟨v1, v2, v3, v4, v5, v6, v7, _⟩ := hval
    have b0 := by2_len p.wd
    have b1 := by2_len (p.bs.length : Nat)
    have b2 := by2_len (p.nx.length : Nat)
    have b3 := by2_len (p.st.length : Nat)
    have e0 := encL_len p.mp
    have e1 := encL_len p.bs
    have e2 := encL_len p.df
    have e3 := encL_len p.nx
    have e4 := encL_len p.ck
    have e5 := encL_len p.ac
    have e6 := encL_len p.st
    simp (disch := first | assumption | omega | exact okR_new | exact okR_one | exact trivial | (simp only [List.length_append, List.length_cons, List.length_nil]; omega) | (simp only [List.length_append, List.length_cons, List.length_nil, Nat.reduceAdd])) only [go_sem, e_go, e_cond_bool, e_w_bool, e_step_ite, e_reg_ite, e_regW_ite, e_code_ite, e_block_ite, e_evQ_ite, e_fin_ite, e_pair_ite, Try.f9, iVr_eq, iNb_eq, iNs_eq, hV, hv, m0, m1, m2, m3, n0, n1, n2, n3, n4, n5, n6]
    simp [encP, encTo, listsOf, magic, headOf, encL]
  · rw [if_neg hv]
    have hv : validP p = false := by simpa using hv
    simp (disch := first | assumption | omega | exact okR_new | exact okR_one | exact trivial | (simp only [List.length_append, List.length_cons, List.length_nil]; omega) | (simp only [List.length_append, List.length_cons, List.length_nil, Nat.reduceAdd])) only [go_sem, e_go, e_cond_bool, e_w_bool, e_step_ite, e_reg_ite, e_regW_ite, e_code_ite, e_block_ite, e_evQ_ite, e_fin_ite, e_pair_ite, Try.f9, iVr_eq, iNb_eq, iNs_eq, hV, hv]
end Go.Hk.N
