/- Layer 14: numbers taken from bytes. -/
import Derived.Test.YtojahfdjfacgaaaHkQ35
import Derived.Test.YtojahfdjfacgaaaHkQ30
import Derived.Test.YtojahfdjfacgaaaHkQ29
set_option linter.unusedSimpArgs false
set_option linter.unusedVariables false
set_option maxRecDepth 20000
namespace Go.Hk.N
open Go.Proofs
theorem ti20 : tiOf Try.prog 20 = some { size := 1, bytes := 16, zero := some (.nili), k := .iface } := by kernel_rfl
attribute [go_sem] ti20
theorem ti52 : tiOf Try.prog 52 = some { size := 1, bytes := 8, zero := some (.agg [.int .i64 0]), k := .struct [(true, 3, 0)] } := by kernel_rfl
attribute [go_sem] ti52
theorem ti56 : tiOf Try.prog 56 = some { size := 1, bytes := 16, zero := some (.str []), k := .str } := by kernel_rfl
attribute [go_sem] ti56
theorem ti69 : tiOf Try.prog 69 = some { size := 1, bytes := 8, zero := some (.nilp), k := .ptr 56 } := by kernel_rfl
attribute [go_sem] ti69
theorem apQ_T : appT Try.prog 22 22 = some ⟨3, 1, 8⟩ := by kernel_rfl
theorem apQ_one {H : List ABlk} {T : List (Nat × (Nat × Nat))} {r r' : Rt} {l} {x} (hr : okR T r l.length (1, 3) = true) (hn : l.length + 1 < 1000000000) : aappend Try.prog 22 22 ⟨H, T⟩ (.sl r l.length (fl cI l)) (.sl r' 1 (cI x)) = some (.sl (nxR T r) (l ++ [x]).length (fl cI (l ++ [x])), ⟨H, nxT T r (l ++ [x]).length (1, 3)⟩) := app_fl1 apQ_T (by decide) cI_len rfl hr hn
theorem apQ_mk (mu : Bool) (m : AMem) {x} : abuildSlice Try.prog mu m 22 1 [(0, .int .i64 x)] = some (.sl .full 1 (cI x), m) := build_one ti22 ti3 rfl rfl (cI_len x) rfl (by decide) (by decide)
theorem w_takeR (s : List UInt8) (n : Int) (h : s.length < 400000000 ∧ -100000 ≤ n ∧ n ≤ 100000) : PCall Try.prog 23 [.str s, .int .i64 n] (match takeN s n with | some (l, r) => .tup (slc cI l) [.str r, .bool true] | none => .tup (.sl .no 0 []) [.str [], .bool false]) := by
  obtain ⟨hs, hn1, hn2⟩ := h
  have hw2 : IntKind.i64.wrap (2 * n) = 2 * n := IntWalk.i64_in _ (by omega)
  refine PCall.of_w (fn := Try.f23) (Γ := gam []) (mu := false) Sound.nil mixed Try.func23 rfl (by kernel_rfl) (by simp) (by kernel_rfl) ?_
  by_cases h0 : n < 0
  · have d0 : decide (n < 0) = true := decide_eq_true h0
    have ht : takeN s n = none := if_pos (.inl h0)
    rw [ht]
    simp (disch := first | assumption | omega | exact okR_new | exact okR_one | exact trivial | (simp only [List.length_append, List.length_cons, List.length_nil]; omega) | (simp only [List.length_append, List.length_cons, List.length_nil, Nat.reduceAdd])) only [go_sem, e_go, e_cond_bool, e_w_bool, e_step_ite, e_reg_ite, e_regW_ite, e_code_ite, e_block_ite, e_evQ_ite, e_fin_ite, e_pair_ite, Try.f23, d0]
  · have d0 : decide (n < 0) = false := decide_eq_false h0
    by_cases h1 : (s.length : Int) < 2 * n
    · have d1 : decide ((s.length : Int) < 2 * n) = true := decide_eq_true h1
      have ht : takeN s n = none := if_pos (.inr h1)
      rw [ht]
      simp (disch := first | assumption | omega | exact okR_new | exact okR_one | exact trivial | (simp only [List.length_append, List.length_cons, List.length_nil]; omega) | (simp only [List.length_append, List.length_cons, List.length_nil, Nat.reduceAdd])) only [go_sem, e_go, e_cond_bool, e_w_bool, e_step_ite, e_reg_ite, e_regW_ite, e_code_ite, e_block_ite, e_evQ_ite, e_fin_ite, e_pair_ite, Try.f23, d0, d1, hw2]
    · have d1 : decide ((s.length : Int) < 2 * n) = false := decide_eq_false h1
      have ht : takeN s n = some (ucL s n.toNat, s.drop (2 * n.toNat)) := if_neg (by omega)
      rw [ht]
      obtain ⟨k, rfl⟩ := Int.eq_ofNat_of_zero_le (show 0 ≤ n by omega)
      have hk : 2 * k ≤ s.length := by omega
      rw [Int.toNat_natCast]
      simp (disch := first | assumption | omega | exact okR_new | exact okR_one | exact trivial | (simp only [List.length_append, List.length_cons, List.length_nil]; omega) | (simp only [List.length_append, List.length_cons, List.length_nil, Nat.reduceAdd])) only [go_sem, e_go, e_cond_bool, e_w_bool, e_step_ite, e_reg_ite, e_regW_ite, e_code_ite, e_block_ite, e_evQ_ite, e_fin_ite, e_pair_ite, Try.f23, d0, d1, hw2]
      refine w_loop [] [7, 8] (fun x : Lz => k - x.i) (fun x => x.i ≤ k ∧ okR x.T x.r (ucL s x.i).length (1, 3) = true) (fun x => ⟨[], x.T⟩)
        (fun x => [(7, .sl x.r (ucL s x.i).length (fl cI (ucL s x.i))), (8, .int .i64 (x.i : Nat))]) ⟨0, .nil, []⟩ (fun _ => rfl) (by kernel_rfl) (by simp [okR, ucL]) rfl (by simp [HasE, lk, ucL, fl]) ?_
      rintro ⟨i, r, T⟩ ⟨hi, hr⟩
      simp only at hi hr
      have hul := ucL_len s i
      by_cases hlt : i < k
      · have hwi : IntKind.i64.wrap ((i : Int) + 1) = (i : Int) + 1 := IntWalk.i64_in _ (by omega)
        have hnx := ucL_next s i
        obtain ⟨a, b, ha, hb, hn, ha2, hb2⟩ := numAt_at (s := s) (i := i) (by omega)
        rw [hn] at hnx
        simp (disch := first | assumption | omega | exact okR_new | exact okR_one | exact trivial | (simp only [List.length_append, List.length_cons, List.length_nil]; omega) | (simp only [List.length_append, List.length_cons, List.length_nil, Nat.reduceAdd])) only [go_sem, e_go, e_cond_bool, e_w_bool, e_step_ite, e_reg_ite, e_regW_ite, e_code_ite, e_block_ite, e_evQ_ite, e_fin_ite, e_pair_ite, Try.f23, hwi, ha, hb, apQ_mk, apQ_one]
        exact ⟨⟨i + 1, nxR T r, _⟩, dn hlt, ⟨hlt, by simp only [hnx, List.length_append, List.length_cons, List.length_nil, Nat.zero_add]; exact okR_nx hr⟩, rfl, by simp only [HasE, lk, hnx]; simp⟩
      · have hi' : i = k := by omega
        subst hi'
        have hdr : List.take (s.length - (2 * (i : Int)).toNat) (List.drop (2 * (i : Int)).toNat s) = List.drop (2 * i) s := by
          rw [show (2 * (i : Int)).toNat = 2 * i by omega]
          exact List.take_of_length_le (by simp)
        simp (disch := first | assumption | omega | exact okR_new | exact okR_one | exact trivial | (simp only [List.length_append, List.length_cons, List.length_nil]; omega) | (simp only [List.length_append, List.length_cons, List.length_nil, Nat.reduceAdd])) only [go_sem, e_go, e_cond_bool, e_w_bool, e_step_ite, e_reg_ite, e_regW_ite, e_code_ite, e_block_ite, e_evQ_ite, e_fin_ite, e_pair_ite, Try.f23, slc, hdr]
noncomputable def iTk : List AVal → Option AVal := pimp fun xs r => ∃ (s : List UInt8) (n : Int), (s.length < 400000000 ∧ -100000 ≤ n ∧ n ≤ 100000) ∧ xs = [.str s, .int .i64 n] ∧ r = (match takeN s n with | some (l, r) => .tup (slc cI l) [.str r, .bool true] | none => .tup (.sl .no 0 []) [.str [], .bool false])
theorem iTk_eq {s : List UInt8} {n : Int} (h : s.length < 400000000 ∧ -100000 ≤ n ∧ n ≤ 100000) : iTk [.str s, .int .i64 n] = some ((match takeN s n with | some (l, r) => .tup (slc cI l) [.str r, .bool true] | none => .tup (.sl .no 0 []) [.str [], .bool false])) := pimp_eq ⟨s, n, h, rfl, rfl⟩ (by rintro _ ⟨s', n', h', e, rfl⟩; have e0 := (List.cons.inj e).1; have e0r := (List.cons.inj e).2; have e1 := (List.cons.inj e0r).1; have e1r := (List.cons.inj e0r).2; have q0 := AVal.str.inj e0; have q1 := (AVal.int.inj e1).2; subst q0; subst q1; first | rfl | exact ⟨rfl, rfl⟩)
theorem iTk_call : ∀ xs v, iTk xs = some v → PCall Try.prog 23 xs v := fun xs v h0 => by obtain ⟨s, n, h, rfl, rfl⟩ := pimp_spec h0; exact w_takeR s n h
theorem w_rdNum (s : List UInt8) (n : Int) (l : List Int) (rest : List UInt8) (b : Nat) (H : List ABlk) (T : List (Nat × (Nat × Nat))) (h : s.length < 400000000 ∧ n ≤ 100000) (hb : H[b]? = some (.cells 0 [.str s])) (hs : shut ⟨H, T⟩ = true) (ht : takeN s n = some (l, rest)) :
    RCall Try.prog 18 [.ptr b 0 0, .int .i64 n] ⟨H, T⟩ (slc cI l) ⟨H.set b (.cells 0 [.str rest]), T⟩ := by
  obtain ⟨hsl, hn2⟩ := h
  have hl := (List.getElem?_eq_some_iff.1 hb).1
  unfold takeN at ht
  split at ht
  · cases ht
  rename_i hc
  obtain ⟨k, rfl⟩ := Int.eq_ofNat_of_zero_le (show 0 ≤ n by omega)
  rw [Int.toNat_natCast] at ht
  cases ht
  have hk : 2 * k ≤ s.length := by omega
  have d0 : decide ((k : Int) < 0) = false := decide_eq_false (by omega)
  have d1 : decide ((s.length : Int) < 2 * (k : Int)) = false := decide_eq_false (by omega)
  have hw2 : IntKind.i64.wrap (2 * (k : Int)) = 2 * (k : Int) := IntWalk.i64_in _ (by omega)
  refine RCall.of_ws (fn := Try.f18) (Γ := gam []) (mu := false) (by simp) (by simp) Sound.nil mixed Try.func18 rfl (by kernel_rfl) (by simp) (by kernel_rfl) ?_
  simp (disch := first | assumption | omega | exact okR_new | exact okR_one | exact trivial | (simp only [List.length_append, List.length_cons, List.length_nil]; omega) | (simp only [List.length_append, List.length_cons, List.length_nil, Nat.reduceAdd])) only [go_sem, e_go, e_cond_bool, e_w_bool, e_step_ite, e_reg_ite, e_regW_ite, e_code_ite, e_block_ite, e_evQ_ite, e_fin_ite, e_pair_ite, Try.f18, hb, d0, d1, hw2]
  refine w_loop [] [4, 24] (fun i : Nat => k - i) (fun i => i ≤ k) (fun i => ⟨H, lzT T i (1, 3)⟩)
    (fun i => [(4, .sl (lzR T i) i (fl cI (ucL s i))), (24, .int .i64 (i : Nat))]) 0 (fun _ => rfl) (by kernel_rfl) (Nat.zero_le _) (by simp [lzT]) (by simp [HasE, lk, ucL, fl, lzR]) ?_ (fun i _ => ⟨Nat.le_refl _, lz_len⟩)
  intro i hi
  have hul := ucL_len s i
  by_cases hlt : i < k
  · have hwi : IntKind.i64.wrap ((i : Int) + 1) = (i : Int) + 1 := IntWalk.i64_in _ (by omega)
    have hnx := ucL_next s i
    obtain ⟨a, c, ha, hc, hn, ha2, hc2⟩ := numAt_at (s := s) (i := i) (by omega)
    rw [hn, show 256 * (a.toNat : Int) + (c.toNat : Int) - 1 = (a.toNat : Int) * 2 ^ 8 + (c.toNat : Int) - 1 by omega] at hnx
    have hap : aappend Try.prog 22 22 ⟨H, lzT T i (1, 3)⟩ (.sl (lzR T i) i (fl cI (ucL s i))) (.sl .full 1 (cI ((a.toNat : Int) * 2 ^ 8 + (c.toNat : Int) - 1))) = some (.sl (lzR T (i + 1)) (i + 1) (fl cI (ucL s (i + 1))), ⟨H, lzT T (i + 1) (1, 3)⟩) := by
      have := apQ_one (H := H) (T := lzT T i (1, 3)) (r := lzR T i) (r' := .full) (l := ucL s i) (x := (a.toNat : Int) * 2 ^ 8 + (c.toNat : Int) - 1) (by rw [hul]; exact lz_ok) (by omega)
      rw [← hnx, ucL_len, ucL_len, lz_R, lz_T] at this
      exact this
    simp (disch := first | assumption | omega | exact okR_new | exact okR_one | exact trivial | (simp only [List.length_append, List.length_cons, List.length_nil]; omega) | (simp only [List.length_append, List.length_cons, List.length_nil, Nat.reduceAdd])) only [go_sem, e_go, e_cond_bool, e_w_bool, e_step_ite, e_reg_ite, e_regW_ite, e_code_ite, e_block_ite, e_evQ_ite, e_fin_ite, e_pair_ite, Try.f18, hwi, ha, hc, apQ_mk, hap]
    exact ⟨i + 1, dn hlt, hlt, rfl, by simp [HasE, lk]⟩
  · have hi' : i = k := by omega
    subst hi'
    have hdr : List.take (s.length - (2 * (i : Int)).toNat) (List.drop (2 * (i : Int)).toNat s) = List.drop (2 * i) s := by
      rw [show (2 * (i : Int)).toNat = 2 * i by omega]
      exact List.take_of_length_le (by simp)
    simp (disch := first | assumption | omega | exact okR_new | exact okR_one | exact trivial | (simp only [List.length_append, List.length_cons, List.length_nil]; omega) | (simp only [List.length_append, List.length_cons, List.length_nil, Nat.reduceAdd])) only [go_sem, e_go, e_cond_bool, e_w_bool, e_step_ite, e_reg_ite, e_regW_ite, e_code_ite, e_block_ite, e_evQ_ite, e_fin_ite, e_pair_ite, Try.f18, hb, hw2, hdr]
    obtain ⟨X, hX⟩ := lz_app (T := T) (i := i) (z := (1, 3))
    rw [hX]
    refine ⟨by rw [slc, hul], .inr ⟨⟨[], X, by simp⟩, ?_⟩⟩
    exact shut_set hs rfl
noncomputable def iRn : List AVal → AMem → Option (AVal × AMem) := rimp fun xs m r m' => ∃ (s : List UInt8) (n : Int) (l : List Int) (rest : List UInt8) (b : Nat) (H : List ABlk) (T : List (Nat × (Nat × Nat))), ((s.length < 400000000 ∧ n ≤ 100000) ∧ H[b]? = some (.cells 0 [.str s]) ∧ shut ⟨H, T⟩ = true ∧ takeN s n = some (l, rest)) ∧ xs = [.ptr b 0 0, .int .i64 n] ∧ m = ⟨H, T⟩ ∧ r = slc cI l ∧ m' = ⟨H.set b (.cells 0 [.str rest]), T⟩
theorem iRn_eq {s : List UInt8} {n : Int} {l : List Int} {rest : List UInt8} {b : Nat} {H : List ABlk} {T : List (Nat × (Nat × Nat))} (h : (s.length < 400000000 ∧ n ≤ 100000) ∧ H[b]? = some (.cells 0 [.str s]) ∧ shut ⟨H, T⟩ = true ∧ takeN s n = some (l, rest)) : iRn [.ptr b 0 0, .int .i64 n] ⟨H, T⟩ = some (slc cI l, ⟨H.set b (.cells 0 [.str rest]), T⟩) := rimp_eq ⟨s, n, l, rest, b, H, T, h, rfl, rfl, rfl, rfl⟩ (by rintro _ _ ⟨s', n', l', rest', b', H', T', h', e, em, rfl, rfl⟩; have e1 := (AVal.ptr.inj (List.cons.inj e).1).1; have e2 := (AVal.int.inj (List.cons.inj (List.cons.inj e).2).1).2; subst e1 e2; obtain ⟨rfl, rfl⟩ := AMem.mk.inj em; have e3 := AVal.str.inj (List.cons.inj (ABlk.cells.inj (Option.some.inj (h.2.1.symm.trans h'.2.1))).2).1; subst e3; have e4 := Option.some.inj (h.2.2.2.symm.trans h'.2.2.2); cases e4; exact ⟨rfl, rfl⟩)
theorem iRn_call : ∀ xs m v m', iRn xs m = some (v, m') → RCall Try.prog 18 xs m v m' := fun xs m v m' h0 => by obtain ⟨s, n, l, rest, b, H, T, h, rfl, rfl, rfl, rfl⟩ := rimp_spec h0; exact w_rdNum s n l rest b H T h.1 h.2.1 h.2.2.1 h.2.2.2
/-- The value with which a reader panics. -/
def shortV (n : Nat) : Value := .iface 52 (.agg #[.int .i64 (n : Nat)])
theorem x_rdNum (s : List UInt8) (n : Int) (b : Nat) (H : List ABlk) (T : List (Nat × (Nat × Nat))) (h : s.length < 400000000 ∧ -100000 ≤ n ∧ n ≤ 100000) (hb : H[b]? = some (.cells 0 [.str s])) (hs : shut ⟨H, T⟩ = true) (ht : takeN s n = none) :
    XCall Try.prog 18 [.ptr b 0 0, .int .i64 n] ⟨H, T⟩ (shortV s.length) ⟨H, T⟩ := by
  obtain ⟨hsl, hn1, hn2⟩ := h
  have hl := (List.getElem?_eq_some_iff.1 hb).1
  have hc : n < 0 ∨ (s.length : Int) < 2 * n := by
    unfold takeN at ht
    split at ht
    · assumption
    · cases ht
  have hw2 : IntKind.i64.wrap (2 * n) = 2 * n := IntWalk.i64_in _ (by omega)
  refine XCall.of_body (fn := Try.f18) Try.func18 rfl (by kernel_rfl) (by simp) (Nat.le_refl _) (Nat.le_refl _) ?_
  refine AWp.pre (Γ := gam []) (mu := false) Sound.nil mixed 2 rfl (by kernel_rfl) ?_; intro K hK; simp only [e_preC, e_preC0, e_postC, e_postC0] at hK ⊢
  simp (disch := first | assumption | omega | exact okR_new | exact okR_one | exact trivial | (simp only [List.length_append, List.length_cons, List.length_nil]; omega) | (simp only [List.length_append, List.length_cons, List.length_nil, Nat.reduceAdd])) only [go_sem, e_go, e_cond_bool, e_w_bool, e_step_ite, e_reg_ite, e_regW_ite, e_code_ite, e_block_ite, e_evQ_ite, e_fin_ite, e_pair_ite, Try.f18, hb]
  refine hK _ (AWp.seq ?_)
  refine AWp.pre (Γ := gam []) (mu := false) Sound.nil mixed 1 rfl (by kernel_rfl) ?_; intro K hK; simp only [e_preC, e_preC0, e_postC, e_postC0] at hK ⊢
  have hV : ∀ κ u, VR κ (.ifc 52 (.agg [.int .i64 (s.length : Nat)])) u → (∃ t v, u = .iface t v) ∧ u = shortV s.length := by
    intro κ u h
    cases h with
    | ifc _ _ v h =>
      cases h with
      | agg _ vs hs1 hv _ =>
        have h0 := hv 0 (by simp)
        have hsz : vs.size = 1 := by simpa using hs1
        have hvs : vs = #[vs.getD 0 undef] := by
          apply Array.ext
          · simp [hsz]
          · intro i h1 h2
            have : i = 0 := by omega
            subst this
            simp [Array.getD, hsz]
        generalize vs.getD 0 undef = z at *
        cases h0
        subst hvs
        exact ⟨⟨_, _, rfl⟩, rfl⟩
  by_cases h0 : n < 0
  · have d0 : decide (n < 0) = true := decide_eq_true h0
    simp (disch := first | assumption | omega | exact okR_new | exact okR_one | exact trivial | (simp only [List.length_append, List.length_cons, List.length_nil]; omega) | (simp only [List.length_append, List.length_cons, List.length_nil, Nat.reduceAdd])) only [go_sem, e_go, e_cond_bool, e_w_bool, e_step_ite, e_reg_ite, e_regW_ite, e_code_ite, e_block_ite, e_evQ_ite, e_fin_ite, e_pair_ite, Try.f18, hb, d0, hw2]
    refine hK _ (AWp.cond (t := true) (by simp only [go_sem]) ?_)
    refine AWp.pan (x := shortV s.length) (Γ := gam []) (mu := false) Sound.nil 4 (by kernel_rfl) rfl rfl rfl ?_
    intro K2 hK2
    simp (disch := first | assumption | omega | exact okR_new | exact okR_one | exact trivial | (simp only [List.length_append, List.length_cons, List.length_nil]; omega) | (simp only [List.length_append, List.length_cons, List.length_nil, Nat.reduceAdd])) only [go_sem, e_go, e_cond_bool, e_w_bool, e_step_ite, e_reg_ite, e_regW_ite, e_code_ite, e_block_ite, e_evQ_ite, e_fin_ite, e_pair_ite, Try.f18]
    refine hK2 _ (fun κ u h => hV κ u (by simpa only [go_sem] using h)) ?_
    exact ⟨rfl, .inl rfl⟩
  · have d0 : decide (n < 0) = false := decide_eq_false h0
    have d1 : decide ((s.length : Int) < 2 * n) = true := decide_eq_true (by omega)
    simp (disch := first | assumption | omega | exact okR_new | exact okR_one | exact trivial | (simp only [List.length_append, List.length_cons, List.length_nil]; omega) | (simp only [List.length_append, List.length_cons, List.length_nil, Nat.reduceAdd])) only [go_sem, e_go, e_cond_bool, e_w_bool, e_step_ite, e_reg_ite, e_regW_ite, e_code_ite, e_block_ite, e_evQ_ite, e_fin_ite, e_pair_ite, Try.f18, hb, d0, d1, hw2]
    refine hK _ (AWp.cond (t := true) (by simp only [go_sem]) ?_)
    refine AWp.pan (x := shortV s.length) (Γ := gam []) (mu := false) Sound.nil 4 (by kernel_rfl) rfl rfl rfl ?_
    intro K2 hK2
    simp (disch := first | assumption | omega | exact okR_new | exact okR_one | exact trivial | (simp only [List.length_append, List.length_cons, List.length_nil]; omega) | (simp only [List.length_append, List.length_cons, List.length_nil, Nat.reduceAdd])) only [go_sem, e_go, e_cond_bool, e_w_bool, e_step_ite, e_reg_ite, e_regW_ite, e_code_ite, e_block_ite, e_evQ_ite, e_fin_ite, e_pair_ite, Try.f18]
    refine hK2 _ (fun κ u h => hV κ u (by simpa only [go_sem] using h)) ?_
    exact ⟨rfl, .inl rfl⟩
end Go.Hk.N
