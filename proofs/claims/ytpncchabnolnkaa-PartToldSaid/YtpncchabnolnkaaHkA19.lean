/- Layer 2: more sets. -/
import Derived.Test.YtpncchabnolnkaaHkA18
set_option linter.unusedSimpArgs false
set_option linter.unusedVariables false
namespace Go.Hk.A
open Go.Proofs

theorem cls_turn (l : List Nat) (k : Nat) : cls (l.drop k ++ l.take k) 256 = cls l 256 := cn_congr 256 fun a b _ _ => by
  simp only [Rsm, sameB]
  conv => rhs; rw [← List.take_append_drop k l]
  rw [List.all_append, List.all_append, Bool.and_comm]
theorem has_not {A b : Nat} (h : b < 256) : has (notN A) (b : Int) = !has A (b : Int) := by
  rw [has_nat h, has_nat h, notN, mk_bit]; simp [h]
theorem cls_not (l : List Nat) : cls (l ++ l.map notN) 256 = cls l 256 := cn_congr 256 fun a b ha hb => by
  simp only [Rsm, sameB, List.all_append, List.all_map]
  have : ((fun A => has A (a : Int) == has A (b : Int)) ∘ notN) = fun A => has A (a : Int) == has A (b : Int) := by
    funext A
    simp only [Function.comp, has_not ha, has_not hb]
    cases has A (a : Int) <;> cases has A (b : Int) <;> rfl
  rw [this, Bool.and_self]
theorem sameB_take {l : List Nat} {k : Nat} {a b : Int} (h : sameB l a b = true) : sameB (l.take k) a b = true := by
  rw [sameB_iff] at h ⊢
  exact fun A hA => h A (List.mem_of_mem_take hA)
theorem cls_take (l : List Nat) (k : Nat) : (cls (l.take k) 256).2 ≤ (cls l 256).2 := cn_le 256 fun a b _ _ h => sameB_take h
theorem cls_iff (l : List Nat) {a b : Nat} (ha : a < 256) (hb : b < 256) : ((cls l 256).1[a]? = (cls l 256).1[b]?) ↔ sameB l a b = true :=
  cn_iff (R := Rsm l) (n := 256) (fun a _ => by simp [sameB]) (fun a b _ _ h => by rw [sameB_iff] at h ⊢; exact fun A hA => (h A hA).symm) (fun a b c _ _ _ h k => by rw [sameB_iff] at h k ⊢; exact fun A hA => (h A hA).trans (k A hA)) 256 (Nat.le_refl _) a b ha hb
theorem appSets_nil {H : List ABlk} {T : List (Nat × Nat)} {r' : Rt} {l : List Nat} (hn : l.length < 1000000000) :
    aappend Try.prog 41 41 ⟨H, T⟩ (.sl .full 0 []) (.sl r' l.length (fl setL l)) = some (.sl (nxR T .full) l.length (fl setL l), ⟨H, nxT T .full (l.length * 4) 4⟩) :=
  appSets_all (l := []) (l' := l) (r := .full) rfl (by simp; omega)
theorem fl_drop4 (l : List Nat) (i : Nat) : List.drop (i * 4) (fl setL l) = fl setL (l.drop i) := fl_drop setL_len l i
theorem fl_take4 (l : List Nat) (i : Nat) : List.take (i * 4) (fl setL l) = fl setL (l.take i) := fl_take setL_len l i
theorem okS_app {l r : List Nat} (h : okS l) (k : okS r) (hn : l.length + r.length < 1000000000) : okS (l ++ r) := ⟨by simpa using hn, fun A hA => by rcases List.mem_append.1 hA with h1 | h1; exact h.2 A h1; exact k.2 A h1⟩
theorem okS_not (l : List Nat) (h : l.length < 1000000000) : okS (l.map notN) := ⟨by simpa using h, fun A hA => by obtain ⟨B, _, rfl⟩ := List.mem_map.1 hA; exact notN_lt B⟩
structure Ns where
  i : Nat
  r : Rt
  T : List (Nat × Nat)
theorem l11 (l : List Quad) (k : Nat) (hl : okQ l) (hk : k < 256) : PCall Try.prog 11 [slc cQ l, .int .u8 (k : Nat)] (.bool true) := by
  have ht := trivial
  have ho := okS_runs l
  have hq : (runsQ l).length ≤ 10 := by simp only [runsQ, List.length_map, List.length_take]; omega
  generalize hs : runsQ l = s at *
  have hm : ((k : Int)).tmod ((s.length : Int) + 1) = ((k % (s.length + 1) : Nat) : Int) := by rw [show ((s.length : Int) + 1) = ((s.length + 1 : Nat) : Int) by omega]; rfl
  have hkk : k % (s.length + 1) ≤ s.length := by have := Nat.mod_lt k (show 0 < s.length + 1 by omega); omega
  generalize hke : k % (s.length + 1) = q at *
  have hQ : iQs [slc cQ l] = some (setsV s) := by rw [iQs_eq hl, hs]
  obtain ⟨Y, X, rfl, rfl⟩ : ∃ Y X, s = Y ++ X ∧ q = Y.length := ⟨s.take q, s.drop q, (List.take_append_drop q s).symm, by simp; omega⟩
  rw [List.length_append] at hq
  have hX : okS X := ⟨by omega, fun A hA => ho.2 A (by simp [hA])⟩
  have hY : okS Y := ⟨by omega, fun A hA => ho.2 A (by simp [hA])⟩
  have hXY : okS (X ++ Y) := okS_app hX hY (by omega)
  have hN : okS ((Y ++ X) ++ (Y ++ X).map notN) := okS_app ho (okS_not _ ho.1) (by simp; omega)
  have e1 : (Y ++ X).length - Y.length = X.length := by simp
  have e2 : (Y ++ X).drop Y.length = X := by simp
  have e3 : (Y ++ X).take Y.length = Y := by simp
  have c1 : cls (X ++ Y) 256 = cls (Y ++ X) 256 := by have := cls_turn (Y ++ X) Y.length; rwa [e2, e3] at this
  have hYX : Y.length ≤ (Y ++ X).length := by simp
  have hlen : (Y ++ X).length < 1000000000 := ho.1
  have hb : X.length + Y.length < 1000000000 := by omega
  refine PCall.of_w (fn := Try.f11) (Γ := gam [(23, .pure iNot), (26, .pure iInts), (32, .pure iAwk), (34, .pure iQs), (37, .pure iSpl)]) (mu := false) (Sound.pure (con1_call fun A h => w23 A h) (Sound.pure (con2_call fun a b h k => w26 a b h.1 k.1) (Sound.pure iAwk_call (Sound.pure iQs_call (Sound.pure iSpl_call Sound.nil))))) mixed Try.func11 rfl (by kernel_rfl) (by simp) (by kernel_rfl) ?_
  simp (disch := first | assumption | omega | exact okR_new) only [go_sem, Nat.reduceAdd, Int.reduceEq, Int.reduceLT, Int.reduceLE, Int.reduceNe, Int.reduceAdd, Int.reduceSub, Int.reduceMul, Int.reduceToNat, Nat.reduceMul, Nat.reduceLT, Nat.reduceLeDiff, Nat.reduceEqDiff, ↓reduceIte, reduceCtorEq, Nat.reduceSub, Nat.reduceDiv, Try.f11, ti3, ti4, ti5, ti22, ti24, ti32, ti41, ti43, ti56, iNot_eq, iInts_eq, iAwk_eq, iQs_eq, iSpl_eq, fl_strip cQ_strip, hQ, clsV_def, conv_b, hm, fl_drop4, fl_take4, e1, e2, e3, List.take_length, appSets_nil, appSets_all, c1]
  generalize hZ : Y ++ X = Z at *
  have hN0 : (Z ++ (Z.take 0).map notN) = Z := by simp
  refine w_loop [] [14, 15] (fun x : Ns => Z.length - x.i) (fun x => x.i ≤ Z.length ∧ okR x.T x.r ((Z ++ (Z.take x.i).map notN).length * 4) 4 = true) (fun x => ⟨[], x.T⟩)
    (fun x => [(14, .sl x.r (Z ++ (Z.take x.i).map notN).length (fl setL (Z ++ (Z.take x.i).map notN))), (15, .int .i64 (x.i : Nat))]) ⟨0, _, _⟩ (fun _ => rfl) (by kernel_rfl) ⟨Nat.zero_le _, by simp only [hN0]; exact okR_new⟩ rfl (by simp [HasE, lk, hN0]) ?_
  rintro ⟨i, r, T⟩ ⟨hi, hr⟩
  simp only at hi hr
  by_cases h : i < Z.length
  · have hg := fl_at setL_len (show Z[i]? = some Z[i] by simp [h])
    have hB := ho.2 Z[i] (List.getElem_mem h)
    have hn1 : (Z ++ (Z.take i).map notN).length + 1 < 1000000000 := by simp; omega
    have hn2 : Z ++ (Z.take (i + 1)).map notN = (Z ++ (Z.take i).map notN) ++ [notN Z[i]] := by rw [take_map h, List.append_assoc]
    simp (disch := first | assumption | omega | exact okR_new) only [go_sem, Nat.reduceAdd, Int.reduceEq, Int.reduceLT, Int.reduceLE, Int.reduceNe, Int.reduceAdd, Int.reduceSub, Int.reduceMul, Int.reduceToNat, Nat.reduceMul, Nat.reduceLT, Nat.reduceLeDiff, Nat.reduceEqDiff, ↓reduceIte, reduceCtorEq, Nat.reduceSub, Nat.reduceDiv, Try.f11, ti3, ti4, ti5, ti22, ti24, ti32, ti41, ti43, ti56, iNot_eq, iInts_eq, iAwk_eq, iQs_eq, iSpl_eq, hg, n_agg, appSets_mk, appSets_one]
    exact ⟨⟨i + 1, nxR T r, _⟩, dn h, ⟨h, by simp only [hn2]; exact okR_app hr⟩, rfl, by simp only [HasE, lk, hn2]; simp⟩
  · have : i = Z.length := by omega
    subst this
    rw [List.take_length] at hr ⊢
    have hc := cls_not Z
    have k1 := cls_len Z
    have k2 := cls_len Y
    simp (disch := first | assumption | omega | exact okR_new) only [go_sem, Nat.reduceAdd, Int.reduceEq, Int.reduceLT, Int.reduceLE, Int.reduceNe, Int.reduceAdd, Int.reduceSub, Int.reduceMul, Int.reduceToNat, Nat.reduceMul, Nat.reduceLT, Nat.reduceLeDiff, Nat.reduceEqDiff, ↓reduceIte, reduceCtorEq, Nat.reduceSub, Nat.reduceDiv, Try.f11, ti3, ti4, ti5, ti22, ti24, ti32, ti41, ti43, ti56, iNot_eq, iInts_eq, iAwk_eq, iQs_eq, iSpl_eq, clsV_def, hc, intV, intL_len, k1, k2]
    have same : ∀ i j, i < 256 → j < 256 → (cls Z 256).1[i]?.getD 0 = (cls Z 256).1[j]?.getD 0 → (cls Y 256).1[i]?.getD 0 = (cls Y 256).1[j]?.getD 0 := fun i j hi hj he => by
      have h1 : (cls Z 256).1[i]? = (cls Z 256).1[j]? := by
        rw [List.getElem?_eq_getElem (by omega), List.getElem?_eq_getElem (by omega)] at he ⊢
        simpa using he
      have h2 := sameB_take (k := Y.length) ((cls_iff Z hi hj).1 h1)
      rw [e3] at h2
      rw [(cls_iff Y hi hj).2 h2]
    refine w_loop [4] [18] (fun i : Nat => 256 - i) (fun i => i ≤ 256) (fun _ => ⟨[], T⟩) (fun i => [(18, .int .i64 (i : Nat))]) 0 (fun _ => rfl) (by kernel_rfl) (by omega) rfl (by simp [HasE, lk]) ?_
    intro i hi
    by_cases h1 : i < 256
    · simp (disch := first | assumption | omega | exact okR_new) only [go_sem, Nat.reduceAdd, Int.reduceEq, Int.reduceLT, Int.reduceLE, Int.reduceNe, Int.reduceAdd, Int.reduceSub, Int.reduceMul, Int.reduceToNat, Nat.reduceMul, Nat.reduceLT, Nat.reduceLeDiff, Nat.reduceEqDiff, ↓reduceIte, reduceCtorEq, Nat.reduceSub, Nat.reduceDiv, Try.f11, ti3, ti4, ti5, ti22, ti24, ti32, ti41, ti43, ti56, iNot_eq, iInts_eq, iAwk_eq, iQs_eq, iSpl_eq]
      refine w_loop [4] [19] (fun j : Nat => i - j) (fun j => j ≤ i) (fun _ => ⟨[], T⟩) (fun j => [(19, .int .i64 (j : Nat))]) 0 (fun _ => rfl) (by kernel_rfl) (Nat.zero_le _) rfl (by simp [HasE, lk]) ?_
      intro j hj
      by_cases h2 : j < i
      · have hs2 := same i j h1 (by omega)
        have g1 : (intL (cls Z 256).1)[i]? = some (.int .i64 ((cls Z 256).1[i]?.getD 0)) := intL_get (by omega)
        have g2 : (intL (cls Z 256).1)[j]? = some (.int .i64 ((cls Z 256).1[j]?.getD 0)) := intL_get (by omega)
        have g3 : (intL (cls Y 256).1)[i]? = some (.int .i64 ((cls Y 256).1[i]?.getD 0)) := intL_get (by omega)
        have g4 : (intL (cls Y 256).1)[j]? = some (.int .i64 ((cls Y 256).1[j]?.getD 0)) := intL_get (by omega)
        by_cases he : (cls Z 256).1[i]?.getD 0 = (cls Z 256).1[j]?.getD 0
        · have he2 := hs2 he
          simp (disch := first | assumption | omega | exact okR_new) only [go_sem, Nat.reduceAdd, Int.reduceEq, Int.reduceLT, Int.reduceLE, Int.reduceNe, Int.reduceAdd, Int.reduceSub, Int.reduceMul, Int.reduceToNat, Nat.reduceMul, Nat.reduceLT, Nat.reduceLeDiff, Nat.reduceEqDiff, ↓reduceIte, reduceCtorEq, Nat.reduceSub, Nat.reduceDiv, Try.f11, ti3, ti4, ti5, ti22, ti24, ti32, ti41, ti43, ti56, iNot_eq, iInts_eq, iAwk_eq, iQs_eq, iSpl_eq, g1, g2, g3, g4]
          exact ⟨j + 1, dn h2, h2, rfl, by simp [HasE, lk]⟩
        · simp (disch := first | assumption | omega | exact okR_new) only [go_sem, Nat.reduceAdd, Int.reduceEq, Int.reduceLT, Int.reduceLE, Int.reduceNe, Int.reduceAdd, Int.reduceSub, Int.reduceMul, Int.reduceToNat, Nat.reduceMul, Nat.reduceLT, Nat.reduceLeDiff, Nat.reduceEqDiff, ↓reduceIte, reduceCtorEq, Nat.reduceSub, Nat.reduceDiv, Try.f11, ti3, ti4, ti5, ti22, ti24, ti32, ti41, ti43, ti56, iNot_eq, iInts_eq, iAwk_eq, iQs_eq, iSpl_eq, g1, g2, g3, g4]
          exact ⟨j + 1, dn h2, h2, rfl, by simp [HasE, lk]⟩
      · have : j = i := by omega
        subst this
        simp (disch := first | assumption | omega | exact okR_new) only [go_sem, Nat.reduceAdd, Int.reduceEq, Int.reduceLT, Int.reduceLE, Int.reduceNe, Int.reduceAdd, Int.reduceSub, Int.reduceMul, Int.reduceToNat, Nat.reduceMul, Nat.reduceLT, Nat.reduceLeDiff, Nat.reduceEqDiff, ↓reduceIte, reduceCtorEq, Nat.reduceSub, Nat.reduceDiv, Try.f11, ti3, ti4, ti5, ti22, ti24, ti32, ti41, ti43, ti56, iNot_eq, iInts_eq, iAwk_eq, iQs_eq, iSpl_eq]
        exact ⟨j + 1, dn h1, h1, rfl, by simp [HasE, lk]⟩
    · have : i = 256 := by omega
      subst this
      have hle := cls_take Z Y.length
      rw [e3] at hle
      have hi := iInts_eq (a := (cls Z 256).1) (b := (cls Z 256).1) (by omega) (by omega)
      simp only [intV, k1] at hi
      simp (disch := first | assumption | omega | exact okR_new) only [go_sem, Nat.reduceAdd, Int.reduceEq, Int.reduceLT, Int.reduceLE, Int.reduceNe, Int.reduceAdd, Int.reduceSub, Int.reduceMul, Int.reduceToNat, Nat.reduceMul, Nat.reduceLT, Nat.reduceLeDiff, Nat.reduceEqDiff, ↓reduceIte, reduceCtorEq, Nat.reduceSub, Nat.reduceDiv, Try.f11, ti3, ti4, ti5, ti22, ti24, ti32, ti41, ti43, ti56, iNot_eq, iInts_eq, iAwk_eq, iQs_eq, iSpl_eq, hi, intL_strip]
      trace_state
end Go.Hk.A
