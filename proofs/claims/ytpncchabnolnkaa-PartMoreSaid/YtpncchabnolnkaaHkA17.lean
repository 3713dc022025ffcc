/- Layer 2: Split. -/
import Derived.Test.YtpncchabnolnkaaHkA16
set_option linter.unusedSimpArgs false
set_option linter.unusedVariables false
namespace Go.Hk.A
open Go.Proofs

theorem intL_inj {a b : List Int} (h : intL a = intL b) : a = b := by
  have := congrArg (List.map fun v => match v with | AVal.int _ n => n | _ => 0) h
  simpa [intL, Function.comp_def] using this
theorem setV_inj {A B : Nat} (hA : A < 2 ^ 256) (hB : B < 2 ^ 256) (h : setV A = setV B) : A = B := setL_inj' hA hB (AVal.agg.inj h)
noncomputable def iRef : List AVal → AMem → Option (AVal × AMem) := rimp fun xs m r m' => ∃ (old : List Int) (A : Nat) (B : Nat) (T : List (Nat × Nat)), (old.length = 256 ∧ A < 2 ^ 256 ∧ B < 2 ^ 256) ∧ xs = [.msl 0 1 0 256 256, setV A] ∧ m = ⟨[.cells 1 (intL old), .cells 0 (setL B)], T⟩ ∧ r = .undef ∧ m' = ⟨[.cells 1 (intL (refN old A)), .cells 0 (setL B)], T⟩
theorem iRef_eq {old : List Int} {A : Nat} {B : Nat} {T : List (Nat × Nat)} (h : old.length = 256 ∧ A < 2 ^ 256 ∧ B < 2 ^ 256) : iRef [.msl 0 1 0 256 256, setV A] ⟨[.cells 1 (intL old), .cells 0 (setL B)], T⟩ = some (.undef, ⟨[.cells 1 (intL (refN old A)), .cells 0 (setL B)], T⟩) := rimp_eq ⟨old, A, B, T, h, rfl, rfl, rfl, rfl⟩ (by rintro _ _ ⟨old', A', B', T', h', e, em, rfl, rfl⟩; simp only [List.cons.injEq, and_true, true_and] at e; simp only [AMem.mk.injEq, List.cons.injEq, ABlk.cells.injEq, and_true, true_and] at em; obtain ⟨⟨e1, e2⟩, rfl⟩ := em; have h1 := intL_inj e1; have h2 := setV_inj h.2.1 h'.2.1 e; subst h1 h2; exact ⟨rfl, by rw [e2]⟩)
theorem iRef_call : ∀ xs m v m', iRef xs m = some (v, m') → RCall Try.prog 46 xs m v m' := fun xs m v m' h0 => by obtain ⟨old, A, B, T, h, rfl, rfl, rfl, rfl⟩ := rimp_spec h0; exact w46 old A B T h.1 h.2.1
def mN (l : List Nat) : List Int := l.foldl refN (List.replicate 256 0)
theorem mN0 : intL (mN []) = List.replicate 256 (.int .i64 0) := by simp only [mN, List.foldl_nil, intL, List.map_replicate]
theorem refN_len (old : List Int) (A : Nat) : (refN old A).length = 256 := cn_len _ _
theorem mN_add (l : List Nat) (A : Nat) : mN (l ++ [A]) = refN (mN l) A := by simp only [mN, List.foldl_append, List.foldl_cons, List.foldl_nil]
theorem mN_len (l : List Nat) : (mN l).length = 256 := by
  rcases List.eq_nil_or_concat l with rfl | ⟨r, A, rfl⟩
  · simp only [mN, List.foldl_nil, List.length_replicate]
  · rw [List.concat_eq_append, mN_add, refN_len]
theorem cn_true {R : Nat → Nat → Bool} (h : ∀ a b, R a b = true) : ∀ n, (cn R n).1 = List.replicate n 0
  | 0 => rfl
  | 1 => rfl
  | n + 2 => by
    have ih := cn_true h (n + 1)
    have hf : firstR R (n + 1) 0 (n + 1) = some 0 := by simp [firstR, h]
    rw [cn_old hf, ih]
    rw [show (List.replicate (n + 1) (0 : Int))[0]?.getD 0 = 0 by simp [List.replicate_succ]]
    exact (List.replicate_succ' ..).symm
theorem sameB_iff (l : List Nat) (a b : Int) : sameB l a b = true ↔ ∀ A ∈ l, has A a = has A b := by simp [sameB]
theorem mN_cls (l : List Nat) : mN l = (cls l 256).1 := by
  generalize hn : l.length = n
  induction n generalizing l with
  | zero =>
    have := List.eq_nil_of_length_eq_zero hn
    subst this
    rw [cls, cn_true (fun a b => by simp [sameB])]
    rfl
  | succ n ih =>
    rcases List.eq_nil_or_concat l with rfl | ⟨r, A, rfl⟩
    · simp at hn
    · rw [List.concat_eq_append] at hn ⊢
      have ih := ih r (by simpa using hn)
      rw [mN_add, ih, refN, cls]
      refine congrArg Prod.fst (cn_congr 256 fun a b ha hb => ?_)
      have hi := cn_iff (R := Rsm r) (n := 256) (fun a _ => by simp [sameB]) (fun a b _ _ h => by rw [sameB_iff] at h ⊢; exact fun A hA => (h A hA).symm) (fun a b c _ _ _ h k => by rw [sameB_iff] at h k ⊢; exact fun A hA => (h A hA).trans (k A hA)) 256 (Nat.le_refl _) a b ha hb
      have hl := cn_len (Rsm r) 256
      have ga : ((cn (Rsm r) 256).1[a]?.getD 0 = (cn (Rsm r) 256).1[b]?.getD 0) ↔ sameB r a b = true := by
        rw [← hi]
        rw [List.getElem?_eq_getElem (by omega), List.getElem?_eq_getElem (by omega)]
        simp
      simp only [keyR, keyN, Prod.mk.injEq, cls, Rsm] at ga ⊢
      rw [Bool.eq_iff_iff, decide_eq_true_eq, ga]
      simp only [sameB, List.all_append, List.all_cons, List.all_nil, Bool.and_true, Bool.and_eq_true, has_nat ha, has_nat hb]
      cases A.testBit a <;> cases A.testBit b <;> simp
theorem w37 (l : List Nat) (hl : okS l) : PCall Try.prog 37 [setsV l] (clsV l) := by
  refine PCall.of_w (fn := Try.f37) (Γ := gam [(46, .raw iRef), (47, .pure iMax)]) (mu := true) (Sound.raw iRef_call (Sound.pure iMax_call Sound.nil)) mixed Try.func37 rfl (by kernel_rfl) (by simp) (by kernel_rfl) ?_
  simp (disch := first | assumption | omega | exact okR_new) only [go_sem, Nat.reduceAdd, Int.reduceEq, Int.reduceLT, Int.reduceLE, Int.reduceNe, Int.reduceAdd, Int.reduceSub, Int.reduceMul, Int.reduceToNat, Nat.reduceMul, Nat.reduceLT, Nat.reduceLeDiff, Nat.reduceEqDiff, ↓reduceIte, reduceCtorEq, Nat.reduceSub, Nat.reduceDiv, Try.f37, ti3, ti22, ti24, ti32, ti41, iRef_eq, iMax_eq]
  refine w_loopc [] [10] (fun j : Nat => l.length - j) (fun j => j ≤ l.length) (fun j => ⟨[.cells 1 (intL (mN (l.take j)))], []⟩)
    (fun j => [(10, .int .i64 (j : Nat))]) 0 (fun _ => rfl) (by kernel_rfl) (by simp) ⟨[], [], by simp only [List.take_zero, mN0, List.append_nil]⟩ (by simp [HasE, lk]) ?_ ?_
  · intro j hj
    simp (disch := assumption) [cloE, clo, cloL, cloB, c_Rno, c_Rfull, c_append, c_fl setL_strip, cloL_strip _ _ (intL_strip _)]
  intro j hj
  obtain ⟨hl1, hl2⟩ := hl
  have hml := mN_len (l.take j)
  have hsl := fl_len setL_len l
  by_cases h : j < l.length
  · have hg := fl_at setL_len (show l[j]? = some l[j] by simp [h])
    have hB := hl2 l[j] (List.getElem_mem h)
    have hok : (mN (l.take j)).length = 256 ∧ l[j] < 2 ^ 256 ∧ l[j] < 2 ^ 256 := ⟨hml, hB, hB⟩
    simp (disch := first | assumption | omega | exact okR_new) only [go_sem, Nat.reduceAdd, Int.reduceEq, Int.reduceLT, Int.reduceLE, Int.reduceNe, Int.reduceAdd, Int.reduceSub, Int.reduceMul, Int.reduceToNat, Nat.reduceMul, Nat.reduceLT, Nat.reduceLeDiff, Nat.reduceEqDiff, ↓reduceIte, reduceCtorEq, Nat.reduceSub, Nat.reduceDiv, Try.f37, ti3, ti22, ti24, ti32, ti41, iRef_eq, iMax_eq, hg, n_agg]
    have hn : mN (l.take (j + 1)) = refN (mN (l.take j)) l[j] := by rw [List.take_succ_eq_append_getElem h, mN_add]
    exact ⟨j + 1, dn h, h, ⟨_, [], by simp [hn]; rfl⟩, by simp [HasE, lk]⟩
  · have : j = l.length := by omega
    subst this
    have hil := intL_len (mN l)
    rw [List.take_length] at hml ⊢
    have hne : mN l ≠ [] := fun e => by rw [e] at hml; simp at hml
    have hok : mN l ≠ [] ∧ (mN l).length < 1000000000 := ⟨hne, by omega⟩
    have hmax : mx (mN l) = ((cls l 256).2 : Int) - 1 := by rw [mN_cls]; exact cn_max 256 (by omega)
    have hcnt : (cls l 256).2 ≤ 256 := cn_cnt _ 256
    have hM := iMax_eq hok
    rw [hmax] at hM
    simp only [intV, hml] at hM
    simp (disch := first | assumption | omega | exact okR_new) only [go_sem, Nat.reduceAdd, Int.reduceEq, Int.reduceLT, Int.reduceLE, Int.reduceNe, Int.reduceAdd, Int.reduceSub, Int.reduceMul, Int.reduceToNat, Nat.reduceMul, Nat.reduceLT, Nat.reduceLeDiff, Nat.reduceEqDiff, ↓reduceIte, reduceCtorEq, Nat.reduceSub, Nat.reduceDiv, Try.f37, ti3, ti22, ti24, ti32, ti41, iRef_eq, iMax_eq, intL_strip, hM]
    simp only [clsV, intV, ← mN_cls, hml]
end Go.Hk.A
