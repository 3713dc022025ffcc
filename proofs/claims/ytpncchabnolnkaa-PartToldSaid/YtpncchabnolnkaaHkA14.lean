/- Layer 2: the document's classes, walked. -/
import Derived.Test.YtpncchabnolnkaaHkA13
set_option linter.unusedSimpArgs false
set_option linter.unusedVariables false
namespace Go.Hk.A
open Go.Proofs

structure Sp where
  b : Nat
  r : Rt
  T : List (Nat × Nat)
structure Inn where
  a : Nat
  k : Int
def clsV (l : List Nat) : AVal := .tup (intV (cls l 256).1) [.int .i64 ((cls l 256).2 : Nat)]
/-- What the inner loop has found. -/
def Fnd (l : List Nat) (b : Nat) (x : Inn) : Prop :=
  x.a ≤ b ∧ ((x.k = -1 ∧ firstS l b 0 b = firstS l b x.a (b - x.a)) ∨ ∃ c, firstS l b 0 b = some c ∧ x.k = (cls l b).1[c]?.getD 0)
theorem w44 (l : List Nat) (hl : okS l) : PCall Try.prog 44 [setsV l] (clsV l) := by
  refine PCall.of_w (fn := Try.f44) (Γ := gam [(48, .pure iSame)]) (mu := false) (Sound.pure iSame_call Sound.nil) mixed Try.func44 rfl (by kernel_rfl) (by simp) (by kernel_rfl) ?_
  simp (disch := first | assumption | omega | exact okR_new) only [go_sem, Nat.reduceAdd, Int.reduceEq, Int.reduceLT, Int.reduceLE, Int.reduceNe, Int.reduceAdd, Int.reduceSub, Int.reduceMul, Int.reduceToNat, Nat.reduceMul, Nat.reduceLT, Nat.reduceLeDiff, Nat.reduceEqDiff, ↓reduceIte, reduceCtorEq, Nat.reduceSub, Nat.reduceDiv, Try.f44, ti3, ti4, ti22, ti24, ti32, ti41, iSame_eq]
  refine w_loop [] [4, 5, 6] (fun x : Sp => 256 - x.b) (fun x => x.b ≤ 256 ∧ okR x.T x.r (cls l x.b).1.length 1 = true) (fun x => ⟨[], x.T⟩)
    (fun x => [(4, .sl x.r (cls l x.b).1.length (intL (cls l x.b).1)), (5, .int .i64 ((cls l x.b).2 : Nat)), (6, .int .i64 (x.b : Nat))]) ⟨0, .full, []⟩ (fun _ => rfl) (by kernel_rfl) (by simp [okR]) rfl (by simp [HasE, lk, cn, intL]) ?_
  rintro ⟨b, r, T⟩ ⟨hb, hr⟩
  simp only at hb hr
  have hlen : (cls l b).1.length = b := cn_len (Rsm l) b
  have hcnt : (cls l b).2 ≤ b := cn_cnt (Rsm l) b
  have hsv : strip (setsV l) = some (setsV l) := slc_strip setL_strip
  by_cases h : b < 256
  · simp (disch := first | assumption | omega | exact okR_new) only [go_sem, Nat.reduceAdd, Int.reduceEq, Int.reduceLT, Int.reduceLE, Int.reduceNe, Int.reduceAdd, Int.reduceSub, Int.reduceMul, Int.reduceToNat, Nat.reduceMul, Nat.reduceLT, Nat.reduceLeDiff, Nat.reduceEqDiff, ↓reduceIte, reduceCtorEq, Nat.reduceSub, Nat.reduceDiv, Try.f44, ti3, ti4, ti22, ti24, ti32, ti41, iSame_eq, kills_cons, kills_nil]
    refine w_loop [] [7, 8] (fun x : Inn => b + 1 - x.a) (Fnd l b) (fun _ => ⟨[], T⟩)
      (fun x => [(7, .int .i64 x.k), (8, .int .i64 (x.a : Nat))]) ⟨0, -1⟩ (fun _ => rfl) (by kernel_rfl) ⟨Nat.zero_le _, .inl ⟨rfl, rfl⟩⟩ rfl (by simp [HasE, lk]) ?_
    rintro ⟨a, k⟩ ⟨ha, hf⟩
    simp only at ha hf
    rcases hf with ⟨rfl, hf⟩ | ⟨c, hc, rfl⟩
    · by_cases hab : a < b
      · have e : b - a = (b - (a + 1)) + 1 := by omega
        rw [e] at hf
        have hget : (intL (cls l b).1)[a]? = some (.int .i64 ((cls l b).1[a]?.getD 0)) := intL_get (by omega)
        cases hs : sameB l a b
        · simp only [firstR, hs, Bool.false_eq_true, if_false] at hf
          simp (disch := first | assumption | omega | exact okR_new) only [go_sem, Nat.reduceAdd, Int.reduceEq, Int.reduceLT, Int.reduceLE, Int.reduceNe, Int.reduceAdd, Int.reduceSub, Int.reduceMul, Int.reduceToNat, Nat.reduceMul, Nat.reduceLT, Nat.reduceLeDiff, Nat.reduceEqDiff, ↓reduceIte, reduceCtorEq, Nat.reduceSub, Nat.reduceDiv, Try.f44, ti3, ti4, ti22, ti24, ti32, ti41, iSame_eq, hsv, hs, kills_cons, kills_nil]
          exact ⟨⟨a + 1, -1⟩, by show b + 1 - (a + 1) < b + 1 - a; omega, ⟨hab, .inl ⟨rfl, hf⟩⟩, rfl, by simp [HasE, lk]⟩
        · simp only [firstR, hs, if_true] at hf
          simp (disch := first | assumption | omega | exact okR_new) only [go_sem, Nat.reduceAdd, Int.reduceEq, Int.reduceLT, Int.reduceLE, Int.reduceNe, Int.reduceAdd, Int.reduceSub, Int.reduceMul, Int.reduceToNat, Nat.reduceMul, Nat.reduceLT, Nat.reduceLeDiff, Nat.reduceEqDiff, ↓reduceIte, reduceCtorEq, Nat.reduceSub, Nat.reduceDiv, Try.f44, ti3, ti4, ti22, ti24, ti32, ti41, iSame_eq, hsv, hs, hget, kills_cons, kills_nil]
          exact ⟨⟨a + 1, (cls l b).1[a]?.getD 0⟩, by show b + 1 - (a + 1) < b + 1 - a; omega, ⟨hab, .inr ⟨a, hf, rfl⟩⟩, rfl, by simp [HasE, lk]⟩
      · have hab2 : b - a = 0 := by omega
        rw [hab2] at hf
        have hn : firstS l b 0 b = none := hf
        have hc1 : (cls l (b + 1)).1 = (cls l b).1 ++ [((cls l b).2 : Int)] := by rw [cls, cn_new hn]
        have hc2 : (cls l (b + 1)).2 = (cls l b).2 + 1 := by rw [cls, cn_new hn]
        simp (disch := first | assumption | omega | (simp only [intL_len]; done) | (simp only [intL_len]; assumption)) only [go_sem, Nat.reduceAdd, Int.reduceEq, Int.reduceLT, Int.reduceLE, Int.reduceNe, Int.reduceAdd, Int.reduceSub, Int.reduceMul, Int.reduceToNat, Nat.reduceMul, Nat.reduceLT, Nat.reduceLeDiff, Nat.reduceEqDiff, ↓reduceIte, reduceCtorEq, Nat.reduceSub, Nat.reduceDiv, kills_cons, kills_nil, ti3, ti32, ti41, buildOne, app32]
        exact ⟨⟨b + 1, nxR T r, nxT T r ((cls l b).1.length + 1) 1⟩, dn h, ⟨h, by simpa [hc1] using okR_nx hr⟩, rfl, by simp [HasE, lk, hc1, hc2, intL]⟩
    · have hcb := (firstR_some b 0 c hc).2.1
      have hcl : c < (cls l b).1.length := by omega
      have hk0 : 0 ≤ (cls l b).1[c]?.getD 0 := by
        have := cn_mem (Rsm l) b _ (List.getElem_mem hcl)
        simpa [hcl] using this.1
      have hc1 : (cls l (b + 1)).1 = (cls l b).1 ++ [(cls l b).1[c]?.getD 0] := by rw [cls, cn_old hc]
      have hc2 : (cls l (b + 1)).2 = (cls l b).2 := by rw [cls, cn_old hc]
      generalize (cls l b).1[c]?.getD 0 = kk at *
      by_cases hab : a < b <;>
      · simp (disch := first | assumption | omega | (simp only [intL_len]; done) | (simp only [intL_len]; assumption)) only [go_sem, Nat.reduceAdd, Int.reduceEq, Int.reduceLT, Int.reduceLE, Int.reduceNe, Int.reduceAdd, Int.reduceSub, Int.reduceMul, Int.reduceToNat, Nat.reduceMul, Nat.reduceLT, Nat.reduceLeDiff, Nat.reduceEqDiff, ↓reduceIte, reduceCtorEq, Nat.reduceSub, Nat.reduceDiv, kills_cons, kills_nil, ti3, ti32, ti41, buildOne, app32]
        exact ⟨⟨b + 1, nxR T r, nxT T r ((cls l b).1.length + 1) 1⟩, dn h, ⟨h, by simpa [hc1] using okR_nx hr⟩, rfl, by simp [HasE, lk, hc1, hc2, intL]⟩
  · have h4 : b = 256 := by omega
    subst h4
    simp (disch := first | assumption | omega | exact okR_new) only [go_sem, Nat.reduceAdd, Int.reduceEq, Int.reduceLT, Int.reduceLE, Int.reduceNe, Int.reduceAdd, Int.reduceSub, Int.reduceMul, Int.reduceToNat, Nat.reduceMul, Nat.reduceLT, Nat.reduceLeDiff, Nat.reduceEqDiff, ↓reduceIte, reduceCtorEq, Nat.reduceSub, Nat.reduceDiv, Try.f44, ti3, ti4, ti22, ti24, ti32, ti41, iSame_eq, intL_strip, intV_def, kills_cons, kills_nil]
    rfl
end Go.Hk.A
