/- Layer 1: what the functions on sets answer. -/
import Derived.Test.YtpncchabnolnkaaChecked
import Derived.Test.YtpncchabnolnkaaHkEv
import Derived.KernelRfl
set_option linter.unusedSimpArgs false
set_option linter.unusedVariables false
namespace Go.Hk.A
open Go.Proofs
theorem ti22 : tiOf Try.prog 22 = some { size := 1, bytes := 8, zero := some (.int .u64 0), k := .int .u64 } := by kernel_rfl
theorem ti24 : tiOf Try.prog 24 = some { size := 4, bytes := 32, zero := some (.agg [.int .u64 0, .int .u64 0, .int .u64 0, .int .u64 0]), k := .arr 4 22 } := by kernel_rfl
theorem dn {n i : Nat} (h : i < n) : n - (i + 1) < n - i := by omega
theorem mixed : Try.prog.follows .mixedOrders = true := by kernel_rfl

def has (A : Nat) (n : Int) : Bool := decide (0 ≤ n) && decide (n < 256) && A.testBit n.toNat
theorem has_nat {A b : Nat} (h : b < 256) : has A ((b : Nat) : Int) = A.testBit b := by
  have : (b : Int) < 256 := by omega
  simp [has, this]
theorem has_neg {A : Nat} {n : Int} (h : n < 0) : has A n = false := by
  have : ¬ 0 ≤ n := by omega
  simp [has, this]
theorem has_big {A : Nat} {n : Int} (h : 256 ≤ n) : has A n = false := by
  have : ¬ n < 256 := by omega
  simp [has, this]

theorem has_call (f : FuncId) (hn : ∀ n : Int, n < 0 → ∀ A, PCall Try.prog f [setV A, .int .i64 n] (.bool false)) (hb : ∀ n : Int, 256 ≤ n → ∀ A, PCall Try.prog f [setV A, .int .i64 n] (.bool false))
    (hi : ∀ A b : Nat, b < 256 → PCall Try.prog f [setV A, .int .i64 b] (.bool (A.testBit b))) (A : Nat) (n : Int) : PCall Try.prog f [setV A, .int .i64 n] (.bool (has A n)) := by
  rcases Int.lt_or_le n 0 with h | h
  · rw [has_neg h]; exact hn n h A
  · rcases Int.lt_or_le n 256 with k | k
    · obtain ⟨b, rfl⟩ := Int.eq_ofNat_of_zero_le h
      have hb : b < 256 := by omega
      rw [has_nat hb]; exact hi A b hb
    · rw [has_big k]; exact hb n k A

theorem w14 : ∀ (A : Nat) (n : Int), PCall Try.prog 14 [setV A, .int .i64 n] (.bool (has A n)) := by
  apply has_call <;> intros <;> refine PCall.of_w (fn := Try.f14) (Γ := gam []) (mu := false) Sound.nil mixed Try.func14 rfl (by kernel_rfl) (by simp) (by kernel_rfl) ?_ <;>
  simp (disch := omega) only [go_sem, Nat.reduceAdd, Int.reduceEq, Int.reduceLT, Int.reduceLE, Int.reduceNe, Int.reduceAdd, Int.reduceSub, Int.reduceMul, Int.reduceToNat, Nat.reduceMul, Nat.reduceLT, Nat.reduceLeDiff, Nat.reduceEqDiff, ↓reduceIte, reduceCtorEq, Nat.reduceSub, Nat.reduceDiv, Try.f14, ti22, ti24]
  rename_i A b h
  cases A.testBit b <;> rfl
theorem w15 : ∀ (A : Nat) (n : Int), PCall Try.prog 15 [setV A, .int .i64 n] (.bool (has A n)) := by
  apply has_call <;> intros <;> refine PCall.of_w (fn := Try.f15) (Γ := gam []) (mu := false) Sound.nil mixed Try.func15 rfl (by kernel_rfl) (by simp) (by kernel_rfl) ?_ <;>
  simp (disch := omega) only [go_sem, Nat.reduceAdd, Int.reduceEq, Int.reduceLT, Int.reduceLE, Int.reduceNe, Int.reduceAdd, Int.reduceSub, Int.reduceMul, Int.reduceToNat, Nat.reduceMul, Nat.reduceLT, Nat.reduceLeDiff, Nat.reduceEqDiff, ↓reduceIte, reduceCtorEq, Nat.reduceSub, Nat.reduceDiv, Try.f15, ti22, ti24]
  rename_i A b h
  cases A.testBit b <;> rfl
def iHas : List AVal → Option AVal := con2 eSet (eInt .i64) fun A n => .bool (has A n)
theorem iHas_eq {A : Nat} {n : Int} (h : A < 2 ^ 256) : iHas [setV A, .int .i64 n] = some (.bool (has A n)) := con2_eq (E := eSet) (F := eInt .i64) h trivial

/-! with a byte -/
theorem w38 (A b : Nat) (h : b < 256) : PCall Try.prog 38 [setV A, .int .i64 b] (setV (A ||| 2 ^ b)) := by
  refine PCall.of_w (fn := Try.f38) (Γ := gam []) (mu := false) Sound.nil mixed Try.func38 rfl (by kernel_rfl) (by simp) (by kernel_rfl) ?_
  simp (disch := omega) only [go_sem, Nat.reduceAdd, Int.reduceEq, Int.reduceLT, Int.reduceLE, Int.reduceNe, Int.reduceAdd, Int.reduceSub, Int.reduceMul, Int.reduceToNat, Nat.reduceMul, Nat.reduceLT, Nat.reduceLeDiff, Nat.reduceEqDiff, ↓reduceIte, reduceCtorEq, Nat.reduceSub, Nat.reduceDiv, Try.f38, ti22, ti24]
def iAdd : List AVal → Option AVal
  | [s, .int .i64 n] => (decSet s).bind fun A => if 0 ≤ n ∧ n < 256 then some (setV (A ||| 2 ^ n.toNat)) else none
  | _ => none
theorem iAdd_eq {A b : Nat} (h : A < 2 ^ 256) (k : b < 256) : iAdd [setV A, .int .i64 (b : Int)] = some (setV (A ||| 2 ^ b)) := by
  have h1 := eSet.de A h
  have h2 : (0 : Int) ≤ (b : Int) ∧ (b : Int) < 256 := by omega
  simp only [eSet] at h1
  simp only [iAdd, h1, Option.bind_some, h2, and_self, if_true, Int.toNat_natCast]
theorem iAdd_call : ∀ vs v, iAdd vs = some v → PCall Try.prog 38 vs v := by
  intro vs v h
  unfold iAdd at h
  split at h
  · simp only [Option.bind_eq_some_iff] at h
    obtain ⟨A, hA, h⟩ := h
    obtain ⟨rfl, h1⟩ := eSet.ed _ _ hA
    split at h
    · rename_i n hn
      cases h
      obtain ⟨b, rfl⟩ := Int.eq_ofNat_of_zero_le hn.1
      exact w38 A b (by omega)
    · cases h
  · cases h

/-! word by word -/
theorem w40 (a b : Nat) (ha : a < 18446744073709551616) (hb : b < 18446744073709551616) : PCall Try.prog 40 [.int .u64 a, .int .u64 b] (.int .u64 ((a ||| b : Nat) : Int)) := by
  refine PCall.of_w (fn := Try.f40) (Γ := gam []) (mu := false) Sound.nil mixed Try.func40 rfl (by kernel_rfl) (by simp) (by kernel_rfl) ?_
  simp (disch := omega) only [go_sem, Nat.reduceAdd, Int.reduceEq, Int.reduceLT, Int.reduceLE, Int.reduceNe, Int.reduceAdd, Int.reduceSub, Int.reduceMul, Int.reduceToNat, Nat.reduceMul, Nat.reduceLT, Nat.reduceLeDiff, Nat.reduceEqDiff, ↓reduceIte, reduceCtorEq, Nat.reduceSub, Nat.reduceDiv, Try.f40, bits_or_u64_nat]
theorem w41 (a b : Nat) (ha : a < 18446744073709551616) (hb : b < 18446744073709551616) : PCall Try.prog 41 [.int .u64 a, .int .u64 b] (.int .u64 ((a &&& b : Nat) : Int)) := by
  refine PCall.of_w (fn := Try.f41) (Γ := gam []) (mu := false) Sound.nil mixed Try.func41 rfl (by kernel_rfl) (by simp) (by kernel_rfl) ?_
  simp (disch := omega) only [go_sem, Nat.reduceAdd, Int.reduceEq, Int.reduceLT, Int.reduceLE, Int.reduceNe, Int.reduceAdd, Int.reduceSub, Int.reduceMul, Int.reduceToNat, Nat.reduceMul, Nat.reduceLT, Nat.reduceLeDiff, Nat.reduceEqDiff, ↓reduceIte, reduceCtorEq, Nat.reduceSub, Nat.reduceDiv, Try.f41, bits_and_u64_nat]
theorem bits_not (a : Nat) (ha : a < 18446744073709551616) : bits .xor .u64 (if IntKind.u64.signed = true then -1 else IntKind.u64.max) a = ((18446744073709551615 ^^^ a : Nat) : Int) :=
  bits_xor_u64_nat 18446744073709551615 a (by decide) ha
theorem w42 (a b : Nat) (ha : a < 18446744073709551616) (hb : b < 18446744073709551616) : PCall Try.prog 42 [.int .u64 a, .int .u64 b] (.int .u64 ((18446744073709551615 ^^^ a : Nat) : Int)) := by
  refine PCall.of_w (fn := Try.f42) (Γ := gam []) (mu := false) Sound.nil mixed Try.func42 rfl (by kernel_rfl) (by simp) (by kernel_rfl) ?_
  simp (disch := omega) only [go_sem, Nat.reduceAdd, Int.reduceEq, Int.reduceLT, Int.reduceLE, Int.reduceNe, Int.reduceAdd, Int.reduceSub, Int.reduceMul, Int.reduceToNat, Nat.reduceMul, Nat.reduceLT, Nat.reduceLeDiff, Nat.reduceEqDiff, ↓reduceIte, reduceCtorEq, Nat.reduceSub, Nat.reduceDiv, Try.f42, bits_not]
def cWord (op : Nat → Nat → Nat) : Con := .pure (con2 eWord eWord fun a b => .int .u64 ((op a b : Nat) : Int))
noncomputable def gW : Gam := gam [(40, cWord (· ||| ·)), (41, cWord (· &&& ·)), (42, cWord fun a _ => 18446744073709551615 ^^^ a)]
theorem sW : Sound Try.prog gW := Sound.pure (con2_call w40) (Sound.pure (con2_call w41) (Sound.pure (con2_call w42) Sound.nil))
theorem word_eq {f : Nat → Nat → AVal} {a b : Nat} (h : a < 18446744073709551616) (k : b < 18446744073709551616) : con2 eWord eWord f [.int .u64 (a : Int), .int .u64 (b : Int)] = some (f a b) := con2_eq (E := eWord) (F := eWord) h k
def eaL (op : Nat → Nat → Nat) (A B i : Nat) : List AVal := [.int .u64 ((if 0 < i then op (wd A 0) (wd B 0) else 0 : Nat) : Int), .int .u64 ((if 1 < i then op (wd A 1) (wd B 1) else 0 : Nat) : Int),
  .int .u64 ((if 2 < i then op (wd A 2) (wd B 2) else 0 : Nat) : Int), .int .u64 ((if 3 < i then op (wd A 3) (wd B 3) else 0 : Nat) : Int)]
theorem eaL_len (op : Nat → Nat → Nat) (A B i : Nat) : (eaL op A B i).length = 4 := rfl
theorem eaL_put {op : Nat → Nat → Nat} {A B i : Nat} (h : i < 4) : (eaL op A B i).set i (.int .u64 ((op (wd A i) (wd B i) : Nat) : Int)) = eaL op A B (i + 1) := by
  match i, h with
  | 0, _ => rfl
  | 1, _ => rfl
  | 2, _ => rfl
  | 3, _ => rfl
theorem w39 (f : FuncId) (op : Nat → Nat → Nat) (hf : gW f = cWord op) (A B R : Nat) (hR : ∀ k, k < 4 → wd R k = op (wd A k) (wd B k)) :
    PCall Try.prog 39 [setV A, setV B, .fn f [] []] (setV R) := by
  have hfin : AVal.agg (List.take 4 (eaL op A B 4)) = setV R := by
    simp only [eaL, setV, setL, hR 0 (by omega), hR 1 (by omega), hR 2 (by omega), hR 3 (by omega)]
    rfl
  have hm : ∀ i, setMany (eaL op A B i) 0 (setL R) = setL R := fun _ => rfl
  have hfin2 : List.take 4 (eaL op A B 4) = setL R := by simpa [setV] using hfin
  refine PCall.of_w (fn := Try.f39) (Γ := gW) (mu := false) sW mixed Try.func39 rfl (by kernel_rfl) (by simp) (by kernel_rfl) ?_
  simp (disch := omega) only [go_sem, Nat.reduceAdd, Int.reduceEq, Int.reduceLT, Int.reduceLE, Int.reduceNe, Int.reduceAdd, Int.reduceSub, Int.reduceMul, Int.reduceToNat, Nat.reduceMul, Nat.reduceLT, Nat.reduceLeDiff, Nat.reduceEqDiff, ↓reduceIte, reduceCtorEq, Nat.reduceSub, Nat.reduceDiv, Try.f39, ti22, ti24]
  refine w_loop0 (fun i : Nat => 4 - i) (fun i => i ≤ 4) (fun i => ⟨[.cells 0 (setL A), .cells 0 (setL B), .cells 0 (eaL op A B i)], []⟩)
    (fun i => [(2, .fn f [] []), (3, .ptr 0 0 0), (4, .ptr 1 0 0), (6, .ptr 2 0 0), (8, .int .i64 (i : Nat))]) 0 (by omega) rfl (by simp [HasE, lk]) ?_
  rintro i hi E ⟨l2, l3, l4, l6, l8, -⟩
  by_cases h : i < 4
  · simp (disch := first | omega | exact wd_lt _ _) only [go_sem, Nat.reduceAdd, Int.reduceEq, Int.reduceLT, Int.reduceLE, Int.reduceNe, Int.reduceAdd, Int.reduceSub, Int.reduceMul, Int.reduceToNat, Nat.reduceMul, Nat.reduceLT, Nat.reduceLeDiff, Nat.reduceEqDiff, ↓reduceIte, reduceCtorEq, Nat.reduceSub, Nat.reduceDiv, ti22, ti24, l2, l3, l4, l6, l8, hf, cWord, word_eq, eaL_put, eaL_len]
    exact ⟨i + 1, dn h, h, rfl, by simp [HasE, lk, l2, l3, l4, l6]⟩
  · have h4 : i = 4 := by omega
    subst h4
    simp (disch := first | omega | exact wd_lt _ _) only [go_sem, Nat.reduceAdd, Int.reduceEq, Int.reduceLT, Int.reduceLE, Int.reduceNe, Int.reduceAdd, Int.reduceSub, Int.reduceMul, Int.reduceToNat, Nat.reduceMul, Nat.reduceLT, Nat.reduceLeDiff, Nat.reduceEqDiff, ↓reduceIte, reduceCtorEq, Nat.reduceSub, Nat.reduceDiv, ti22, ti24, l2, l3, l4, l6, l8, eaL_put, eaL_len, hfin, hm, hfin2]
/-! each -/
def iEach : List AVal → Option AVal
  | [x, y, .fn f [] []] => (decSet x).bind fun A => (decSet y).bind fun B =>
    if f = 40 then some (setV (A ||| B)) else if f = 41 then some (setV (A &&& B)) else if f = 42 then some (setV (notN A)) else none
  | _ => none
theorem iEach_call : ∀ vs v, iEach vs = some v → PCall Try.prog 39 vs v := by
  intro vs v h
  unfold iEach at h
  split at h
  · rename_i x y f
    simp only [Option.bind_eq_some_iff] at h
    obtain ⟨A, hA, B, hB, h⟩ := h
    obtain ⟨rfl, h1⟩ := eSet.ed _ _ hA
    obtain ⟨rfl, h2⟩ := eSet.ed _ _ hB
    split at h
    · subst f; cases h; exact w39 40 (· ||| ·) rfl A B _ fun k _ => wd_orN A B k
    · split at h
      · subst f; cases h; exact w39 41 (· &&& ·) rfl A B _ fun k _ => wd_andN A B k
      · split at h
        · subst f; cases h; exact w39 42 (fun a _ => 18446744073709551615 ^^^ a) rfl A B _ fun k hk => wd_notN A k hk
        · cases h
  · cases h
theorem each_or {A B : Nat} (h : A < 2 ^ 256) (k : B < 2 ^ 256) : iEach [setV A, setV B, .fn 40 [] []] = some (setV (A ||| B)) := by
  have h1 := eSet.de A h
  have h2 := eSet.de B k
  simp only [eSet] at h1 h2
  simp [iEach, h1, h2]
theorem each_and {A B : Nat} (h : A < 2 ^ 256) (k : B < 2 ^ 256) : iEach [setV A, setV B, .fn 41 [] []] = some (setV (A &&& B)) := by
  have h1 := eSet.de A h
  have h2 := eSet.de B k
  simp only [eSet] at h1 h2
  simp [iEach, h1, h2]
theorem each_not {A B : Nat} (h : A < 2 ^ 256) (k : B < 2 ^ 256) : iEach [setV A, setV B, .fn 42 [] []] = some (setV (notN A)) := by
  have h1 := eSet.de A h
  have h2 := eSet.de B k
  simp only [eSet] at h1 h2
  simp [iEach, h1, h2]
noncomputable def gE : Gam := gam [(39, .pure iEach)]
theorem sE : Sound Try.prog gE := Sound.pure iEach_call Sound.nil
theorem w18 (A B R : Nat) (h : iEach [setV A, setV B, .fn 40 [] []] = some (setV R)) : PCall Try.prog 18 [setV A, setV B] (setV R) := by
  refine PCall.of_w (fn := Try.f18) (Γ := gE) (mu := false) sE mixed Try.func18 rfl (by kernel_rfl) (by simp) (by kernel_rfl) ?_
  simp (disch := first | assumption | omega) only [go_sem, Nat.reduceAdd, Int.reduceEq, Int.reduceLT, Int.reduceLE, Int.reduceNe, Int.reduceAdd, Int.reduceSub, Int.reduceMul, Int.reduceToNat, Nat.reduceMul, Nat.reduceLT, Nat.reduceLeDiff, Nat.reduceEqDiff, ↓reduceIte, reduceCtorEq, Nat.reduceSub, Nat.reduceDiv, Try.f18, ti22, ti24, gE, h]
theorem w20 (A B R : Nat) (h : iEach [setV A, setV B, .fn 41 [] []] = some (setV R)) : PCall Try.prog 20 [setV A, setV B] (setV R) := by
  refine PCall.of_w (fn := Try.f20) (Γ := gE) (mu := false) sE mixed Try.func20 rfl (by kernel_rfl) (by simp) (by kernel_rfl) ?_
  simp (disch := first | assumption | omega) only [go_sem, Nat.reduceAdd, Int.reduceEq, Int.reduceLT, Int.reduceLE, Int.reduceNe, Int.reduceAdd, Int.reduceSub, Int.reduceMul, Int.reduceToNat, Nat.reduceMul, Nat.reduceLT, Nat.reduceLeDiff, Nat.reduceEqDiff, ↓reduceIte, reduceCtorEq, Nat.reduceSub, Nat.reduceDiv, Try.f20, ti22, ti24, gE, h]
theorem w22 (A R : Nat) (h : iEach [setV A, setV A, .fn 42 [] []] = some (setV R)) : PCall Try.prog 22 [setV A] (setV R) := by
  refine PCall.of_w (fn := Try.f22) (Γ := gE) (mu := false) sE mixed Try.func22 rfl (by kernel_rfl) (by simp) (by kernel_rfl) ?_
  simp (disch := first | assumption | omega) only [go_sem, Nat.reduceAdd, Int.reduceEq, Int.reduceLT, Int.reduceLE, Int.reduceNe, Int.reduceAdd, Int.reduceSub, Int.reduceMul, Int.reduceToNat, Nat.reduceMul, Nat.reduceLT, Nat.reduceLeDiff, Nat.reduceEqDiff, ↓reduceIte, reduceCtorEq, Nat.reduceSub, Nat.reduceDiv, Try.f22, ti22, ti24, gE, h]

/-! the document's -/
def iOther : List AVal → Option AVal
  | [.int .i64 n] => if 0 ≤ n ∧ n < 256 then some (.int .i64 (oth n.toNat : Nat)) else none
  | _ => none
theorem w43 (b : Nat) (h : b < 256) : PCall Try.prog 43 [.int .i64 b] (.int .i64 (oth b : Nat)) := by
  refine PCall.of_w (fn := Try.f43) (Γ := gam []) (mu := false) Sound.nil mixed Try.func43 rfl (by kernel_rfl) (by simp) (by kernel_rfl) ?_
  unfold oth
  by_cases h1 : 97 ≤ b ∧ b ≤ 122
  · simp (disch := omega) only [go_sem, Nat.reduceAdd, Int.reduceEq, Int.reduceLT, Int.reduceLE, Int.reduceNe, Int.reduceAdd, Int.reduceSub, Int.reduceMul, Int.reduceToNat, Nat.reduceMul, Nat.reduceLT, Nat.reduceLeDiff, Nat.reduceEqDiff, ↓reduceIte, reduceCtorEq, Nat.reduceSub, Nat.reduceDiv, Try.f43]
    congr 1; omega
  · by_cases h2 : 65 ≤ b ∧ b ≤ 90
    · by_cases h3 : 97 ≤ b
      · omega
      · simp (disch := omega) only [go_sem, Nat.reduceAdd, Int.reduceEq, Int.reduceLT, Int.reduceLE, Int.reduceNe, Int.reduceAdd, Int.reduceSub, Int.reduceMul, Int.reduceToNat, Nat.reduceMul, Nat.reduceLT, Nat.reduceLeDiff, Nat.reduceEqDiff, ↓reduceIte, reduceCtorEq, Nat.reduceSub, Nat.reduceDiv, Try.f43]
        rfl
    · by_cases h3 : 97 ≤ b
      · have h4 : 65 ≤ b := by omega
        simp (disch := omega) only [go_sem, Nat.reduceAdd, Int.reduceEq, Int.reduceLT, Int.reduceLE, Int.reduceNe, Int.reduceAdd, Int.reduceSub, Int.reduceMul, Int.reduceToNat, Nat.reduceMul, Nat.reduceLT, Nat.reduceLeDiff, Nat.reduceEqDiff, ↓reduceIte, reduceCtorEq, Nat.reduceSub, Nat.reduceDiv, Try.f43]
      · by_cases h4 : 65 ≤ b
        · simp (disch := omega) only [go_sem, Nat.reduceAdd, Int.reduceEq, Int.reduceLT, Int.reduceLE, Int.reduceNe, Int.reduceAdd, Int.reduceSub, Int.reduceMul, Int.reduceToNat, Nat.reduceMul, Nat.reduceLT, Nat.reduceLeDiff, Nat.reduceEqDiff, ↓reduceIte, reduceCtorEq, Nat.reduceSub, Nat.reduceDiv, Try.f43]
        · simp (disch := omega) only [go_sem, Nat.reduceAdd, Int.reduceEq, Int.reduceLT, Int.reduceLE, Int.reduceNe, Int.reduceAdd, Int.reduceSub, Int.reduceMul, Int.reduceToNat, Nat.reduceMul, Nat.reduceLT, Nat.reduceLeDiff, Nat.reduceEqDiff, ↓reduceIte, reduceCtorEq, Nat.reduceSub, Nat.reduceDiv, Try.f43]
theorem iOther_call : ∀ vs v, iOther vs = some v → PCall Try.prog 43 vs v := by
  intro vs v h
  unfold iOther at h
  split at h
  · split at h
    · rename_i n hn
      cases h
      obtain ⟨b, rfl⟩ := Int.eq_ofNat_of_zero_le hn.1
      exact w43 b (by omega)
    · cases h
  · cases h
theorem iOther_eq {b : Nat} (h : b < 256) : iOther [.int .i64 (b : Int)] = some (.int .i64 (oth b : Nat)) := by
  have h2 : (0 : Int) ≤ (b : Int) ∧ (b : Int) < 256 := by omega
  simp only [iOther, h2, and_self, if_true, Int.toNat_natCast]
noncomputable def gR : Gam := gam [(15, .pure iHas), (38, .pure iAdd), (43, .pure iOther)]
theorem sR : Sound Try.prog gR := Sound.pure (con2_call fun A n _ _ => w15 A n) (Sound.pure iAdd_call (Sound.pure iOther_call Sound.nil))
theorem w19 (A B : Nat) (hA : A < 2 ^ 256) (hB : B < 2 ^ 256) : PCall Try.prog 19 [setV A, setV B] (setV (mk (fun i => A.testBit i || B.testBit i) 256)) := by
  refine PCall.of_w (fn := Try.f19) (Γ := gR) (mu := false) sR mixed Try.func19 rfl (by kernel_rfl) (by simp) (by kernel_rfl) ?_
  simp (disch := omega) only [go_sem, Nat.reduceAdd, Int.reduceEq, Int.reduceLT, Int.reduceLE, Int.reduceNe, Int.reduceAdd, Int.reduceSub, Int.reduceMul, Int.reduceToNat, Nat.reduceMul, Nat.reduceLT, Nat.reduceLeDiff, Nat.reduceEqDiff, ↓reduceIte, reduceCtorEq, Nat.reduceSub, Nat.reduceDiv, Try.f19, ti22, ti24]
  refine w_loop0 (fun i : Nat => 256 - i) (fun i => i ≤ 256) (fun i => ⟨[.cells 0 (setL A), .cells 0 (setL B), .cells 0 (setL 0), .cells 0 (setL (mk (fun i => A.testBit i || B.testBit i) i))], []⟩)
    (fun i => [(2, .ptr 0 0 0), (3, .ptr 1 0 0), (4, .ptr 2 0 0), (5, .ptr 3 0 0), (6, .int .i64 (i : Nat))]) 0 (by omega) rfl (by simp [HasE, lk]) ?_
  rintro i hi E ⟨l2, l3, l4, l5, l6, -⟩
  by_cases h : i < 256
  · have hR := mk_lt256 (fun i => A.testBit i || B.testBit i) i hi
    cases h1 : A.testBit i <;> cases h2 : B.testBit i <;>
    · simp (disch := first | assumption | omega) only [go_sem, Nat.reduceAdd, Int.reduceEq, Int.reduceLT, Int.reduceLE, Int.reduceNe, Int.reduceAdd, Int.reduceSub, Int.reduceMul, Int.reduceToNat, Nat.reduceMul, Nat.reduceLT, Nat.reduceLeDiff, Nat.reduceEqDiff, ↓reduceIte, reduceCtorEq, Nat.reduceSub, Nat.reduceDiv, ti22, ti24, l2, l3, l4, l5, l6, gR, iHas_eq, has_nat, iAdd_eq, h1, h2]
      exact ⟨i + 1, dn h, h, by simp [mk_step, h1, h2], by simp [HasE, lk, l2, l3, l4, l5]⟩
  · have h4 : i = 256 := by omega
    subst h4
    simp (disch := first | assumption | omega) only [go_sem, Nat.reduceAdd, Int.reduceEq, Int.reduceLT, Int.reduceLE, Int.reduceNe, Int.reduceAdd, Int.reduceSub, Int.reduceMul, Int.reduceToNat, Nat.reduceMul, Nat.reduceLT, Nat.reduceLeDiff, Nat.reduceEqDiff, ↓reduceIte, reduceCtorEq, Nat.reduceSub, Nat.reduceDiv, ti22, ti24, l2, l3, l4, l5, l6]
end Go.Hk.A
