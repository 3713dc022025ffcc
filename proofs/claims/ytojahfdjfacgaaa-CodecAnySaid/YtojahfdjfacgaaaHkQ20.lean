/- Sets of bytes ars numbers. -/
import Derived.Test.YtojahfdjfacgaaaHkQ19
import Derived.Laws.Bits64b
set_option linter.unusedSimpArgs false
namespace Go.Hk

def wd (A k : Nat) : Nat := A / 2 ^ (64 * k) % 2 ^ 64
def setL (A : Nat) : List AVal := [.int .u64 (wd A 0), .int .u64 (wd A 1), .int .u64 (wd A 2), .int .u64 (wd A 3)]
def setV (A : Nat) : AVal := .agg (setL A)

theorem wd_bit (A k j : Nat) : (wd A k).testBit j = (decide (j < 64) && A.testBit (64 * k + j)) := by
  unfold wd
  rw [Nat.testBit_mod_two_pow, Nat.testBit_div_two_pow, Nat.add_comm]
theorem wd_lt (A k : Nat) : wd A k < 18446744073709551616 := Nat.mod_lt _ (by decide)
theorem wd_or (A k j i : Nat) (hj : j < 64) : wd (A ||| 2 ^ (64 * k + j)) i = if i = k then wd A i ||| 2 ^ j else wd A i := by
  apply Nat.eq_of_testBit_eq
  intro n
  by_cases hn : n < 64
  · by_cases h : i = k
    · subst h
      have e : (64 * i + j = 64 * i + n) ↔ j = n := by omega
      simp [wd_bit, Nat.testBit_or, Nat.testBit_two_pow, hn, e]
    · have e : ¬ 64 * k + j = 64 * i + n := by omega
      simp [wd_bit, Nat.testBit_or, Nat.testBit_two_pow, hn, e, h]
  · by_cases h : i = k
    · have e : ¬ j = n := by omega
      simp [wd_bit, Nat.testBit_or, Nat.testBit_two_pow, hn, h, e]
    · simp [wd_bit, hn, h]
theorem setL_len (A : Nat) : (setL A).length = 4 := nr rfl
theorem setL_get {A k : Nat} (h : k < 4) : (setL A)[k]? = some (.int .u64 (wd A k)) := by
  match k, h with
  | 0, _ => rfl
  | 1, _ => rfl
  | 2, _ => rfl
  | 3, _ => rfl
theorem setL_put {A k j : Nat} (h : k < 4) (hj : j < 64) : (setL A).set k (.int .u64 ((wd A k ||| 2 ^ j : Nat) : Int)) = setL (A ||| 2 ^ (64 * k + j)) := by
  simp only [setL, wd_or A k j _ hj]
  match k, h with
  | 0, _ => simp
  | 1, _ => simp
  | 2, _ => simp
  | 3, _ => simp

/-! The program's ways of naming a bit. -/
theorem n_tdiv64 (b : Nat) : ((b : Nat) : Int).tdiv 64 = ((b / 64 : Nat) : Int) := by rw [Int.tdiv_eq_ediv_of_nonneg (by omega)]; omega
theorem n_tmod64 (b : Nat) : ((b : Nat) : Int).tmod 64 = ((b % 64 : Nat) : Int) := by rw [Int.tmod_eq_emod_of_nonneg (by omega)]; omega
theorem two_lt {j : Nat} (h : j < 64) : 2 ^ j < 18446744073709551616 := Nat.pow_lt_pow_right (a := 2) (by decide) h
theorem n_pow {j : Nat} (h : j < 64) : IntKind.u64.wrap (2 ^ j) = ((2 ^ j : Nat) : Int) := by
  rw [IntKind.wrap_u64]
  have := two_lt h
  rw [show (2 : Int) ^ j = ((2 ^ j : Nat) : Int) by simp]
  exact Int.emod_eq_of_lt (Int.natCast_nonneg _) (Int.ofNat_lt.mpr this)
theorem and_two (w j : Nat) : w &&& 2 ^ j = if w.testBit j then 2 ^ j else 0 := by
  apply Nat.eq_of_testBit_eq
  intro n
  by_cases hn : j = n
  · subst hn; cases h : w.testBit j <;> simp [h, Nat.testBit_and, Nat.testBit_two_pow]
  · cases h : w.testBit j <;> simp [hn, Nat.testBit_and, Nat.testBit_two_pow]
theorem n_has (A b : Nat) : (bits .and .u64 ((wd A (b / 64) : Nat) : Int) ((2 ^ (b % 64) : Nat) : Int) = 0) = (A.testBit b = false) := by
  have hj : b % 64 < 64 := Nat.mod_lt _ (by decide)
  rw [bits_and_u64_nat _ _ (wd_lt _ _) (two_lt hj), and_two, wd_bit]
  have e : 64 * (b / 64) + b % 64 = b := by omega
  have : 2 ^ (b % 64) ≠ 0 := Nat.pos_iff_ne_zero.mp (Nat.two_pow_pos _)
  have h2 : ((2 ^ (b % 64) : Nat) : Int) ≠ 0 := by exact_mod_cast this
  rw [e]
  cases A.testBit b with
  | false => simp
  | true => simp only [hj, decide_true, Bool.and_self, if_true, h2, Bool.true_eq_false]
theorem n_or (A b : Nat) : bits .or .u64 ((wd A (b / 64) : Nat) : Int) ((2 ^ (b % 64) : Nat) : Int) = ((wd A (b / 64) ||| 2 ^ (b % 64) : Nat) : Int) :=
  bits_or_u64_nat _ _ (wd_lt _ _) (two_lt (Nat.mod_lt _ (by decide)))
theorem n_href (A b : Nat) : (bits .and .u64 ((wd A (b / 64) / 2 ^ (b % 64) : Nat) : Int) 1 = 1) = (A.testBit b = true) := by
  have hj : b % 64 < 64 := Nat.mod_lt _ (by decide)
  have hl := wd_lt A (b / 64)
  have hd : wd A (b / 64) / 2 ^ (b % 64) ≤ wd A (b / 64) := Nat.div_le_self _ _
  have := bits_and_u64_nat (wd A (b / 64) / 2 ^ (b % 64)) 1 (by omega) (by decide)
  rw [show ((1 : Nat) : Int) = 1 by rfl] at this
  rw [this]
  have e : 64 * (b / 64) + b % 64 = b := by omega
  have h1 : (wd A (b / 64)).testBit (b % 64) = A.testBit b := by rw [wd_bit, e]; simp [hj]
  rw [← h1, Nat.testBit_eq_decide_div_mod_eq, Nat.and_one_is_mod, decide_eq_true_eq]
  apply propext
  generalize wd A (b / 64) / 2 ^ (b % 64) = q
  omega
theorem n_set {A b : Nat} (h : b < 256) : (setL A).set (b / 64) (.int .u64 ((wd A (b / 64) ||| 2 ^ (b % 64) : Nat) : Int)) = setL (A ||| 2 ^ b) := by
  rw [setL_put (by omega) (Nat.mod_lt _ (by decide))]
  rw [show 64 * (b / 64) + b % 64 = b by omega]
theorem setV_strip (A : Nat) : strip (setV A) = some (setV A) := nr rfl
theorem setV_cells (A : Nat) : cellsOf (setV A) = some (setL A) := nr rfl
theorem setV_zero : AVal.agg [.int .u64 0, .int .u64 0, .int .u64 0, .int .u64 0] = setV 0 := nr rfl
theorem setL_zero : [AVal.int .u64 0, .int .u64 0, .int .u64 0, .int .u64 0] = setL 0 := nr rfl
theorem setL_all (A : Nat) : List.take 4 (List.drop 0 (setL A)) = setL A := nr rfl
theorem n_many (A B : Nat) : setMany (setL A) 0 (setL B) = setL B := nr rfl
theorem n_agg (A : Nat) : AVal.agg (setL A) = setV A := nr rfl
theorem n_isB (A : Nat) : isB (setL A) = false := nr rfl
end Go.Hk
