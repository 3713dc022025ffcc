/- strings.Join: the plain law. -/
import Derived.Test.YtbnhflckmfmkoaaDoorHkBld
import Derived.Test.YtbnhflckmfmkoaaDoorHkRx2
set_option linter.unusedSimpArgs false
set_option linter.unusedVariables false
namespace Go.Hk
def cS (s : List UInt8) : List AVal := [.str s]
theorem cS_len (s : List UInt8) : (cS s).length = 1 := rfl
theorem cS_strip (s : List UInt8) : stripL (cS s) = some (cS s) := rfl
theorem cS_inj {a b : List UInt8} (h : cS a = cS b) : a = b := by simpa [cS] using h
theorem l_s_cS {l : List (List UInt8)} : stripL (fl cS l) = some (fl cS l) := fl_strip cS_strip l
theorem l_n_cS {l : List (List UInt8)} : (fl cS l).length = l.length := by rw [fl_len cS_len, Nat.mul_one]
theorem c_flS {h t : Nat} {l : List (List UInt8)} : cloL h t (fl cS l) = true := cloL_strip _ _ l_s_cS
attribute [go_sem] l_s_cS l_n_cS c_flS l_s_cU l_n_cU
/-- What stands behind the first one. -/
def jt (sep : List UInt8) : List (List UInt8) → List UInt8
  | [] => []
  | y :: l => sep ++ (y ++ jt sep l)
def joinS (sep : List UInt8) : List (List UInt8) → List UInt8
  | [] => []
  | x :: l => x ++ jt sep l
theorem jt_app (sep : List UInt8) : ∀ l r, jt sep (l ++ r) = jt sep l ++ jt sep r
  | [], r => rfl
  | y :: l, r => by simp only [List.cons_append, jt, jt_app sep l r, List.append_assoc]
theorem jt_next {sep : List UInt8} {l : List (List UInt8)} {i : Nat} {y : List UInt8} (h : l[i]? = some y) : jt sep (l.take (i + 1)) = jt sep (l.take i) ++ sep ++ y := by
  obtain ⟨hi, rfl⟩ := List.getElem?_eq_some_iff.1 h
  rw [List.take_succ_eq_append_getElem hi, jt_app]
  simp [jt]
/-- How many bytes strings have, all together. -/
def ssum : List (List UInt8) → Nat
  | [] => 0
  | x :: l => x.length + ssum l
theorem ssum_app : ∀ l r, ssum (l ++ r) = ssum l + ssum r
  | [], r => by simp [ssum]
  | x :: l, r => by simp only [List.cons_append, ssum, ssum_app l r]; omega
theorem ssum_next {l : List (List UInt8)} {i : Nat} {y : List UInt8} (h : l[i]? = some y) : ssum (l.take (i + 1)) = ssum (l.take i) + y.length := by
  obtain ⟨hi, rfl⟩ := List.getElem?_eq_some_iff.1 h
  rw [List.take_succ_eq_append_getElem hi, ssum_app]
  simp [ssum]
theorem ssum_le {l : List (List UInt8)} {i : Nat} : ssum (l.take i) ≤ ssum l := by
  have h : ssum l = ssum (l.take i) + ssum (l.drop i) := by rw [← ssum_app, List.take_append_drop]
  omega
theorem jt_len (sep : List UInt8) : ∀ l, (jt sep l).length = sep.length * l.length + ssum l
  | [] => rfl
  | y :: l => by
    simp only [jt, List.length_append, jt_len sep l, List.length_cons, ssum, Nat.mul_add, Nat.mul_one]
    omega
theorem jt_take_le {sep : List UInt8} {l : List (List UInt8)} {i : Nat} : (jt sep (l.take i)).length ≤ (jt sep l).length := by
  have h : jt sep l = jt sep (l.take i) ++ jt sep (l.drop i) := by rw [← jt_app, List.take_append_drop]
  rw [h, List.length_append]; omega
def okJ (sep : List UInt8) (l : List (List UInt8)) : Prop := l.length < 1000000 ∧ (∀ s ∈ l, 0 < s.length) ∧ (joinS sep l).length < 1000000000
theorem quo_bd {n : Int} (h : 1 ≤ n) (h' : n < 1000000) : 9223372036854 ≤ Int.tdiv 9223372036854775807 n ∧ Int.tdiv 9223372036854775807 n ≤ 9223372036854775807 := by
  have e : Int.tdiv 9223372036854775807 n = 9223372036854775807 / n := Int.tdiv_eq_ediv_of_nonneg (by omega)
  rw [e]
  refine ⟨(Int.le_ediv_iff_mul_le (by omega)).2 ?_, ?_⟩
  · omega
  · have := Int.ediv_le_self n (a := 9223372036854775807) (by omega)
    exact this
end Go.Hk
