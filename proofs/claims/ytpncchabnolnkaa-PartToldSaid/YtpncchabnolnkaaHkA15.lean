/- Layer 2: sets by numbers. -/
import Derived.Test.YtpncchabnolnkaaHkA14
set_option linter.unusedSimpArgs false
set_option linter.unusedVariables false
namespace Go.Hk.A
open Go.Proofs
theorem ti5 : tiOf Try.prog 5 = some { size := 1, bytes := 1, zero := some (.int .u8 0), k := .int .u8 } := by kernel_rfl
theorem ti43 : tiOf Try.prog 43 = some { size := 1, bytes := 24, zero := some (.sl .full 0 []), k := .slice 56 } := by kernel_rfl
theorem ti56 : tiOf Try.prog 56 = some { size := 4, bytes := 4, zero := some (.agg [.int .u8 0, .int .u8 0, .int .u8 0, .int .u8 0]), k := .arr 4 5 } := by kernel_rfl
/-- Four bytes. -/
structure Quad where
  a : Nat
  b : Nat
  c : Nat
  d : Nat
def cQ (q : Quad) : List AVal := [.int .u8 (q.a : Nat), .int .u8 (q.b : Nat), .int .u8 (q.c : Nat), .int .u8 (q.d : Nat)]
theorem cQ_len (q : Quad) : (cQ q).length = 4 := rfl
theorem cQ_strip (q : Quad) : stripL (cQ q) = some (cQ q) := rfl
theorem cQ_0 (q : Quad) : (cQ q)[0]? = some (.int .u8 (q.a : Nat)) := nr rfl
theorem cQ_1 (q : Quad) : (cQ q)[1]? = some (.int .u8 (q.b : Nat)) := nr rfl
theorem cQ_2 (q : Quad) : (cQ q)[2]? = some (.int .u8 (q.c : Nat)) := nr rfl
theorem cQ_3 (q : Quad) : (cQ q)[3]? = some (.int .u8 (q.d : Nat)) := nr rfl
def quadOK (q : Quad) : Prop := q.a < 256 ∧ q.b < 256 ∧ q.c < 256 ∧ q.d < 256
def quadSet (q : Quad) : Nat := ofN (q.a : Nat) ((q.a : Int) + (q.b % 20 : Nat)) ||| ofN (q.c : Nat) ((q.c : Int) + (q.d % 20 : Nat))
theorem quadSet_def (q : Quad) : ofN (q.a : Nat) ((q.a : Int) + (q.b % 20 : Nat)) ||| ofN (q.c : Nat) ((q.c : Int) + (q.d % 20 : Nat)) = quadSet q := nr rfl
def runsQ (l : List Quad) : List Nat := (l.take 10).map quadSet
theorem quadSet_lt (q : Quad) : quadSet q < 2 ^ 256 := Nat.or_lt_two_pow (ofN_lt _ _) (ofN_lt _ _)
theorem conv_b {n : Nat} (h : n < 256) : aconv Try.prog 5 3 (.int .u8 (n : Int)) = some (.int .i64 (n : Int)) := by
  have hw : IntKind.i64.wrap (n : Int) = n := w_i64 (by omega)
  simp [aconv, ti5, ti3, hw]
theorem n_tmod20 (b : Nat) : ((b : Nat) : Int).tmod 20 = ((b % 20 : Nat) : Int) := by rw [Int.tmod_eq_emod_of_nonneg (by omega)]; omega
theorem appSets_T : appT Try.prog 41 41 = some ⟨24, 4, 32⟩ := by kernel_rfl
theorem appSets_one {H : List ABlk} {T : List (Nat × Nat)} {r r' : Rt} {l} {x} (hr : okR T r (l.length * 4) 4 = true) (hn : l.length + 1 < 1000000000) : aappend Try.prog 41 41 ⟨H, T⟩ (.sl r l.length (fl setL l)) (.sl r' 1 (setL x)) = some (.sl (nxR T r) (l ++ [x]).length (fl setL (l ++ [x])), ⟨H, nxT T r ((l ++ [x]).length * 4) 4⟩) := app_fl appSets_T (by decide) setL_len rfl hr hn
theorem appSets_all {H : List ABlk} {T : List (Nat × Nat)} {r r' : Rt} {l l'} (hr : okR T r (l.length * 4) 4 = true) (hn : l.length + l'.length < 1000000000) : aappend Try.prog 41 41 ⟨H, T⟩ (.sl r l.length (fl setL l)) (.sl r' l'.length (fl setL l')) = some (.sl (nxR T r) (l ++ l').length (fl setL (l ++ l')), ⟨H, nxT T r ((l ++ l').length * 4) 4⟩) := app_fls appSets_T (by decide) setL_len hr hn
theorem appSets_mk (mu : Bool) (m : AMem) {x} : abuildSlice Try.prog mu m 41 1 [(0, setV x)] = some (.sl .full 1 (setL x), m) := build_one ti41 ti24 rfl rfl (setL_len x) rfl (by decide) (by decide)
structure Gs where
  i : Nat
  r : Rt
  T : List (Nat × Nat)
theorem take_map {α β : Type} {f : α → β} {l : List α} {i : Nat} (h : i < l.length) : (l.take (i + 1)).map f = (l.take i).map f ++ [f l[i]] := by rw [List.take_succ_eq_append_getElem h, List.map_append]; rfl
theorem w34 (l : List Quad) (hl : l.length < 9223372036854775808) (hq : ∀ q ∈ l, quadOK q) : PCall Try.prog 34 [slc cQ l] (setsV (runsQ l)) := by
  refine PCall.of_w (fn := Try.f34) (Γ := gam [(17, .pure iOf), (19, .pure iOr)]) (mu := false) (Sound.pure (con2_call fun a b _ _ => w17 a b) (Sound.pure (con2_call fun A B h k => or_same h k ▸ w19 A B h k) Sound.nil)) mixed Try.func34 rfl (by kernel_rfl) (by simp) (by kernel_rfl) ?_
  simp (disch := first | assumption | omega | exact okR_new) only [go_sem, Nat.reduceAdd, Int.reduceEq, Int.reduceLT, Int.reduceLE, Int.reduceNe, Int.reduceAdd, Int.reduceSub, Int.reduceMul, Int.reduceToNat, Nat.reduceMul, Nat.reduceLT, Nat.reduceLeDiff, Nat.reduceEqDiff, ↓reduceIte, reduceCtorEq, Nat.reduceSub, Nat.reduceDiv, Try.f34, ti3, ti4, ti5, ti22, ti24, ti41, ti43, ti56, iOf_eq, iOr_eq]
  refine w_loopc [] [3, 4] (fun x : Gs => 10 - x.i) (fun x => x.i ≤ l.length ∧ x.i ≤ 10 ∧ okR x.T x.r (((l.take x.i).map quadSet).length * 4) 4 = true) (fun x => ⟨[], x.T⟩)
    (fun x => [(3, .sl x.r ((l.take x.i).map quadSet).length (setsL ((l.take x.i).map quadSet))), (4, .int .i64 (x.i : Nat))]) ⟨0, .full, []⟩ (fun _ => rfl) (by kernel_rfl) (by simp [okR]) ⟨[], [], rfl⟩ (by simp [HasE, lk, fl]) ?_ ?_
  · rintro ⟨i, r, T⟩ ⟨hi, hi10, hr⟩
    have := c_okR hr (Nat.le_refl _)
    simp (disch := assumption) [cloE, clo, cloL, cloB, c_Rno, c_Rfull, c_append, this, c_fl setL_strip, c_fl cQ_strip]
  rintro ⟨i, r, T⟩ ⟨hi, hi10, hr⟩
  simp only at hi hi10 hr
  by_cases h : i < l.length
  · by_cases h10 : i < 10
    · have hg : l[i]? = some l[i] := by simp [h]
      obtain ⟨q1, q2, q3, q4⟩ := hq l[i] (List.getElem_mem h)
      have hlen : ((l.take i).map quadSet).length + 1 < 1000000000 := by simp; omega
      have g0 := (fl_get0 cQ_len hg (by omega)).trans (cQ_0 _)
      have g1 := (fl_get (j := 1) cQ_len hg (by omega)).trans (cQ_1 _)
      have g2 := (fl_get (j := 2) cQ_len hg (by omega)).trans (cQ_2 _)
      have g3 := (fl_get (j := 3) cQ_len hg (by omega)).trans (cQ_3 _)
      have hfl := fl_len cQ_len l
      simp (disch := first | assumption | omega | exact okR_new | exact ofN_lt _ _) only [go_sem, Nat.reduceAdd, Int.reduceEq, Int.reduceLT, Int.reduceLE, Int.reduceNe, Int.reduceAdd, Int.reduceSub, Int.reduceMul, Int.reduceToNat, Nat.reduceMul, Nat.reduceLT, Nat.reduceLeDiff, Nat.reduceEqDiff, ↓reduceIte, reduceCtorEq, Nat.reduceSub, Nat.reduceDiv, Try.f34, ti3, ti4, ti5, ti22, ti24, ti41, ti43, ti56, iOf_eq, iOr_eq, conv_b, n_tmod20, g0, g1, g2, g3, quadSet_def, appSets_mk, appSets_one]
      exact ⟨⟨i + 1, nxR T r, _⟩, by show 10 - (i + 1) < 10 - i; omega, ⟨h, by show i + 1 ≤ 10; omega, by simp only [take_map h]; exact okR_app hr⟩, ⟨_, [], by simp; rfl⟩, by simp [HasE, lk, take_map h]⟩
    · have : i = 10 := by omega
      subst this
      simp (disch := first | assumption | omega | exact okR_new) only [go_sem, Nat.reduceAdd, Int.reduceEq, Int.reduceLT, Int.reduceLE, Int.reduceNe, Int.reduceAdd, Int.reduceSub, Int.reduceMul, Int.reduceToNat, Nat.reduceMul, Nat.reduceLT, Nat.reduceLeDiff, Nat.reduceEqDiff, ↓reduceIte, reduceCtorEq, Nat.reduceSub, Nat.reduceDiv, Try.f34, ti3, ti4, ti5, ti22, ti24, ti41, ti43, ti56, iOf_eq, iOr_eq, runsQ, setsL_strip]
  · have e : l.take i = l.take 10 := by rw [List.take_of_length_le (by omega), List.take_of_length_le (by omega)]
    simp (disch := first | assumption | omega | exact okR_new) only [go_sem, Nat.reduceAdd, Int.reduceEq, Int.reduceLT, Int.reduceLE, Int.reduceNe, Int.reduceAdd, Int.reduceSub, Int.reduceMul, Int.reduceToNat, Nat.reduceMul, Nat.reduceLT, Nat.reduceLeDiff, Nat.reduceEqDiff, ↓reduceIte, reduceCtorEq, Nat.reduceSub, Nat.reduceDiv, Try.f34, ti3, ti4, ti5, ti22, ti24, ti41, ti43, ti56, iOf_eq, iOr_eq, runsQ, e, setsL_strip]
end Go.Hk.A
