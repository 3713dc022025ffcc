/- Layer 2: refine. -/
import Derived.Test.YtpncchabnolnkaaHkA15
set_option linter.unusedSimpArgs false
set_option linter.unusedVariables false
namespace Go.Hk.A
open Go.Proofs
theorem ti61 : tiOf Try.prog 61 = some { size := 1, bytes := 8, zero := some (.nilm), k := .map 39 3 } := by kernel_rfl
def kV (p : Int × Int) : AVal := .agg [.int .i64 p.1, .int .i64 p.2]
def keyN (old : List Int) (A : Nat) (a : Nat) : Int × Int := (old[a]?.getD 0, if A.testBit a then 1 else 0)
def keyR (old : List Int) (A : Nat) (a b : Nat) : Bool := decide (keyN old A a = keyN old A b)
def refN (old : List Int) (A : Nat) : List Int := (cn (keyR old A) 256).1
def curN (old : List Int) (A : Nat) (b : Nat) : List Int := (cn (keyR old A) b).1 ++ old.drop b
theorem kV_key (a : Int × Int) : akey Try.prog 20 39 (kV a) = true := by
  have hr : List.range 2 = [0, 1] := rfl
  simp [akey, kV, ti39, ti3, hr, apart, TK.agg]
theorem kV_eq (a b : Int × Int) : aeq Try.prog 20 39 (kV a) (kV b) = some (decide (a = b)) := by
  have hr : List.range 2 = [0, 1] := rfl
  have h1 : ∀ x y : Int, aeq Try.prog 19 3 (.int .i64 x) (.int .i64 y) = some (x == y) := fun x y => by unfold aeq; simp only [ti3, if_true]
  have h2 : ∀ x y : Int, apart Try.prog 3 [.int .i64 x, .int .i64 y] 0 = some (.int .i64 x) := fun x y => by simp [apart, ti3, TK.agg]
  have h3 : ∀ x y : Int, apart Try.prog 3 [.int .i64 x, .int .i64 y] 1 = some (.int .i64 y) := fun x y => by simp [apart, ti3, TK.agg]
  obtain ⟨a, b'⟩ := a
  obtain ⟨c, d⟩ := b
  unfold aeq
  simp only [kV, ti39, ti3, hr, List.map_cons, List.map_nil, Nat.zero_mul, Nat.one_mul, h2, h3, h1, andL]
  by_cases h4 : a = c <;> by_cases h5 : b' = d <;> simp [h4, h5]
theorem kV_bits (a : Int × Int) : abits (kV a) (kV a) = true := by simp [kV, abits, abit1]
theorem kV_lookup {x0 x1 x2 : ABlk} {H : List ABlk} {T : List (Nat × Nat)} {es : List ((Int × Int) × Int)} {k : Int × Int} {ok : Bool} :
    alookup Try.prog 61 ⟨x0 :: x1 :: x2 :: .amap (ment kV (.int .i64) es) :: H, T⟩ (.map 3) (kV k) ok = some (mapR ok (.int .i64 0) ((mget es k).map (.int .i64))) :=
  alookup_ment ti61 rfl ti3 rfl kV_key kV_eq rfl
theorem kV_put {x0 x1 x2 : ABlk} {H : List ABlk} {T : List (Nat × Nat)} {es : List ((Int × Int) × Int)} {k : Int × Int} {v : Int} :
    amput Try.prog 61 ⟨x0 :: x1 :: x2 :: .amap (ment kV (.int .i64) es) :: H, T⟩ (.map 3) (kV k) (.int .i64 v) = some (.undef, ⟨x0 :: x1 :: x2 :: .amap (ment kV (.int .i64) (mput es k v)) :: H, T⟩) :=
  amput_ment ti61 rfl kV_key kV_eq kV_bits rfl
theorem kV_fold (a b : Int) : AVal.agg [.int .i64 a, .int .i64 b] = kV (a, b) := nr rfl
theorem kV_cells (p : Int × Int) : cellsOf (kV p) = some [.int .i64 p.1, .int .i64 p.2] := nr rfl
theorem curN_len {old : List Int} {A b : Nat} (ho : old.length = 256) (h : b ≤ 256) : (curN old A b).length = 256 := by
  simp [curN, cn_len, ho]; omega
theorem curN_get {old : List Int} {A b : Nat} (ho : old.length = 256) (h : b < 256) : (intL (curN old A b))[b]? = some (.int .i64 (old[b]?.getD 0)) := by
  have hl := cn_len (keyR old A) b
  have h2 : b < old.length := by omega
  simp only [intL, List.getElem?_map, curN]
  rw [List.getElem?_append_right (by omega), hl, Nat.sub_self, List.getElem?_drop]
  simp [h2]
theorem curN_put {old : List Int} {A b : Nat} {k : Int} (ho : old.length = 256) (h : b < 256) (hc : (cn (keyR old A) (b + 1)).1 = (cn (keyR old A) b).1 ++ [k]) : (intL (curN old A b)).set b (.int .i64 k) = intL (curN old A (b + 1)) := by
  have hl := cn_len (keyR old A) b
  have h2 : b < old.length := by omega
  simp only [intL, curN, hc]
  rw [List.drop_eq_getElem_cons h2]
  simp only [List.map_append, List.map_cons, List.map_nil]
  rw [List.set_append_right _ _ (by simp [hl]), List.length_map, hl, Nat.sub_self]
  simp
theorem w46 (old : List Int) (A B : Nat) (T : List (Nat × Nat)) (ho : old.length = 256) (hA : A < 2 ^ 256) :
    RCall Try.prog 46 [.msl 0 1 0 256 256, setV A] ⟨[.cells 1 (intL old), .cells 0 (setL B)], T⟩ .undef ⟨[.cells 1 (intL (refN old A)), .cells 0 (setL B)], T⟩ := by
  refine RCall.of_w (fn := Try.f46) (Γ := gam [(14, .pure iHas)]) (mu := false) (by simp) (by simp) (Sound.pure (con2_call fun A n _ _ => w14 A n) Sound.nil) mixed Try.func46 rfl (by kernel_rfl) (by simp) (by kernel_rfl) ?_
  simp (disch := first | assumption | omega | exact okR_new) only [go_sem, Nat.reduceAdd, Int.reduceEq, Int.reduceLT, Int.reduceLE, Int.reduceNe, Int.reduceAdd, Int.reduceSub, Int.reduceMul, Int.reduceToNat, Nat.reduceMul, Nat.reduceLT, Nat.reduceLeDiff, Nat.reduceEqDiff, ↓reduceIte, reduceCtorEq, Nat.reduceSub, Nat.reduceDiv, Try.f46, ti3, ti4, ti22, ti24, ti32, ti39, ti61, iHas_eq]
  refine w_loopc [] [13] (fun b : Nat => 256 - b) (fun b => b ≤ 256) (fun b => ⟨[.cells 1 (intL (curN old A b)), .cells 0 (setL B), .cells 0 (setL A), .amap (ment kV (.int .i64) (ents (keyN old A) (keyR old A) b))], T⟩)
    (fun b => [(13, .int .i64 (b : Nat))]) 0 (fun _ => rfl) (by kernel_rfl) (by simp) ⟨[], [], by simp [curN, cn, ents, ment]⟩ (by simp [HasE, lk]) ?_ ?_
  · intro b hb
    simp (disch := assumption) [cloE, clo, cloL, cloB, c_Rno, c_Rfull, c_append, c_setL, c_set, cloL_strip _ _ (intL_strip _), c_M, ment, kV]
  intro b hb
  by_cases h : b < 256
  · have hget := curN_get (A := A) ho h
    have hlen := curN_len (A := A) ho hb
    have hil := intL_len (curN old A b)
    have hk : ∀ a b, keyR old A a b = decide (keyN old A a = keyN old A b) := fun _ _ => rfl
    have hmg := ents_get hk b b
    have hel := ents_len (keyN old A) (keyR old A) b
    cases hf : firstR (keyR old A) b 0 b with
    | some a =>
      have hput := curN_put ho h (congrArg Prod.fst (cn_old hf))
      have hes : ents (keyN old A) (keyR old A) (b + 1) = ents (keyN old A) (keyR old A) b := by simp only [ents, hf]
      rw [hf, Option.map_some] at hmg
      cases hbit : A.testBit b <;> simp only [keyN, hbit, if_true, Bool.false_eq_true, if_false] at hmg <;>
      · simp (disch := first | assumption | omega | exact okR_new) only [go_sem, Nat.reduceAdd, Int.reduceEq, Int.reduceLT, Int.reduceLE, Int.reduceNe, Int.reduceAdd, Int.reduceSub, Int.reduceMul, Int.reduceToNat, Nat.reduceMul, Nat.reduceLT, Nat.reduceLeDiff, Nat.reduceEqDiff, ↓reduceIte, reduceCtorEq, Nat.reduceSub, Nat.reduceDiv, Try.f46, ti3, ti4, ti22, ti24, ti32, ti39, ti61, iHas_eq, hget, has_nat, hbit, kV_fold, kV_cells, kV_lookup, hmg, Option.map_some, mapR, afound, hput, ment_len]
        exact ⟨b + 1, by show 256 - (b + 1) < 256 - b; omega, h, ⟨_, [], by simp [hes]; rfl⟩, by simp [HasE, lk]⟩
    | none =>
      have hput := curN_put ho h (congrArg Prod.fst (cn_new hf))
      have hes : ents (keyN old A) (keyR old A) (b + 1) = ents (keyN old A) (keyR old A) b ++ [(keyN old A b, ((cn (keyR old A) b).2 : Int))] := by simp only [ents, hf]
      rw [hf, Option.map_none] at hmg
      have hnew := mput_new (v := ((cn (keyR old A) b).2 : Int)) hmg
      have hmg2 : mget (ents (keyN old A) (keyR old A) b ++ [(keyN old A b, ((cn (keyR old A) b).2 : Int))]) (keyN old A b) = some ((cn (keyR old A) b).2 : Int) := by
        rw [mget_append, hmg]; simp [mget]
      have hml : ((cn (keyR old A) b).2 : Int) < 257 := by have := cn_cnt (keyR old A) b; omega
      cases hbit : A.testBit b <;> simp only [keyN, hbit, if_true, Bool.false_eq_true, if_false] at hmg hnew hmg2 hes <;>
      · simp (disch := first | assumption | omega | exact okR_new) only [go_sem, Nat.reduceAdd, Int.reduceEq, Int.reduceLT, Int.reduceLE, Int.reduceNe, Int.reduceAdd, Int.reduceSub, Int.reduceMul, Int.reduceToNat, Nat.reduceMul, Nat.reduceLT, Nat.reduceLeDiff, Nat.reduceEqDiff, ↓reduceIte, reduceCtorEq, Nat.reduceSub, Nat.reduceDiv, Try.f46, ti3, ti4, ti22, ti24, ti32, ti39, ti61, iHas_eq, hget, has_nat, hbit, kV_fold, kV_cells, kV_lookup, kV_put, hmg, hnew, hmg2, Option.map_some, Option.map_none, mapR, afound, hput, ment_len, hel]
        exact ⟨b + 1, by show 256 - (b + 1) < 256 - b; omega, h, ⟨_, [], by simp [hes]; rfl⟩, by simp [HasE, lk]⟩
  · have : b = 256 := by omega
    subst this
    have hcur : curN old A 256 = refN old A := by simp [curN, refN, ho]
    rw [hcur]
    simp (disch := first | assumption | omega | exact okR_new) only [go_sem, Nat.reduceAdd, Int.reduceEq, Int.reduceLT, Int.reduceLE, Int.reduceNe, Int.reduceAdd, Int.reduceSub, Int.reduceMul, Int.reduceToNat, Nat.reduceMul, Nat.reduceLT, Nat.reduceLeDiff, Nat.reduceEqDiff, ↓reduceIte, reduceCtorEq, Nat.reduceSub, Nat.reduceDiv, Try.f46, ti3, ti4, ti22, ti24, ti32, ti39, ti61, iHas_eq]
    refine .inr ⟨⟨_, [], by simp; rfl⟩, ?_, rfl⟩
    simp (disch := assumption) [cloE, clo, cloL, cloB, c_Rno, c_Rfull, c_append, c_setL, cloL_strip _ _ (intL_strip _)]
end Go.Hk.A
