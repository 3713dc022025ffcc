/- Layer 1: what the statements' functions answer. -/
import Derived.Test.YtpncchabnolnkaaHkA4
set_option linter.unusedSimpArgs false
set_option linter.unusedVariables false
namespace Go.Hk.A
open Go.Proofs
theorem ti4 : tiOf Try.prog 4 = some { size := 1, bytes := 1, zero := some (.bool false), k := .bool } := by kernel_rfl
/-! what is known of all functions of the layer -/
theorem or_same {A B : Nat} (hA : A < 2 ^ 256) (hB : B < 2 ^ 256) : mk (fun i => A.testBit i || B.testBit i) 256 = A ||| B :=
  set_ext (mk_lt _ _) (Nat.or_lt_two_pow hA hB) fun i hi => by rw [mk_bit, Nat.testBit_or]; simp [hi]
theorem and_same {A B : Nat} (hA : A < 2 ^ 256) (hB : B < 2 ^ 256) : mk (fun i => A.testBit i && B.testBit i) 256 = A &&& B :=
  set_ext (mk_lt _ _) (Nat.and_lt_two_pow _ hB) fun i hi => by rw [mk_bit, Nat.testBit_and]; simp [hi]
def iOf : List AVal → Option AVal := con2 (eInt .i64) (eInt .i64) fun a b => setV (ofN a b)
def iOr : List AVal → Option AVal := con2 eSet eSet fun a b => setV (a ||| b)
def iAnd : List AVal → Option AVal := con2 eSet eSet fun a b => setV (a &&& b)
def iNot : List AVal → Option AVal := con1 eSet fun a => setV (notN a)
def iFold : List AVal → Option AVal := con1 eSet fun a => setV (foldN a)
def iRuns : List AVal → Option AVal := con1 eSet fun a => pairV (runsN a 256)
def iInts : List AVal → Option AVal := con2 eInts eInts fun a b => .bool (decide (a = b))
def decPairs : List AVal → Option (List (Int × Int))
  | [] => some []
  | .int .i64 a :: .int .i64 b :: l => (decPairs l).map ((a, b) :: ·)
  | _ => none
theorem decPairs_de : ∀ l : List (Int × Int), decPairs (pairL l) = some l
  | [] => rfl
  | p :: l => by simp [pairL, decPairs, decPairs_de l]
theorem decPairs_ed : ∀ (cs : List AVal) (l : List (Int × Int)), decPairs cs = some l → cs = pairL l
  | [], l, h => by simp only [decPairs, Option.some.injEq] at h; subst h; rfl
  | .int .i64 a :: .int .i64 b :: cs, l, h => by
    simp only [decPairs, Option.map_eq_some_iff] at h
    obtain ⟨r, hr, rfl⟩ := h
    simp [pairL, decPairs_ed cs r hr]
def ePairs : Enc (List (Int × Int)) where
  enc := pairV
  dec v := match v with
    | .sl .no n cs => (decPairs cs).bind fun l => if n = l.length ∧ n < 1000000000 then some l else none
    | _ => none
  ok l := l.length < 1000000000
  de l h := by simp [pairV, decPairs_de, h]
  ed v l h := by
    split at h
    · rename_i n cs
      simp only [Option.bind_eq_some_iff] at h
      obtain ⟨r, hr, h⟩ := h
      split at h
      · rename_i hc
        cases h
        obtain ⟨rfl, h2⟩ := hc
        exact ⟨by rw [decPairs_ed cs l hr]; rfl, h2⟩
      · cases h
    · cases h
def iEq : List AVal → Option AVal := con2 ePairs ePairs fun a b => .bool (decide (a = b))
theorem iOf_eq {a b : Int} : iOf [.int .i64 a, .int .i64 b] = some (setV (ofN a b)) := con2_eq (E := eInt .i64) (F := eInt .i64) trivial trivial
theorem iOr_eq {A B : Nat} (h : A < 2 ^ 256) (k : B < 2 ^ 256) : iOr [setV A, setV B] = some (setV (A ||| B)) := con2_eq (E := eSet) (F := eSet) h k
theorem iAnd_eq {A B : Nat} (h : A < 2 ^ 256) (k : B < 2 ^ 256) : iAnd [setV A, setV B] = some (setV (A &&& B)) := con2_eq (E := eSet) (F := eSet) h k
theorem iNot_eq {A : Nat} (h : A < 2 ^ 256) : iNot [setV A] = some (setV (notN A)) := con1_eq (E := eSet) h
theorem iFold_eq {A : Nat} (h : A < 2 ^ 256) : iFold [setV A] = some (setV (foldN A)) := con1_eq (E := eSet) h
theorem iRuns_eq {A : Nat} (h : A < 2 ^ 256) : iRuns [setV A] = some (pairV (runsN A 256)) := con1_eq (E := eSet) h
theorem iInts_eq {a b : List Int} (h : a.length < 1000000000) (k : b.length < 1000000000) : iInts [intV a, intV b] = some (.bool (decide (a = b))) := con2_eq (E := eInts) (F := eInts) ⟨h, fun _ _ => trivial⟩ ⟨k, fun _ _ => trivial⟩
theorem iEq_eq {a b : List (Int × Int)} (h : a.length < 1000000000) (k : b.length < 1000000000) : iEq [pairV a, pairV b] = some (.bool (decide (a = b))) := con2_eq (E := ePairs) (F := ePairs) h k
def gL0 : List (FuncId × Con) := [(14, .pure iHas), (15, .pure iHas), (16, .pure iOf), (17, .pure iOf), (18, .pure iOr), (19, .pure iOr), (20, .pure iAnd), (21, .pure iAnd), (22, .pure iNot), (23, .pure iNot),
  (24, .pure iFold), (25, .pure iFold), (26, .pure iInts), (27, .pure iList), (28, .pure iList), (29, .pure iEq), (30, .pure iRuns), (31, .pure iRuns)]
theorem sL0 : Sound Try.prog (gam gL0) :=
  Sound.pure (con2_call fun A n _ _ => w14 A n) <| Sound.pure (con2_call fun A n _ _ => w15 A n) <| Sound.pure (con2_call fun a b _ _ => w16 a b) <| Sound.pure (con2_call fun a b _ _ => w17 a b) <|
  Sound.pure (con2_call fun A B h k => w18 A B _ (each_or h k)) <| Sound.pure (con2_call fun A B h k => or_same h k ▸ w19 A B h k) <| Sound.pure (con2_call fun A B h k => w20 A B _ (each_and h k)) <| Sound.pure (con2_call fun A B h k => and_same h k ▸ w21 A B h k) <|
  Sound.pure (con1_call fun A h => w22 A _ (each_not h h)) <| Sound.pure (con1_call fun A h => w23 A h) <| Sound.pure (con1_call fun A h => w24 A h) <| Sound.pure (con1_call fun A h => w25 A h) <|
  Sound.pure (con2_call fun a b h k => w26 a b h.1 k.1) <| Sound.pure (con1_call fun A h => w27 A h) <| Sound.pure (con1_call fun A h => w28 A h) <| Sound.pure (con2_call fun a b h k => w29 a b h k) <|
  Sound.pure (con1_call fun A h => w30 A h) <| Sound.pure (con1_call fun A h => w31 A h) <| Sound.nil
theorem setL_take (A : Nat) : List.take 4 (setL A) = setL A := nr rfl
theorem set_eql {A B : Nat} (h : A < 2 ^ 256) (k : B < 2 ^ 256) : abin Try.prog .eql 24 (setV A) (setV B) = some (.bool (decide (A = B))) := by
  have hg : Try.prog.eqGuardType Try.prog.depth 24 = false := by kernel_rfl
  have hr : List.range 4 = [0, 1, 2, 3] := rfl
  have h1 : ∀ x y : Int, aeq Try.prog 19 22 (.int .u64 x) (.int .u64 y) = some (x == y) := fun x y => by unfold aeq; simp only [ti22, if_true]
  have h2 : ∀ (A k : Nat), k < 4 → apart Try.prog 22 (setL A) k = some (.int .u64 (wd A k)) := fun A k hk => by simp [apart, ti22, TK.agg, setL_get hk]
  unfold setV
  rw [e_bin_agg, hg]
  unfold aeq
  simp only [Bool.false_eq_true, if_false, ti24, ti22, hr, List.map_cons, List.map_nil, Nat.mul_one, h2 _ 0 (by omega), h2 _ 1 (by omega), h2 _ 2 (by omega), h2 _ 3 (by omega), h1, andL, aEqOp]
  by_cases hAB : A = B
  · subst hAB; simp
  · have : ¬ (wd A 0 = wd B 0 ∧ wd A 1 = wd B 1 ∧ wd A 2 = wd B 2 ∧ wd A 3 = wd B 3) := fun hw => hAB (setL_inj h k fun i hi => by
      match i, hi with
      | 0, _ => exact hw.1
      | 1, _ => exact hw.2.1
      | 2, _ => exact hw.2.2.1
      | 3, _ => exact hw.2.2.2)
    have hne : ∀ a b : Nat, (((a : Int)) == (b : Int)) = decide (a = b) := fun a b => by
      by_cases hh : a = b
      · subst hh; simp
      · have h5 : ¬ (a : Int) = b := by omega
        simp [hh, h5]
    simp only [hne]
    by_cases e0 : wd A 0 = wd B 0 <;> by_cases e1 : wd A 1 = wd B 1 <;> by_cases e2 : wd A 2 = wd B 2 <;> by_cases e3 : wd A 3 = wd B 3 <;> simp [e0, e1, e2, e3, hAB]
    exact this ⟨e0, e1, e2, e3⟩
theorem bool_eql (a b : Bool) : abin Try.prog .eql 4 (.bool a) (.bool b) = some (.bool (a == b)) := by
  rw [e_bin_bool]; unfold aeq; simp only [ti4, aEqOp]; rfl
theorem build24 : abuild Try.prog 24 [] = some (setV 0) := by
  simp only [abuild, ti24, afill, Option.bind_some, cellsOf]; rfl
theorem pair_eql (a b c d : Int) : abin Try.prog .eql 39 (.agg [.int .i64 a, .int .i64 b]) (.agg [.int .i64 c, .int .i64 d]) = some (.bool (decide ((a, b) = (c, d)))) := by
  have hr : List.range 2 = [0, 1] := rfl
  have h1 : ∀ x y : Int, aeq Try.prog 19 3 (.int .i64 x) (.int .i64 y) = some (x == y) := fun x y => by unfold aeq; simp only [ti3, if_true]
  have h2 : ∀ x y : Int, apart Try.prog 3 [.int .i64 x, .int .i64 y] 0 = some (.int .i64 x) := fun x y => by simp [apart, ti3, TK.agg]
  have h3 : ∀ x y : Int, apart Try.prog 3 [.int .i64 x, .int .i64 y] 1 = some (.int .i64 y) := fun x y => by simp [apart, ti3, TK.agg]
  rw [e_bin_agg, guard39]
  unfold aeq
  simp only [Bool.false_eq_true, if_false, ti39, ti3, hr, List.map_cons, List.map_nil, Nat.zero_mul, Nat.one_mul, h2, h3, h1, andL]
  by_cases h4 : a = c <;> by_cases h5 : b = d <;> simp [h4, h5, aEqOp]

/-! what any right program answers -/
theorem k1 : ofN 97 99 = 1109194275199700726309615304704 := by decide +kernel
theorem k2 : ofN 120 120 = 1329227995784915872903807060280344576 := by decide +kernel
theorem k3 : 1109194275199700726309615304704 ||| 1329227995784915872903807060280344576 = 1329229104979191072604533369895649280 := by decide +kernel
theorem k4 : runsN 1329229104979191072604533369895649280 256 = [(97, 99), (120, 120)] := by decide +kernel
theorem k5 : ofN 97 97 = 158456325028528675187087900672 := by decide +kernel
theorem k6 : foldN 158456325028528675187087900672 = 158456325065422163334507003904 := by decide +kernel
theorem k7 : lst 158456325065422163334507003904 256 = [65, 97] := by decide +kernel
theorem k8 : has 1329229104979191072604533369895649280 98 = true := by decide +kernel
theorem k9 : has 1329229104979191072604533369895649280 100 = false := by decide +kernel
theorem k10 : has 1329229104979191072604533369895649280 (-1) = false := by decide +kernel
theorem k11 : ofN 0 255 = 115792089237316195423570985008687907853269984665640564039457584007913129639935 := by decide +kernel
theorem k12 : notN 115792089237316195423570985008687907853269984665640564039457584007913129639935 = 0 := by decide +kernel
theorem k13 : ofN 99 130 = 2722258934733682407592882158705794088960 := by decide +kernel
theorem k14 : 1329229104979191072604533369895649280 &&& 2722258934733682407592882158705794088960 = 1329228629610215987018507808631947264 := by decide +kernel
theorem k15 : ofN 99 99 = 633825300114114700748351602688 := by decide +kernel
theorem k16 : 633825300114114700748351602688 ||| 1329227995784915872903807060280344576 = 1329228629610215987018507808631947264 := by decide +kernel
theorem w13 : PCall Try.prog 13 [] (.bool true) := by
  refine PCall.of_w (fn := Try.f13) (Γ := gam gL0) (mu := false) sL0 mixed Try.func13 rfl (by kernel_rfl) (by simp) (by kernel_rfl) ?_
  simp (disch := first | assumption | omega | decide) only [go_sem, Nat.reduceAdd, Int.reduceEq, Int.reduceLT, Int.reduceLE, Int.reduceNe, Int.reduceAdd, Int.reduceSub, Int.reduceMul, Int.reduceToNat, Nat.reduceMul, Nat.reduceLT, Nat.reduceLeDiff, Nat.reduceEqDiff, ↓reduceIte, reduceCtorEq, Nat.reduceSub, Nat.reduceDiv, Try.f13, gL0, ti3, ti22, ti24, ti32, ti35, ti39, iOf_eq, iOr_eq, iAnd_eq, iNot_eq, iFold_eq, iRuns_eq, iList_eq, iHas_eq, k1, k2, k3, k4, k5, k6, k7, k8, k9, k10, k11, k12, k13, k14, k15, k16, pairV, intV, pairL, intL, build24, build39, pair_eql, set_eql, List.take_succ_cons, List.take_zero, List.drop_zero, List.drop_succ_cons, setL_take]
end Go.Hk.A

