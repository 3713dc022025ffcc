import Derived.Test.YtdimacffjdpkfaaGreatHkQ18
import Derived.Test.YtdimacffjdpkfaaGreatHkQ22
import Derived.Test.YtdimacffjdpkfaaGreatHkQ21
set_option linter.unusedSimpArgs false
set_option linter.unusedVariables false
namespace Go.Hk
def gamv (x : List (Nat × OT)) (n : Nat) (l : List (FuncId × Con)) : Gam := ⟨gamF l, fun i => (x.find? (·.1 == i)).map (·.2), fun _ => false, false, fun _ _ _ => none, n⟩
theorem Sound.v {P : Program} {x : List (Nat × OT)} {n : Nat} {l : List (FuncId × Con)} (h : Sound P (gam l)) : Sound P (gamv x n l) := ⟨h.fn, fun _ _ _ _ _ h => by cases h⟩
theorem e_gamv {x : List (Nat × OT)} {n : Nat} {l : List (FuncId × Con)} {f : FuncId} : (gamv x n l).con f = (gam l).con f := rfl
theorem e_gamv_dy {x : List (Nat × OT)} {n : Nat} {l : List (FuncId × Con)} : (gamv x n l).dy = false := rfl
section
variable {P : Program} {mu : Bool} {n hk tk : Nat} {Q : Exit → St → Prop} {e : List (Nat × AVal)} {m : AMem} {l : List Oper}
theorem e_w_regionv {k : Nat} {t : OT} {L : List (FuncId × Con)} {id : Nat} {d : Bool} (h : ¬ id = k) : W P (gamv [(k, t)] n L) mu hk tk (.region id l.toArray d) Q ⟨e, m⟩ = regW (opsO P (gamv [(k, t)] n L) mu (prep l l) (some ⟨e, m⟩)) Q := e_w_region0 (by
  have : (k == id) = false := beq_eq_false_iff_ne.2 fun h' => h h'.symm
  simp only [gamv, List.find?, this]; rfl) rfl
theorem w_region_2v {x : List (Nat × OT)} {L : List (FuncId × Con)} {id : Nat} {d : Bool} {t : OT} {l1 l2 : List Oper} (h : (gamv x n L).ex id = some t) (ho : (orders t).map (pickO' l.toArray) = [some l1, some l2])
    (h1 : regW (opsO P (gamv x n L) mu (prep l l1) (some ⟨e, m⟩)) Q) (h2 : regW (opsO P (gamv x n L) mu (prep l l2) (some ⟨e, m⟩)) Q) : W P (gamv x n L) mu hk tk (.region id l.toArray d) Q ⟨e, m⟩ := by
  rw [W_eq]
  have hn : (gamv x n L).nx id = false := rfl
  simp only [W0, h, hn, Bool.false_eq_true, if_false]
  refine otW_orders t _ fun p hp => ?_
  have hm : pickO' l.toArray p ∈ [some l1, some l2] := by rw [← ho]; exact List.mem_map.2 ⟨p, hp, rfl⟩
  simp only [List.mem_cons, List.not_mem_nil, or_false] at hm
  rcases hm with hm | hm
  · rw [← aops_opsO] at h1
    cases hs : aops P (gamv x n L) mu l.toArray l1 ⟨e, m⟩ with
    | none => rw [hs] at h1; exact h1.elim
    | some s' => rw [hs] at h1; exact ⟨l1, s', hm, hs, h1⟩
  · rw [← aops_opsO] at h2
    cases hs : aops P (gamv x n L) mu l.toArray l2 ⟨e, m⟩ with
    | none => rw [hs] at h2; exact h2.elim
    | some s' => rw [hs] at h2; exact ⟨l2, s', hm, hs, h2⟩
end
attribute [go_sem] e_gamv e_gamv_dy e_w_regionv
def cN (l : List Nat) : List AVal := fl cI (l.map fun j : Nat => (j : Int))
theorem cN_get {l : List Nat} {i v : Nat} (h : l[i]? = some v) : (cN l)[i]? = some (.int .i64 (v : Nat)) := fl_cI_get (by rw [List.getElem?_map, h]; rfl)
theorem slc_N {l : List Int} {k : List Nat} (h : l = k.map fun j : Nat => (j : Int)) : slc cI l = .sl .no k.length (cN k) := by subst h; simp [slc, cN]
theorem l_s_cN {l : List Nat} : stripL (cN l) = some (cN l) := fl_strip cI_strip _
theorem l_n_cN {l : List Nat} : (cN l).length = l.length := by unfold cN; rw [fl_len cI_len]; simp
attribute [go_sem] l_s_cN l_n_cN
theorem find_rev_at {p : Nat → Bool} {l : List Nat} {i v : Nat} (h : l[i]? = some v) (hq : ∀ y ∈ l.drop (i + 1), p y = false) (hp : p v = true) : l.reverse.find? p = some v := by
  have e : l = l.take i ++ (v :: l.drop (i + 1)) := by
    obtain ⟨hi, rfl⟩ := List.getElem?_eq_some_iff.1 h
    rw [← List.drop_eq_getElem_cons hi, List.take_append_drop]
  generalize l.drop (i + 1) = d at *
  generalize l.take i = c at *
  subst e
  rw [ List.reverse_append, List.reverse_cons, List.append_assoc, List.find?_append]
  have : d.reverse.find? p = none := List.find?_eq_none.2 fun y hy => by rw [hq y (List.mem_reverse.1 hy)]; simp
  rw [this]
  simp [hp]
theorem find_rev_none {p : Nat → Bool} {l : List Nat} (hq : ∀ y ∈ l, p y = false) : l.reverse.find? p = none := List.find?_eq_none.2 fun y hy => by rw [hq y (List.mem_reverse.1 hy)]; simp
theorem drop_step {p : Nat → Bool} {l : List Nat} {i v : Nat} (h : l[i]? = some v) (hq : ∀ y ∈ l.drop (i + 1), p y = false) (hp : p v = false) : ∀ y ∈ l.drop i, p y = false := by
  obtain ⟨hi, rfl⟩ := List.getElem?_eq_some_iff.1 h
  rw [List.drop_eq_getElem_cons hi]
  intro y hy
  rcases List.mem_cons.1 hy with rfl | hy
  · exact hp
  · exact hq y hy
end Go.Hk
namespace Go.Hk
def tokV (t : Tok) : AVal := .agg (cTok t)
theorem cTok_len (t : Tok) : (cTok t).length = 4 := rfl
theorem cTok_strip (t : Tok) : stripL (cTok t) = some (cTok t) := rfl
theorem l_s_cTok {l : List Tok} : stripL (fl cTok l) = some (fl cTok l) := fl_strip cTok_strip l
theorem l_n_cTok {l : List Tok} : (fl cTok l).length = l.length * 4 := fl_len cTok_len l
theorem c_flTok {h t : Nat} {l : List Tok} : cloL h t (fl cTok l) = true := cloL_strip _ _ l_s_cTok
attribute [go_sem] l_s_cTok l_n_cTok c_flTok
def cRes (l : List Tok) (j : Int) : List AVal := [.sl .no l.length (fl cTok l), .int .i64 j]
def resV (l : List Tok) (j : Int) : AVal := .agg (cRes l j)
noncomputable def toksQ (s : Sp) (w : List UInt8) : (List Tok × Int) × Int := if w.length ≤ 10000 ∧ rightS s = true then (toksP s w (w.length + 1) 0 0, 0) else (([], 0), 1)
end Go.Hk
namespace Go.Hk
def azX : Rx := .mk 2 (ofN 97 122) 0 0 []
theorem azX_ok : okX azX := .mk (by omega) (ofN_lt _ _) (by omega) (by omega) (by simp) (fun y hy => by cases hy)
def mR0 : Ru := ⟨[], false, false, stK, noX, false, 1, 0⟩
def mR1 : Ru := ⟨[], false, false, chX 97, chX 98, false, 2, 0⟩
def mR2 : Ru := ⟨[], false, false, azX, noX, false, 1, 0⟩
def mS : Sp := ⟨[⟨initial, false⟩], false, [mR0, mR1, mR2]⟩
theorem mR0_ok : okRu mR0 := ⟨by simp [mR0], stK_ok, noX_ok⟩
theorem mR1_ok : okRu mR1 := ⟨by simp [mR1], chX_ok _, chX_ok _⟩
theorem mR2_ok : okRu mR2 := ⟨by simp [mR2], azX_ok, noX_ok⟩
theorem mS_ok : okSp mS := ⟨by simp [mS], by simp [mS], by simp [mS, initial], by simp [mS, mR0_ok, mR1_ok, mR2_ok]⟩
theorem mS_right : rightS mS = true := by decide +kernel
theorem R_az {t : List UInt8} {i j : Nat} : R t azX i j ↔ i < t.length ∧ (97 ≤ (t.getD i 0).toNat ∧ (t.getD i 0).toNat ≤ 122) ∧ j = i + 1 := by
  have hc := (t.getD i 0).toNat_lt
  rw [R_k2 (x := azX) rfl]
  have e : azX.s = ofN 97 122 := by simp only [azX, Rx.s]
  rw [e]
  have : (ofN 97 122).testBit (t.getD i 0).toNat = decide (97 ≤ (t.getD i 0).toNat ∧ (t.getD i 0).toNat ≤ 122) := by
    unfold ofN
    rw [mk_bit]
    simp only [inOf]
    rw [Bool.eq_iff_iff]
    simp only [Bool.and_eq_true, decide_eq_true_eq]
    omega
  rw [this, decide_eq_true_eq]
theorem endsN_eq {x : Rx} {s : List UInt8} {i : Nat} (A : List Nat) (hr : rightT x = true) (hl : s.length ≤ 10000) (hi : i ≤ s.length) (h : ∀ j, R s x i j ↔ j ∈ A) (hA : ((List.range (s.length + 1)).filter fun j => decide (j ∈ A)) = A) : endsN x s i = A := by
  unfold endsN
  rw [if_pos ⟨hr, hl, hi⟩, cset_of (A := A) fun j _ => h j, hA]
theorem stK_right : rightT stK = true := by decide +kernel
theorem ch97_right : rightT (chX 97) = true := by decide +kernel
theorem ch98_right : rightT (chX 98) = true := by decide +kernel
theorem azX_right : rightT azX = true := by decide +kernel
theorem en_stK {s : List UInt8} {i : Nat} (A : List Nat) (hl : s.length ≤ 10000) (hi : i ≤ s.length) (h : A = if i + 1 < s.length ∧ (s.getD i 0).toNat = 97 ∧ (s.getD (i + 1) 0).toNat = 98 then [i + 2] else []) (hA : ((List.range (s.length + 1)).filter fun j => decide (j ∈ A)) = A) : endsN stK s i = A :=
  endsN_eq A stK_right hl hi (fun j => by rw [R_stK, h]; split <;> simp <;> grind) hA
theorem en_ch {b : Nat} {s : List UInt8} {i : Nat} (A : List Nat) (hb : b < 256) (hr : rightT (chX (b : Int)) = true) (hl : s.length ≤ 10000) (hi : i ≤ s.length) (h : A = if i < s.length ∧ (s.getD i 0).toNat = b then [i + 1] else []) (hA : ((List.range (s.length + 1)).filter fun j => decide (j ∈ A)) = A) : endsN (chX (b : Int)) s i = A :=
  endsN_eq A hr hl hi (fun j => by rw [R_chX hb, h]; split <;> simp <;> grind) hA
theorem en_az {s : List UInt8} {i : Nat} (A : List Nat) (hl : s.length ≤ 10000) (hi : i ≤ s.length) (h : A = if i < s.length ∧ 97 ≤ (s.getD i 0).toNat ∧ (s.getD i 0).toNat ≤ 122 then [i + 1] else []) (hA : ((List.range (s.length + 1)).filter fun j => decide (j ∈ A)) = A) : endsN azX s i = A :=
  endsN_eq A azX_right hl hi (fun j => by rw [R_az, h]; split <;> simp <;> grind) hA
theorem lg_a {r : Ru} {s : List UInt8} {A : List Nat} (hk : r.trail.k = 0) (e : endsN r.rx s 0 = A) : longP r s = A.getLastD 0 := by
  unfold longP
  rw [e, ← foldl_last]
  congr 1
  funext m h
  simp [longStep, hk]
theorem lg_b {r : Ru} {s : List UInt8} {h : Nat} {A : List Nat} (hk : r.trail.k ≠ 0) (e : endsN r.rx s 0 = [h + 1]) (e2 : endsN r.trail s (h + 1) = A) : longP r s = A.getLastD 0 := by
  unfold longP
  rw [e]
  simp only [List.foldl_cons, List.foldl_nil, longStep, if_neg hk, e2]
  cases A <;> simp
theorem lg_c {r : Ru} {s : List UInt8} (e : endsN r.rx s 0 = []) : longP r s = 0 := by
  unfold longP
  rw [e]; rfl
theorem lga0 : longP mR0 [97, 98, 99, 45] = 2 := lg_a (A := [2]) (by decide) (en_stK [2] (by decide) (by decide) (by decide) (by decide))
theorem lga1 : longP mR1 [97, 98, 99, 45] = 2 := lg_b (h := 0) (A := [2]) (by decide) (en_ch (b := 97) [1] (by decide) ch97_right (by decide) (by decide) (by decide) (by decide)) (en_ch (b := 98) [2] (by decide) ch98_right (by decide) (by decide) (by decide) (by decide))
theorem lga2 : longP mR2 [97, 98, 99, 45] = 1 := lg_a (A := [1]) (by decide) (en_az [1] (by decide) (by decide) (by decide) (by decide))
theorem lgc0 : longP mR0 [99, 45] = 0 := lg_a (A := []) (by decide) (en_stK [] (by decide) (by decide) (by decide) (by decide))
theorem lgc1 : longP mR1 [99, 45] = 0 := lg_c (en_ch (b := 97) [] (by decide) ch97_right (by decide) (by decide) (by decide) (by decide))
theorem lgc2 : longP mR2 [99, 45] = 1 := lg_a (A := [1]) (by decide) (en_az [1] (by decide) (by decide) (by decide) (by decide))
theorem lgm0 : longP mR0 [45] = 0 := lg_a (A := []) (by decide) (en_stK [] (by decide) (by decide) (by decide) (by decide))
theorem lgm1 : longP mR1 [45] = 0 := lg_c (en_ch (b := 97) [] (by decide) ch97_right (by decide) (by decide) (by decide) (by decide))
theorem lgm2 : longP mR2 [45] = 0 := lg_a (A := []) (by decide) (en_az [] (by decide) (by decide) (by decide) (by decide))
theorem lgb0 : longP mR0 [97, 98] = 2 := lg_a (A := [2]) (by decide) (en_stK [2] (by decide) (by decide) (by decide) (by decide))
theorem lgb1 : longP mR1 [97, 98] = 2 := lg_b (h := 0) (A := [2]) (by decide) (en_ch (b := 97) [1] (by decide) ch97_right (by decide) (by decide) (by decide) (by decide)) (en_ch (b := 98) [2] (by decide) ch98_right (by decide) (by decide) (by decide) (by decide))
theorem lgb2 : longP mR2 [97, 98] = 1 := lg_a (A := [1]) (by decide) (en_az [1] (by decide) (by decide) (by decide) (by decide))
theorem act0 : activeS mS 0 0 = true := by decide +kernel
theorem act1 : activeS mS 1 0 = true := by decide +kernel
theorem act2 : activeS mS 2 0 = true := by decide +kernel
theorem pick3 {w : List UInt8} {a n0 n1 n2 : Nat} (h0 : longP mR0 (w.drop a) = n0) (h1 : longP mR1 (w.drop a) = n1) (h2 : longP mR2 (w.drop a) = n2) : pickP mS w a 0 =
    (let p0 : Int × Nat := if 0 < n0 then (0, n0) else (-1, 0); let p1 : Int × Nat := if p0.2 < n1 then (1, n1) else p0; if p1.2 < n2 then (2, n2) else p1) := by
  have m0 : mayB mS w a 0 0 mR0 = true := by unfold mayB; rw [show ((0 : Nat) : Int) = 0 from rfl, act0]; simp [mR0]
  have m1 : mayB mS w a 0 1 mR1 = true := by unfold mayB; rw [show ((1 : Nat) : Int) = 1 from rfl, act1]; simp [mR1]
  have m2 : mayB mS w a 0 2 mR2 = true := by unfold mayB; rw [show ((2 : Nat) : Int) = 2 from rfl, act2]; simp [mR2]
  have e : pickP mS w a 0 = pickStep mS w a 0 (pickStep mS w a 0 (pickStep mS w a 0 (-1, 0) 0 mR0) 1 mR1) 2 mR2 := rfl
  rw [e]
  simp only [pickStep, m0, m1, m2, h0, h1, h2, true_and]
  rfl
theorem pk_a : pickP mS [97, 98, 99, 45] 0 0 = (0, 2) := pick3 (w := [97, 98, 99, 45]) (a := 0) lga0 lga1 lga2
theorem pk_c : pickP mS [97, 98, 99, 45] 2 0 = (2, 1) := pick3 (w := [97, 98, 99, 45]) (a := 2) lgc0 lgc1 lgc2
theorem pk_m : pickP mS [97, 98, 99, 45] 3 0 = (-1, 0) := pick3 (w := [97, 98, 99, 45]) (a := 3) lgm0 lgm1 lgm2
theorem pk_b : pickP mS [97, 98] 0 0 = (0, 2) := pick3 (w := [97, 98]) (a := 0) lgb0 lgb1 lgb2
theorem hd_0 : headP mR0 [97, 98] = 2 := by
  have e : endsN mR0.rx [97, 98] 0 = [2] := en_stK [2] (by decide) (by decide) (by decide) (by decide)
  unfold headP
  rw [if_pos (by decide), e]; rfl
theorem hd_2 : headP mR2 [99] = 1 := by
  have e : endsN mR2.rx [99] 0 = [1] := en_az [1] (by decide) (by decide) (by decide) (by decide)
  unfold headP
  rw [if_pos (by decide), e]; rfl
theorem hd_1 : headP mR1 [97, 98] = 1 := by
  have e : endsN mR1.rx [97, 98] 0 = [1] := en_ch (b := 97) [1] (by decide) ch97_right (by decide) (by decide) (by decide) (by decide)
  have e2 : endsN mR1.trail [97, 98] 1 = [2] := en_ch (b := 98) [2] (by decide) ch98_right (by decide) (by decide) (by decide) (by decide)
  unfold headP
  rw [if_neg (by decide), e]
  simp [e2]
theorem nx_a : nextT mS [97, 98, 99, 45] 0 0 = some (⟨0, 0, 2, 0⟩, 2, 0) := by
  have hg : mS.rules[0]? = some mR0 := rfl
  have h0 : headP mR0 (List.take 2 (List.drop 0 [97, 98, 99, 45])) = 2 := hd_0
  unfold nextT
  rw [pk_a]
  simp only [show (0 : Int).toNat = 0 from rfl, hg, h0]
  rfl
theorem nx_c : nextT mS [97, 98, 99, 45] 2 0 = some (⟨2, 2, 3, 0⟩, 3, 0) := by
  have hg : mS.rules[2]? = some mR2 := rfl
  have h0 : headP mR2 (List.take 1 (List.drop 2 [97, 98, 99, 45])) = 1 := hd_2
  unfold nextT
  rw [pk_c]
  simp only [show (2 : Int).toNat = 2 from rfl, hg, h0]
  rfl
theorem nx_m : nextT mS [97, 98, 99, 45] 3 0 = none := by
  unfold nextT
  rw [pk_m]
  rfl
theorem toks_a : toksQ mS [97, 98, 99, 45] = (([⟨0, 0, 2, 0⟩, ⟨2, 2, 3, 0⟩], 3), 0) := by
  unfold toksQ
  rw [if_pos ⟨by decide, mS_right⟩]
  have e : ([97, 98, 99, 45] : List UInt8).length = 4 := rfl
  simp only [e, toksP, nx_a, nx_c, nx_m, show (0 : Nat) < 4 from by decide, show 2 < 4 from by decide, show 3 < 4 from by decide, if_true]
  rfl
theorem toks_n : toksQ noS [] = (([], 0), 1) := by
  unfold toksQ
  rw [if_neg (fun h => by have := h.2; rw [noS_right] at this; cases this)]
end Go.Hk
namespace Go.Hk
structure InQ (s : Sp) (w : List UInt8) (L : List Tok) (J : Int) : Prop where
  ok : okSp s
  ri : rightS s = true
  wl : w.length ≤ 12
  ll : L.length ≤ 13
  c0 : (0 : Int) < s.conds.length
  run : Run s w 0 0 L J
  q : toksQ s w = ((L, J), 0)
theorem right_c0 {s : Sp} (h : rightS s = true) : (0 : Int) < s.conds.length := by
  simp only [rightS, Bool.and_eq_true, decide_eq_true_eq] at h
  omega
theorem inQ {s : Sp} {w : List UInt8} (ok : okSp s) (ri : rightS s = true) (wl : w.length ≤ 12) : ∃ L J, InQ s w L J := by
  have hr := toks_run (s := s) (w := w) ri (by omega) (w.length + 1) 0 0 (Nat.zero_le _) (by omega)
  have hl := toks_len ri (by omega) hr
  refine ⟨(toksP s w (w.length + 1) 0 0).1, (toksP s w (w.length + 1) 0 0).2, ok, ri, wl, by omega, right_c0 ri, hr, ?_⟩
  unfold toksQ
  rw [if_pos ⟨by omega, ri⟩]
end Go.Hk
namespace Go.Hk
end Go.Hk
namespace Go.Hk
def Parts (r : Ru) (s : List UInt8) (h : Nat) : Prop := R s r.rx 0 h ∧ R s r.trail h s.length
theorem head_at {r : Ru} {s : List UInt8} (hr : rightT r.rx = true) (ht : rightT r.trail = true) (hk : r.trail.k ≠ 0) (hl : s.length ≤ 10000) :
    Parts r s (headP r s) ∧ (∀ h, headP r s < h → ¬ Parts r s h) ∨ headP r s = 0 ∧ ∀ h, ¬ Parts r s h := by
  have mem : ∀ h, Parts r s h ↔ h ∈ endsN r.rx s 0 ∧ s.length ∈ endsN r.trail s h := fun h => by
    unfold Parts
    constructor
    · rintro ⟨h1, h2⟩
      have hm := (endsN_mem hr hl (Nat.zero_le _)).2 h1
      exact ⟨hm, (endsN_mem ht hl (endsN_le hm).2).2 h2⟩
    · rintro ⟨h1, h2⟩
      exact ⟨(endsN_mem hr hl (Nat.zero_le _)).1 h1, (endsN_mem ht hl (endsN_le h1).2).1 h2⟩
  have hrise := endsN_rise r.rx s 0
  unfold headP
  rw [if_neg hk]
  cases hf : (endsN r.rx s 0).reverse.find? fun h => decide (s.length ∈ endsN r.trail s h) with
  | none =>
    right
    refine ⟨rfl, fun h hp => ?_⟩
    obtain ⟨h1, h2⟩ := (mem h).1 hp
    have := List.find?_eq_none.1 hf h (List.mem_reverse.2 h1)
    exact this (decide_eq_true h2)
  | some v =>
    left
    rw [Option.getD_some]
    have hvm := List.mem_reverse.1 (List.mem_of_find?_eq_some hf)
    have hvp : s.length ∈ endsN r.trail s v := by have := List.find?_some hf; simpa using this
    refine ⟨(mem v).2 ⟨hvm, hvp⟩, fun h hlt hp => ?_⟩
    obtain ⟨h1, h2⟩ := (mem h).1 hp
    have hrev : (endsN r.rx s 0).reverse.Pairwise (· > ·) := by
      rw [List.pairwise_reverse]; exact hrise
    obtain ⟨_, a1, a2, e1, e2⟩ := List.find?_eq_some_iff_append.1 hf
    have hgm := List.mem_reverse.2 h1
    rw [e1, List.mem_append, List.mem_cons] at hgm
    rcases hgm with hgm | rfl | hgm
    · have := e2 h hgm
      simp only [Bool.not_eq_true', decide_eq_false_iff_not] at this
      exact this h2
    · omega
    · rw [e1, List.pairwise_append, List.pairwise_cons] at hrev
      have := hrev.2.1.1 h hgm
      omega
theorem endsN_drop {x : Rx} {w : List UInt8} {i : Nat} (hr : rightT x = true) (hl : w.length ≤ 10000) (hi : i ≤ w.length) : endsN x w i = (endsN x (w.drop i) 0).map (· + i) := by
  have := endsN_shift (x := x) (s := w) (a := i) (b := 0) hr hl (by omega)
  rwa [Nat.add_zero] at this
end Go.Hk
