import Derived.Test.YtdimacffjdpkfaaHkQ24
import Derived.Test.YtdimacffjdpkfaaHkQ20
import Derived.Test.YtdimacffjdpkfaaHkQ21
/- Layer 6, the plain law: what is asked of rules, step by step. -/
set_option linter.unusedSimpArgs false
set_option linter.unusedVariables false
namespace Go.Hk
/-! ### Names that are not the same -/
def insN (l : List (List UInt8)) (x : List UInt8) : List (List UInt8) := if x ∈ l then l else l ++ [x]
theorem insN_le : ∀ (xs l : List (List UInt8)), (xs.foldl insN l).length ≤ l.length + xs.length
  | [], l => by simp
  | x :: xs, l => by
    have h := insN_le xs (insN l x)
    have h2 : (insN l x).length ≤ l.length + 1 := by unfold insN; split <;> simp
    simp only [List.foldl_cons, List.length_cons]
    omega
theorem insN_all : ∀ (xs l : List (List UInt8)), (xs.foldl insN l).length = l.length + xs.length ↔ diff xs = true ∧ ∀ x ∈ xs, x ∉ l
  | [], l => by simp [diff]
  | x :: xs, l => by
    simp only [List.foldl_cons, List.length_cons, diff, Bool.and_eq_true, Bool.not_eq_true']
    by_cases hx : x ∈ l
    · have e : insN l x = l := if_pos hx
      have h := insN_le xs l
      rw [e]
      constructor
      · intro h'; omega
      · rintro ⟨_, h'⟩; exact absurd hx (h' x (by simp))
    · have e : insN l x = l ++ [x] := if_neg hx
      have h := insN_all xs (l ++ [x])
      rw [e]
      simp only [List.length_append, List.length_cons, List.length_nil] at h
      have e2 : l.length + (xs.length + 1) = l.length + (0 + 1) + xs.length := by omega
      rw [e2, h]
      constructor
      · rintro ⟨h1, h2⟩
        refine ⟨⟨?_, h1⟩, fun y hy hl => ?_⟩
        · rw [Bool.eq_false_iff]
          intro hc
          have hm : x ∈ xs := by simpa using hc
          exact h2 x hm (by simp)
        · rcases List.mem_cons.1 hy with rfl | hy
          · exact hx hl
          · exact h2 y hy (by simp [hl])
      · rintro ⟨⟨h1, h2⟩, h3⟩
        refine ⟨h2, fun y hy hl => ?_⟩
        rcases List.mem_append.1 hl with hl | hl
        · exact h3 y (by simp [hy]) hl
        · have hl := List.mem_singleton.1 hl
          subst hl
          rw [Bool.eq_false_iff] at h1
          exact h1 (by simpa using hy)
theorem insN_diff (xs : List (List UInt8)) : decide ((xs.foldl insN []).length = xs.length) = diff xs := by
  have h := insN_all xs []
  simp only [List.length_nil, Nat.zero_add, List.not_mem_nil, not_false_eq_true, implies_true, and_true] at h
  rw [Bool.eq_iff_iff, decide_eq_true_eq, h]
/-! ### Numbers that rise -/
theorem rise_snoc (n c : Int) : ∀ (l : List Int) (a : Int), rise n a (l ++ [c]) = (rise n a l && decide (l.getLastD a < c) && decide (c < n))
  | [], a => by simp [rise]
  | x :: l, a => by
    have h := rise_snoc n c l x
    simp only [List.cons_append, rise, h, List.getLastD_cons]
    cases decide (a < x) <;> cases decide (x < n) <;> simp
theorem rise_next {n a c : Int} {l : List Int} {i : Nat} (h : l[i]? = some c) : rise n a (l.take (i + 1)) = (rise n a (l.take i) && decide ((l.take i).getLastD a < c) && decide (c < n)) := by
  obtain ⟨hi, rfl⟩ := List.getElem?_eq_some_iff.1 h
  rw [List.take_succ_eq_append_getElem hi, rise_snoc]
theorem rise_last {a c : Int} {l : List Int} {i : Nat} (h : l[i]? = some c) : (l.take (i + 1)).getLastD a = c := by
  obtain ⟨hi, rfl⟩ := List.getElem?_eq_some_iff.1 h
  rw [List.take_succ_eq_append_getElem hi]
  exact List.getLastD_concat ..
theorem rise_pre {n a : Int} {l : List Int} {i : Nat} (h : rise n a (l.take i) = false) : rise n a l = false := by
  cases hd : rise n a l
  · rfl
  · have key : ∀ (x y : List Int) (a : Int), rise n a (x ++ y) = true → rise n a x = true := by
      intro x
      induction x with
      | nil => intro y a _; rfl
      | cons z x ih =>
        intro y a hb
        simp only [List.cons_append, rise, Bool.and_eq_true] at hb ⊢
        exact ⟨hb.1, ih y z hb.2⟩
    have := key (l.take i) (l.drop i) a (by rw [List.take_append_drop]; exact hd)
    rw [h] at this
    cases this
/-! ### Names, byte by byte -/
def nmTo (s : List UInt8) (i : Nat) : Bool := (i == 0 || letterB (s.getD 0 0)) && (s.take i).all nb
theorem nmTo_next {s : List UInt8} {i : Nat} {b : UInt8} (h : s[i]? = some b) : nmTo s (i + 1) = (nmTo s i && (letterB b || !(i == 0) && digitB b)) := by
  obtain ⟨hi, rfl⟩ := List.getElem?_eq_some_iff.1 h
  unfold nmTo
  rw [List.take_succ_eq_append_getElem hi, List.all_append]
  cases i with
  | zero =>
    have e : s.getD 0 0 = s[0] := by simp [List.getD_eq_getElem?_getD, List.getElem?_eq_getElem hi]
    simp only [e, List.take_zero, List.all_nil, List.all_cons, nb]
    cases letterB s[0] <;> simp
  | succ i =>
    simp only [List.all_cons, List.all_nil, nb]
    cases letterB (s.getD 0 0) <;> cases (s.take (i + 1)).all (fun b => letterB b || digitB b) <;> simp [nb]
theorem nmTo_pre {s : List UInt8} {i : Nat} (hi : 0 < i ∧ i ≤ s.length) (h : nmTo s i = false) : nameB s = false := by
  have e : (i == 0) = false := beq_eq_false_iff_ne.2 (by omega)
  unfold nmTo at h
  rw [e, Bool.false_or] at h
  unfold nameB
  cases hl : letterB (s.getD 0 0)
  · simp
  · rw [hl, Bool.true_and] at h
    have : s.all (fun b => letterB b || digitB b) = false := by
      rw [Bool.eq_false_iff] at h ⊢
      intro ha
      apply h
      rw [List.all_eq_true] at ha ⊢
      intro b hb
      exact ha b (List.mem_of_mem_take hb)
    rw [this]; simp
theorem nmTo_all {s : List UInt8} (hs : 0 < s.length) : nmTo s s.length = (letterB (s.getD 0 0) && s.all (fun b => letterB b || digitB b)) := by
  have e : (s.length == 0) = false := beq_eq_false_iff_ne.2 (by omega)
  unfold nmTo
  rw [e, Bool.false_or, List.take_length]
  rfl
end Go.Hk
/- Layer 6: how rules lie in memory. -/
namespace Go.Hk
def ruV (r : Ru) : AVal := .agg (cRu r)
def cdV (c : Cd) : AVal := .agg (cCd c)
theorem cRu_eq (r : Ru) : cRu r = [.sl .no r.conds.length (fl cI r.conds), .bool r.all, .bool r.bol,
    .int .i64 r.rx.k, .int .u64 (wd r.rx.s 0 : Nat), .int .u64 (wd r.rx.s 1 : Nat), .int .u64 (wd r.rx.s 2 : Nat), .int .u64 (wd r.rx.s 3 : Nat), .int .i64 r.rx.lo, .int .i64 r.rx.hi, .sl .no r.rx.l.length (fl cR r.rx.l),
    .int .i64 r.trail.k, .int .u64 (wd r.trail.s 0 : Nat), .int .u64 (wd r.trail.s 1 : Nat), .int .u64 (wd r.trail.s 2 : Nat), .int .u64 (wd r.trail.s 3 : Nat), .int .i64 r.trail.lo, .int .i64 r.trail.hi, .sl .no r.trail.l.length (fl cR r.trail.l),
    .bool r.eof, .int .i64 r.act, .int .i64 r.to] := by
  unfold cRu
  rw [cR_eq, cR_eq]
  rfl
theorem ruV_agg22 (r : Ru) : AVal.agg [.sl .no r.conds.length (fl cI r.conds), .bool r.all, .bool r.bol,
    .int .i64 r.rx.k, .int .u64 (wd r.rx.s 0 : Nat), .int .u64 (wd r.rx.s 1 : Nat), .int .u64 (wd r.rx.s 2 : Nat), .int .u64 (wd r.rx.s 3 : Nat), .int .i64 r.rx.lo, .int .i64 r.rx.hi, .sl .no r.rx.l.length (fl cR r.rx.l),
    .int .i64 r.trail.k, .int .u64 (wd r.trail.s 0 : Nat), .int .u64 (wd r.trail.s 1 : Nat), .int .u64 (wd r.trail.s 2 : Nat), .int .u64 (wd r.trail.s 3 : Nat), .int .i64 r.trail.lo, .int .i64 r.trail.hi, .sl .no r.trail.l.length (fl cR r.trail.l),
    .bool r.eof, .int .i64 r.act, .int .i64 r.to] = ruV r := by rw [← cRu_eq, ruV]
theorem ruV_agg (r : Ru) : AVal.agg (cRu r) = ruV r := nr rfl
theorem ruV_cells (r : Ru) : cellsOf (ruV r) = some (cRu r) := rfl
theorem ruV_strip (r : Ru) : strip (ruV r) = some (ruV r) := by simp only [ruV, strip, cRu_strip]
theorem l_s_cRu {l : List Ru} : stripL (fl cRu l) = some (fl cRu l) := fl_strip cRu_strip l
theorem l_n_cRu {l : List Ru} : (fl cRu l).length = l.length * 22 := fl_len cRu_len l
theorem c_ruV {h t : Nat} {r : Ru} : clo h t (ruV r) = true := clo_strip _ _ (ruV_strip r)
theorem c_cRu {h t : Nat} {r : Ru} : cloL h t (cRu r) = true := cloL_strip _ _ (cRu_strip r)
theorem c_flRu {h t : Nat} {l : List Ru} : cloL h t (fl cRu l) = true := cloL_strip _ _ l_s_cRu
theorem l_put_cRu {a0 a1 a2 a3 a4 a5 a6 a7 a8 a9 a10 a11 a12 a13 a14 a15 a16 a17 a18 a19 a20 a21 : AVal} {r : Ru} : setMany [a0, a1, a2, a3, a4, a5, a6, a7, a8, a9, a10, a11, a12, a13, a14, a15, a16, a17, a18, a19, a20, a21] 0 (cRu r) = cRu r :=
  setMany_full (cRu r) [a0, a1, a2, a3, a4, a5, a6, a7, a8, a9, a10, a11, a12, a13, a14, a15, a16, a17, a18, a19, a20, a21] [] (cRu_len r).symm
theorem l_take_cRu {r : Ru} : List.take 22 (cRu r) = cRu r := List.take_of_length_le (by rw [cRu_len]; omega)
theorem n_isB_Ru {r : Ru} : isB (cRu r) = false := by rw [cRu_eq]; rfl
theorem cdV_agg2 (c : Cd) : AVal.agg [.str c.name, .bool c.ex] = cdV c := nr rfl
theorem cdV_agg (c : Cd) : AVal.agg (cCd c) = cdV c := nr rfl
theorem cdV_cells (c : Cd) : cellsOf (cdV c) = some [.str c.name, .bool c.ex] := rfl
theorem cdV_strip (c : Cd) : strip (cdV c) = some (cdV c) := rfl
theorem c_cdV {h t : Nat} {c : Cd} : clo h t (cdV c) = true := rfl
theorem l_s_cCd {l : List Cd} : stripL (fl cCd l) = some (fl cCd l) := fl_strip cCd_strip l
theorem l_n_cCd {l : List Cd} : (fl cCd l).length = l.length * 2 := fl_len cCd_len l
theorem c_flCd {h t : Nat} {l : List Cd} : cloL h t (fl cCd l) = true := cloL_strip _ _ l_s_cCd
theorem cSp_eq (s : Sp) : cSp s = [.sl .no s.conds.length (fl cCd s.conds), .bool s.deft, .sl .no s.rules.length (fl cRu s.rules)] := rfl
theorem sV_agg3 (s : Sp) : AVal.agg [.sl .no s.conds.length (fl cCd s.conds), .bool s.deft, .sl .no s.rules.length (fl cRu s.rules)] = sV s := nr rfl
theorem sV_cells (s : Sp) : cellsOf (sV s) = some [.sl .no s.conds.length (fl cCd s.conds), .bool s.deft, .sl .no s.rules.length (fl cRu s.rules)] := rfl
theorem sV_strip (s : Sp) : strip (sV s) = some (sV s) := by
  have h : stripL (fl cCd s.conds) = some (fl cCd s.conds) := l_s_cCd
  have h2 : stripL (fl cRu s.rules) = some (fl cRu s.rules) := l_s_cRu
  simp only [sV, cSp, strip, stripL, h, h2]
theorem c_sV {h t : Nat} {s : Sp} : clo h t (sV s) = true := clo_strip _ _ (sV_strip s)
attribute [go_sem] ruV_cells ruV_strip ruV_agg ruV_agg22 l_s_cRu l_n_cRu l_put_cRu l_take_cRu n_isB_Ru cRu_len cdV_cells cdV_strip cdV_agg cdV_agg2 l_s_cCd l_n_cCd cCd_len sV_agg3 sV_cells sV_strip c_ruV c_cRu c_flRu c_flCd c_sV
theorem aeq_str {P : Program} {t d : Nat} {I : TI} (hI : tiOf P t = some I) (hk : I.k = .str) {a b : List UInt8} : aeq P (d + 1) t (.str a) (.str b) = some (decide (a = b)) := by
  unfold aeq
  simp only [hI, hk]
  by_cases h : a = b <;> simp [h]
theorem aeq_bool {P : Program} {t d : Nat} {I : TI} (hI : tiOf P t = some I) (hk : I.k = .bool) {a b : Bool} : aeq P (d + 1) t (.bool a) (.bool b) = some (decide (a = b)) := by
  unfold aeq
  simp only [hI, hk]
  cases a <;> cases b <;> rfl
theorem aeq_int {P : Program} {t d : Nat} {I : TI} {k : IntKind} (hI : tiOf P t = some I) (hk : I.k = .int k) {k' : IntKind} {a b : Int} : aeq P (d + 1) t (.int k' a) (.int k' b) = some (decide (a = b)) := by
  unfold aeq
  simp only [hI, hk, if_true]
  by_cases h : a = b <;> simp [h]
/-! What is handed in. -/
structure okRu (r : Ru) : Prop where
  nc : r.conds.length < 9223372036854775808
  rx : okX r.rx
  tr : okX r.trail
structure okSp (s : Sp) : Prop where
  nc : s.conds.length < 9223372036854775808
  nr : s.rules.length < 9223372036854775808
  nm : ∀ c ∈ s.conds, c.name.length < 9223372036854775808
  ru : ∀ r ∈ s.rules, okRu r
/-! Equal cells. -/
theorem fl_inj1 {l l' : List Int} (h : fl cI l = fl cI l') : l = l' := by
  induction l generalizing l' with
  | nil => cases l' with
    | nil => rfl
    | cons x l' => simp [fl, cI] at h
  | cons x l ih => cases l' with
    | nil => simp [fl, cI] at h
    | cons y l' =>
      simp only [fl_cons, cI, List.cons_append, List.nil_append, List.cons.injEq, AVal.int.injEq, true_and] at h
      rw [h.1, ih h.2]
theorem cRu_inj {r q : Ru} (hr : okRu r) (hq : okRu q) (h : cRu r = cRu q) : r = q := by
  obtain ⟨a1, a2, a3, a4, a5, a6, a7, a8⟩ := r
  obtain ⟨b1, b2, b3, b4, b5, b6, b7, b8⟩ := q
  simp only [cRu, List.cons.injEq, AVal.sl.injEq, AVal.bool.injEq] at h
  obtain ⟨h1, h2, h3, h4⟩ := h
  have h5 := List.append_inj h4 (by simp [cR_len])
  have h6 := List.append_inj h5.2 (by simp [cR_len])
  have e1 := fl_inj1 h1.2.2
  have e2 := cR_inj' a4 hr.rx b4 hq.rx h5.1
  have e3 := cR_inj' a5 hr.tr b5 hq.tr h6.1
  simp only [List.cons.injEq, AVal.bool.injEq, AVal.int.injEq, true_and, and_true] at h6
  obtain ⟨_, e6, e7, e8⟩ := h6
  subst e1 e2 e3 h2 h3 e6 e7 e8
  rfl
theorem cCd_inj {c d : Cd} (h : cCd c = cCd d) : c = d := by
  obtain ⟨a, b⟩ := c
  obtain ⟨a', b'⟩ := d
  simp only [cCd, List.cons.injEq, AVal.str.injEq, AVal.bool.injEq, and_true] at h
  rw [h.1, h.2]
theorem ruV_inj {r q : Ru} (hr : okRu r) (hq : okRu q) (h : ruV r = ruV q) : r = q := cRu_inj hr hq (AVal.agg.inj h)
theorem sV_inj {s t : Sp} (hs : okSp s) (ht : okSp t) (h : sV s = sV t) : s = t := by
  obtain ⟨a1, a2, a3⟩ := s
  obtain ⟨b1, b2, b3⟩ := t
  have h := AVal.agg.inj h
  simp only [cSp, List.cons.injEq, AVal.sl.injEq, AVal.bool.injEq, true_and, and_true] at h
  obtain ⟨⟨h1, h2⟩, h3, h4, h5⟩ := h
  have e1 : a1 = b1 := by
    have := slc_inj (f := cCd) (l := a1) (r := b1) cCd_len (fun a ha b hb e => cCd_inj e) (by simp only [slc, h1, h2])
    exact this
  have e2 : a3 = b3 := by
    have := slc_inj (f := cRu) (l := a3) (r := b3) cRu_len (fun a ha b hb e => cRu_inj (hs.ru a ha) (ht.ru b hb) e) (by simp only [slc, h4, h5])
    exact this
  subst e1 e2 h3
  rfl
/-! Names. -/
def alphaB (b : UInt8) : Bool := decide (97 ≤ b.toNat) && decide (b.toNat ≤ 122) || decide (65 ≤ b.toNat) && decide (b.toNat ≤ 90)
theorem letterB_eq (b : UInt8) : letterB b = (alphaB b || decide (b.toNat = 95)) := rfl
end Go.Hk
/- Layer 6: where a rule holds; which rules are the same. -/
namespace Go.Hk
section
variable {α : Type} {a b : List α} {i : Nat} {x y : α}
end
def nulRu : Ru := ⟨[], false, false, .mk 0 0 0 0 [], .mk 0 0 0 0 [], false, 0, 0⟩
def activeS (s : Sp) (i c : Int) : Bool :=
  if 0 ≤ i ∧ i < s.rules.length ∧ 0 ≤ c ∧ c < s.conds.length then
    (s.rules.getD i.toNat nulRu).all || (s.rules.getD i.toNat nulRu).conds.any (fun a => decide (c = a)) || (decide ((s.rules.getD i.toNat nulRu).conds.length = 0) && !(s.conds.getD c.toNat ⟨[], false⟩).ex)
  else false
end Go.Hk
/- Layer 6: how long a line is, and what a rule of right rules holds. -/
namespace Go.Hk
theorem rise_spec {n : Int} : ∀ {l : List Int} {a : Int}, rise n a l = true → (∀ c ∈ l, a < c ∧ c < n) ∧ (l ≠ [] → a + l.length < n)
  | [], a, _ => ⟨by simp, fun h => absurd rfl h⟩
  | x :: l, a, h => by
    simp only [rise, Bool.and_eq_true, decide_eq_true_eq] at h
    obtain ⟨⟨h1, h2⟩, h3⟩ := h
    obtain ⟨i1, i2⟩ := rise_spec h3
    refine ⟨fun c hc => ?_, fun _ => ?_⟩
    · rcases List.mem_cons.1 hc with rfl | hc
      · exact ⟨h1, h2⟩
      · have := i1 c hc; omega
    · simp only [List.length_cons]
      by_cases hl : l = []
      · subst hl; simp; omega
      · have := i2 hl; omega
/-- A rule of right rules. -/
structure LnOk (s : Sp) (r : Ru) : Prop where
  okS : okSp s
  okR : okRu r
  rs : rightS s = true
  rb : ruleB s.conds.length r = true
theorem rightS_spec {s : Sp} (h : rightS s = true) : 1 ≤ s.conds.length ∧ s.conds.length ≤ 8 ∧ s.rules.length ≤ 40 ∧ (∀ c ∈ s.conds, 0 < c.name.length ∧ c.name.length ≤ 12) ∧ ∀ r ∈ s.rules, ruleB s.conds.length r = true := by
  simp only [rightS, Bool.and_eq_true, decide_eq_true_eq, List.all_eq_true] at h
  obtain ⟨⟨⟨⟨⟨⟨⟨h1, h2⟩, h3⟩, _⟩, _⟩, h4⟩, _⟩, h5⟩ := h
  refine ⟨h1, h2, h3, fun c hc => ?_, h5⟩
  have := h4 c hc
  simp only [nameB, Bool.and_eq_true, decide_eq_true_eq] at this
  omega
theorem okSp.line {s : Sp} (h : okSp s) (hr : rightS s = true) {r : Ru} (hm : r ∈ s.rules) : LnOk s r := ⟨h, h.ru r hm, hr, (rightS_spec hr).2.2.2.2 r hm⟩
section
variable {s : Sp} {r : Ru}
theorem LnOk.cd (h : LnOk s r) : ∀ c ∈ r.conds, 0 ≤ c ∧ c < s.conds.length := by
  have := h.rb
  simp only [ruleB, holdsB, Bool.and_eq_true] at this
  intro c hc
  have := (rise_spec this.1.1.1).1 c hc
  omega
theorem LnOk.all (h : LnOk s r) (ha : r.all = true) : r.conds.length = 0 := by
  have := h.rb
  simp only [ruleB, holdsB, ha, Bool.and_eq_true, Bool.not_true, Bool.false_or, decide_eq_true_eq] at this
  exact this.1.1.2
theorem LnOk.act (h : LnOk s r) : (r.act = 3 ∧ 0 ≤ r.to ∧ r.to < s.conds.length) ∨ r.act = 1 ∨ r.act = 2 := by
  have := h.rb
  simp only [ruleB, doesB, Bool.and_eq_true] at this
  have h2 := this.1.2
  by_cases h3 : r.act = 3
  · rw [if_pos h3] at h2; simp at h2; exact .inl ⟨h3, h2⟩
  · rw [if_neg h3] at h2; simp at h2; exact .inr h2.1
theorem LnOk.mt (h : LnOk s r) : matchB r = true := by
  have := h.rb
  simp only [ruleB, Bool.and_eq_true] at this
  exact this.2
theorem nameAt_eq {l : List Cd} {c : Cd} {k : Nat} (h : l[k]? = some c) : nameAt l (k : Nat) = c.name := by
  simp [nameAt, List.getD_eq_getElem?_getD, h]
theorem LnOk.nm (h : LnOk s r) {c : Int} (hc : 0 ≤ c ∧ c < s.conds.length) : 0 < (nameAt s.conds c).length ∧ (nameAt s.conds c).length ≤ 12 := by
  obtain ⟨k, rfl⟩ : ∃ k : Nat, c = (k : Nat) := ⟨c.toNat, by omega⟩
  have hk : k < s.conds.length := by omega
  rw [nameAt_eq (c := s.conds[k]) (by simp [hk])]
  exact (rightS_spec h.rs).2.2.2.1 _ (List.getElem_mem hk)
theorem LnOk.names (h : LnOk s r) : (∀ x ∈ r.conds.map (nameAt s.conds), 0 < x.length ∧ x.length ≤ 12) := by
  intro x hx
  obtain ⟨c, hc, rfl⟩ := List.mem_map.1 hx
  exact h.nm (h.cd c hc)
theorem LnOk.rx (h : LnOk s r) (he : r.eof = false) : rightT r.rx = true ∧ (noneX r.trail = false → rightT r.trail = true) := by
  have := h.mt
  simp only [matchB, he, Bool.false_eq_true, if_false, Bool.and_eq_true, Bool.or_eq_true] at this
  exact ⟨this.1, fun h0 => by rcases this.2 with h | h; rw [h0] at h; cases h; exact h⟩
end
end Go.Hk
/- Layer 6: rules that are awake; few of them. -/
namespace Go.Hk
def noS : Sp := ⟨[], false, []⟩
theorem noX_okX : okX (.mk 0 0 0 0 []) := .mk (by omega) (by omega) (by omega) (by omega) (by simp) (fun y hy => by cases hy)
theorem noS_ok : okSp noS := ⟨by simp [noS], by simp [noS], by simp [noS], by simp [noS]⟩
theorem noS_right : rightS noS = false := by decide +kernel
/-! ### Few -/
def fewT (n acc : Int) (u : Ru) : Int := IntKind.i64.wrap (IntKind.i64.wrap (IntKind.i64.wrap (IntKind.i64.wrap (IntKind.i64.wrap (acc + (u.conds.length : Nat)) + n) - nodes u.rx n) + n) - nodes u.trail n)
def fewL (n : Int) : Int → List Ru → Int
  | acc, [] => acc
  | acc, u :: l => if acc < n then fewL n (fewT n acc u) l else acc
def fewS (s : Sp) (n : Int) : Bool := decide (fewL n (IntKind.i64.wrap ((s.conds.length : Nat) + (s.rules.length : Nat))) s.rules < n)
end Go.Hk
/- Layer 3, the plain law: a text is of one pattern only. -/
namespace Go.Hk
/-! ### Sets -/
/-! ### Bytes of a set -/
/-- How a byte's text begins: a plain byte or a backslash. -/
def cSt (b : UInt8) : Prop := plain b.toNat = true ∨ b = 92
instance (b : UInt8) : Decidable (cSt b) := inferInstanceAs (Decidable (_ ∨ _))
/-- How a text may begin. -/
def sOk (b : UInt8) : Prop := b ≠ 41 ∧ b ≠ 124 ∧ b ≠ 123
/-! ### Numbers -/
/-! ### Patterns -/
/-- Patterns of any depth that may be, with sets of bytes. -/
structure WR (x : Rx) : Prop where
  ok : okX x
  r : inR x
theorem WR.kid {x y : Rx} (h : WR x) (hy : y ∈ x.l) : WR y := ⟨h.ok.mem hy, h.r.kid hy⟩
theorem inR.zero {x : Rx} (h : inR x) : x.k ≠ 5 → x.lo = 0 ∧ x.hi = 0 ∧ (x.k = 1 → x.s = 0) := by
  intro h5
  have h := h.own
  unfold Hk.own at h
  rw [if_neg h5] at h
  split at h
  · simp only [Bool.and_eq_true, decide_eq_true_eq] at h
    refine ⟨h.1.1.2, h.1.2, fun h1 => ?_⟩
    have := h.1.1.1
    rw [h1] at this
    simpa using this
  · split at h
    · simp only [Bool.and_eq_true, decide_eq_true_eq] at h
      exact ⟨h.1.1.2, h.1.2, fun h1 => by omega⟩
    · cases h
/-- The kinds. -/
theorem WR.cases {x : Rx} (h : WR x) : x = .mk 1 0 0 0 [] ∨ (∃ s, x = .mk 2 s 0 0 [] ∧ s ≠ 0 ∧ s < 2 ^ 256) ∨ (∃ l, x = .mk 3 0 0 0 l ∧ 2 ≤ l.length ∧ ∀ y ∈ l, WR y ∧ y.k ≠ 3) ∨ (∃ l, x = .mk 4 0 0 0 l ∧ 2 ≤ l.length ∧ ∀ y ∈ l, WR y ∧ y.k ≠ 4) ∨ (∃ lo hi y, x = .mk 5 0 lo hi [y] ∧ times lo hi = true ∧ WR y) := by
  have hz := h.r.zero
  have hk := fun y hy => h.kid (y := y) hy
  have hu := fun y hy => h.r.unlike (y := y) hy
  have hs := h.ok.st
  have hc := h.r.cases
  obtain ⟨k, s, lo, hi, l⟩ := x
  simp only [Rx.k, Rx.s, Rx.lo, Rx.hi, Rx.l] at *
  have hk5 : ∀ y ∈ l, k ≠ 5 → y.k ≠ k := fun y hy h5 he => by
    have := hu y hy
    simp [unlike, he, h5] at this
  rcases hc with ⟨h1, h2⟩ | ⟨h1, h2, h3⟩ | ⟨h1, h2, h3⟩ | ⟨h1, h2, h3, y, h4⟩
  · subst h1; subst h2
    obtain ⟨rfl, rfl, h3⟩ := hz (by decide)
    obtain rfl := h3 rfl
    exact .inl rfl
  · subst h1; subst h3
    obtain ⟨rfl, rfl, _⟩ := hz (by decide)
    exact .inr (.inl ⟨s, rfl, h2, hs⟩)
  · subst h2
    rcases h1 with rfl | rfl
    · obtain ⟨rfl, rfl, _⟩ := hz (by decide)
      exact .inr (.inr (.inl ⟨l, rfl, h3, fun y hy => ⟨hk y hy, hk5 y hy (by decide)⟩⟩))
    · obtain ⟨rfl, rfl, _⟩ := hz (by decide)
      exact .inr (.inr (.inr (.inl ⟨l, rfl, h3, fun y hy => ⟨hk y hy, hk5 y hy (by decide)⟩⟩)))
  · subst h1; subst h2; subst h4
    exact .inr (.inr (.inr (.inr ⟨lo, hi, y, rfl, h3, hk y (by simp)⟩)))
/-! What may follow. -/
def ends (u : List UInt8) : Prop := u = [] ∨ ∃ r, u = 41 :: r
def endQ (u : List UInt8) : Prop := u = [] ∨ (∃ r, u = 41 :: r) ∨ ∃ r, u = 124 :: r
theorem endQ.not {u t : List UInt8} {b : UInt8} (h : endQ u) (hb : sOk b) : u ≠ b :: t := by
  intro e
  rcases h with h | ⟨q, h⟩ | ⟨q, h⟩ <;> rw [h] at e
  · cases e
  · exact hb.1 (List.cons.inj e).1.symm
  · exact hb.2.1 (List.cons.inj e).1.symm
/-- The kinds of atoms. -/
theorem WR.atom {x : Rx} (h : WR x) : x = .mk 1 0 0 0 [] ∨ (∃ s, x = .mk 2 s 0 0 [] ∧ s ≠ 0 ∧ s < 2 ^ 256) ∨ 3 ≤ x.k := by
  rcases h.cases with h | h | ⟨l, rfl, hl, hk⟩ | ⟨l, rfl, hl, hk⟩ | ⟨lo, hi, y, rfl, ht, hy⟩
  · exact .inl h
  · exact .inr (.inl h)
  all_goals exact .inr (.inr (by simp only [Rx.k]; decide))
/-! Units: an atom, or one that is repeated. -/
/-! Units one behind the other. -/
/-! Alternatives. -/
theorem ends.not {u r : List UInt8} (h : ends u) : u ≠ 124 :: r := by
  intro e
  rcases h with h | ⟨q, h⟩ <;> rw [h] at e <;> cases e
end Go.Hk
/- Layer 6, the plain law: a text is of one set of rules only. -/
namespace Go.Hk
/-! ### Bytes of a pattern's text -/
def tb (b : UInt8) : Bool := decide (b ≠ 10) && decide (b ≠ 32) && decide (b ≠ 47) && decide (b ≠ 60) && decide (b ≠ 94)
/-! ### Names -/
end Go.Hk
/- Layer 6, the plain law: a text is of one set of rules only. -/
namespace Go.Hk
/-- Rules that may be, of patterns that are small. -/
structure SpOk (s : Sp) : Prop where
  right : rightS s = true
  ok : ∀ r ∈ s.rules, okX r.rx ∧ okX r.trail
theorem SpOk.first {s : Sp} (h : SpOk s) : ∃ l, s.conds = ⟨initial, false⟩ :: l := by
  have := h.right
  simp only [rightS, Bool.and_eq_true, decide_eq_true_eq, Bool.not_eq_true'] at this
  obtain ⟨⟨⟨⟨⟨⟨⟨h1, _⟩, _⟩, h2⟩, h3⟩, _⟩, _⟩, _⟩ := this
  cases hc : s.conds with
  | nil => rw [hc] at h1; simp at h1
  | cons c l =>
    rw [hc] at h2 h3
    simp only [List.getD_cons_zero] at h2 h3
    cases c
    simp only at h2 h3
    subst h2; subst h3
    exact ⟨l, rfl⟩
end Go.Hk
/- Layer 6, the plain law: rules by numbers. -/
namespace Go.Hk
def nulX : Rx := .mk 0 0 0 0 []
def smallM (L : List UInt8) (a : Nat) : Rx × Nat := (if 12 < size (rxM L 2 a).1 then chX 98 else (rxM L 2 a).1, (rxM L 2 a).2)
/-- The numbers from nought on that are drawn. -/
def cdT (L : List UInt8) (a i : Nat) : List Int := ((List.range i).filter fun c => decide (pickV L (a + c) 2 = 1)).map fun c => ((c : Nat) : Int)
def actM (L : List UInt8) (n a : Nat) : Int × Int × Nat := if pickV L a 3 = 2 then (3, (pickV L (a + 1) n : Nat), a + 2) else (1 + (pickV L a 3 : Nat), 0, a + 1)
def whM (L : List UInt8) (n a : Nat) : Bool × List Int × Nat := if pickV L a 4 = 0 then (true, [], a + 1) else if pickV L a 4 = 1 then (false, cdT L (a + 1) n, a + 1 + n) else (false, [], a + 1)
def rxsM (L : List UInt8) (p : Bool) (a : Nat) : Bool × Rx × Rx × Bool × Nat :=
  if pickV L a 12 = 11 then (false, nulX, nulX, true, a + 1)
  else if p = true then (false, (smallM L (a + 1)).1, nulX, false, (smallM L (a + 1)).2)
  else if pickV L ((smallM L (a + 1)).2 + 1) 5 = 4 then (decide (pickV L (smallM L (a + 1)).2 6 = 5), (smallM L (a + 1)).1, (smallM L ((smallM L (a + 1)).2 + 2)).1, false, (smallM L ((smallM L (a + 1)).2 + 2)).2)
  else (decide (pickV L (smallM L (a + 1)).2 6 = 5), (smallM L (a + 1)).1, nulX, false, (smallM L (a + 1)).2 + 2)
/-- A rule, and the next place. -/
def ruM (L : List UInt8) (n : Nat) (p : Bool) (a : Nat) : Ru × Nat :=
  let A := actM L n a
  let W := whM L n A.2.2
  let X := rxsM L p W.2.2
  (⟨W.2.1, W.1, X.1, X.2.1, X.2.2.1, X.2.2.2.1, A.1, A.2.1⟩, X.2.2.2.2)
/-- Some rules, and the next place. -/
def rusM (L : List UInt8) (n : Nat) (p : Bool) (a : Nat) : Nat → List Ru × Nat
  | 0 => ([], a)
  | i + 1 => ((rusM L n p a i).1 ++ [(ruM L n p (rusM L n p a i).2).1], (ruM L n p (rusM L n p a i).2).2)
def cd3 (x : Bool) : List Cd := [⟨initial, false⟩, ⟨[66], x⟩, ⟨[67, 95, 49], false⟩]
/-- Rules out of a row of bytes. -/
def spM (M : List UInt8) (p : Bool) : Sp := ⟨(cd3 (decide (pickV M 1 2 = 1))).take (1 + pickV M 0 3), decide (0 < pickV M 2 3), (rusM M (1 + pickV M 0 3) p 4 (1 + pickV M 3 4)).1⟩
def madeS (L : List UInt8) (p : Bool) : Sp := spM (L.take 60) p
/-! ### Where it ends -/
theorem smallM_at (L : List UInt8) (a : Nat) : a < (smallM L a).2 ∧ (smallM L a).2 ≤ a + 32 := by
  have := rxM_at L 2 a
  simp only [smallM]; omega
theorem ruM_at (L : List UInt8) (n : Nat) (p : Bool) (a : Nat) : a < (ruM L n p a).2 ∧ (ruM L n p a).2 ≤ a + 80 + n := by
  have h1 : a < (actM L n a).2.2 ∧ (actM L n a).2.2 ≤ a + 2 := by unfold actM; split <;> simp
  have h2 : (actM L n a).2.2 < (whM L n (actM L n a).2.2).2.2 ∧ (whM L n (actM L n a).2.2).2.2 ≤ (actM L n a).2.2 + 1 + n := by unfold whM; split; simp; split <;> simp <;> omega
  have h3 : ∀ b, b < (rxsM L p b).2.2.2.2 ∧ (rxsM L p b).2.2.2.2 ≤ b + 70 := by
    intro b
    have s1 := smallM_at L (b + 1)
    have s2 := smallM_at L ((smallM L (b + 1)).2 + 2)
    unfold rxsM
    split
    · simp
    · split
      · simp only; omega
      · split <;> simp only <;> omega
  have := h3 (whM L n (actM L n a).2.2).2.2
  simp only [ruM]; omega
theorem rusM_at (L : List UInt8) (n : Nat) (p : Bool) (a : Nat) : ∀ i, (rusM L n p a i).2 ≤ a + i * (80 + n) ∧ (rusM L n p a i).1.length = i
  | 0 => by simp [rusM]
  | i + 1 => by
    have h := rusM_at L n p a i
    have := ruM_at L n p (rusM L n p a i).2
    simp only [rusM, List.length_append, List.length_cons, List.length_nil, h.2, and_true]
    rw [Nat.succ_mul]; omega
theorem cdT_zero {L : List UInt8} {a : Nat} : cdT L a 0 = [] := rfl
theorem cdT_in {L : List UInt8} {a i : Nat} (h : pickV L (a + i) 2 = 1) : cdT L a (i + 1) = cdT L a i ++ [(i : Int)] := by
  simp [cdT, List.range_succ, List.filter_append, h]
theorem cdT_out {L : List UInt8} {a i : Nat} (h : ¬ pickV L (a + i) 2 = 1) : cdT L a (i + 1) = cdT L a i := by
  simp [cdT, List.range_succ, List.filter_append, h]
theorem cdT_len {L : List UInt8} {a i : Nat} : (cdT L a i).length ≤ i := by
  simp only [cdT, List.length_map]
  exact Nat.le_trans (List.length_filter_le ..) (by simp)
/-! ### What is made may be -/
theorem smallM_good (L : List UInt8) (a : Nat) : okX (smallM L a).1 ∧ rightT (smallM L a).1 = true := by
  have key : ∀ x : Rx, okX x → right x 20 = true → sz x ≤ 7 → size x ≤ 12 → okX x ∧ rightT x = true := by
    intro x h1 h2 h3 h4
    refine ⟨h1, ?_⟩
    have := nodes_sz x 1000 (by omega)
    simp only [rightT, h2, Bool.true_and, Bool.and_eq_true, decide_eq_true_eq]
    omega
  have hg := rxM_good L 2 a (by omega)
  unfold smallM
  simp only
  split
  · refine key _ (chX_ok _) (leaf_right rfl (chX_own (by omega)) (by omega)) (by decide) ?_
    rw [size_eq]; decide
  · exact key _ hg.ok (right_mono _ _ _ (by decide) hg.right) hg.sz (by omega)
theorem nulX_okX : okX nulX := noX_okX
theorem rise_append {n : Int} : ∀ (l : List Int) (a c : Int), rise n a l = true → (∀ x ∈ l, x < c) → a < c → c < n → rise n a (l ++ [c]) = true
  | [], a, c, _, _, h1, h2 => by simp [rise, h1, h2]
  | x :: l, a, c, h, hx, h1, h2 => by
    simp only [rise, Bool.and_eq_true, decide_eq_true_eq, List.cons_append] at h ⊢
    exact ⟨h.1, rise_append l x c h.2 (fun y hy => hx y (by simp [hy])) (hx x (by simp)) h2⟩
theorem cdT_rise {L : List UInt8} {a n : Nat} : ∀ i, i ≤ n → rise n (-1) (cdT L a i) = true ∧ ∀ x ∈ cdT L a i, x < (i : Nat)
  | 0, _ => ⟨rfl, fun x hx => by cases hx⟩
  | i + 1, hi => by
    obtain ⟨h1, h2⟩ := cdT_rise (L := L) (a := a) (n := n) i (by omega)
    by_cases h : pickV L (a + i) 2 = 1
    · rw [cdT_in h]
      refine ⟨rise_append (n := (n : Int)) (cdT L a i) (-1) ((i : Nat) : Int) h1 h2 (by omega) (by omega), fun x hx => ?_⟩
      rcases List.mem_append.1 hx with hx | hx
      · have := h2 x hx; omega
      · simp at hx; omega
    · rw [cdT_out h]
      exact ⟨h1, fun x hx => by have := h2 x hx; omega⟩
theorem ruM_good (L : List UInt8) (n : Nat) (p : Bool) (a : Nat) (hn : 0 < n) (hn8 : n ≤ 8) : okRu (ruM L n p a).1 ∧ ruleB n (ruM L n p a).1 = true := by
  have hw : (whM L n (actM L n a).2.2).2.1.length ≤ n ∧ rise n (-1) (whM L n (actM L n a).2.2).2.1 = true ∧ ((whM L n (actM L n a).2.2).1 = true → (whM L n (actM L n a).2.2).2.1 = []) := by
    unfold whM
    split
    · exact ⟨by simp, rfl, fun _ => rfl⟩
    · split
      · exact ⟨cdT_len, (cdT_rise n (Nat.le_refl _)).1, fun h => by cases h⟩
      · exact ⟨by simp, rfl, fun _ => rfl⟩
  have ha : ((actM L n a).1 = 3 ∧ 0 ≤ (actM L n a).2.1 ∧ (actM L n a).2.1 < n) ∨ (((actM L n a).1 = 1 ∨ (actM L n a).1 = 2) ∧ (actM L n a).2.1 = 0) := by
    unfold actM
    have h1 := pickV_lt (L := L) (a := a + 1) hn
    have h3 := pickV_lt (L := L) (a := a) (n := 3) (by omega)
    split
    · exact .inl ⟨rfl, Int.natCast_nonneg _, by simpa using h1⟩
    · rename_i hk
      refine .inr ⟨?_, rfl⟩
      show (1 + ((pickV L a 3 : Nat) : Int) = 1) ∨ (1 + ((pickV L a 3 : Nat) : Int) = 2)
      omega
  have hx : ∀ b, okX (rxsM L p b).2.1 ∧ okX (rxsM L p b).2.2.1 ∧ (((rxsM L p b).2.2.2.1 = true ∧ (rxsM L p b).1 = false ∧ (rxsM L p b).2.1 = nulX ∧ (rxsM L p b).2.2.1 = nulX) ∨ ((rxsM L p b).2.2.2.1 = false ∧ rightT (rxsM L p b).2.1 = true ∧ ((rxsM L p b).2.2.1 = nulX ∨ rightT (rxsM L p b).2.2.1 = true))) := by
    intro b
    have s1 := smallM_good L (b + 1)
    have s2 := smallM_good L ((smallM L (b + 1)).2 + 2)
    unfold rxsM
    split
    · exact ⟨nulX_okX, nulX_okX, .inl ⟨rfl, rfl, rfl, rfl⟩⟩
    · split
      · exact ⟨s1.1, nulX_okX, .inr ⟨rfl, s1.2, .inl rfl⟩⟩
      · split
        · exact ⟨s1.1, s2.1, .inr ⟨rfl, s1.2, .inr s2.2⟩⟩
        · exact ⟨s1.1, nulX_okX, .inr ⟨rfl, s1.2, .inl rfl⟩⟩
  obtain ⟨x1, x2, x3⟩ := hx (whM L n (actM L n a).2.2).2.2
  have hnn : noneX nulX = true := rfl
  simp only [ruM]
  refine ⟨⟨?_, x1, x2⟩, ?_⟩
  · show (whM L n (actM L n a).2.2).2.1.length < 9223372036854775808
    have := hw.1; omega
  · simp only [ruleB, Bool.and_eq_true]
    refine ⟨⟨?_, ?_⟩, ?_⟩
    · simp only [holdsB, hw.2.1, Bool.true_and, Bool.or_eq_true, Bool.not_eq_true', decide_eq_true_eq]
      cases hb : (whM L n (actM L n a).2.2).1
      · exact .inl rfl
      · right; rw [hw.2.2 hb]; rfl
    · simp only [doesB]
      rcases ha with ⟨h1, h2, h3⟩ | ⟨h1, h2⟩
      · simp [h1, h2, h3]
      · rcases h1 with h1 | h1 <;> simp [h1, h2]
    · simp only [matchB]
      rcases x3 with ⟨h1, h2, h3, h4⟩ | ⟨h1, h2, h3⟩
      · simp [h1, h2, h3, h4, hnn]
      · rcases h3 with h3 | h3 <;> simp [h1, h2, h3, hnn]
theorem rusM_good (L : List UInt8) (n : Nat) (p : Bool) (a : Nat) (hn : 0 < n) (hn8 : n ≤ 8) : ∀ i, ∀ r ∈ (rusM L n p a i).1, okRu r ∧ ruleB n r = true
  | 0, r, h => by cases h
  | i + 1, r, h => by
    simp only [rusM] at h
    rcases List.mem_append.1 h with h | h
    · exact rusM_good L n p a hn hn8 i r h
    · simp only [List.mem_cons, List.not_mem_nil, or_false] at h
      subst h
      exact ruM_good L n p _ hn hn8
theorem madeS_good (L : List UInt8) (p : Bool) : okSp (madeS L p) ∧ rightS (madeS L p) = true := by
  unfold madeS
  generalize L.take 60 = M
  have h3 := pickV_lt (L := M) (a := 0) (n := 3) (by omega)
  have h4 := pickV_lt (L := M) (a := 3) (n := 4) (by omega)
  have hr := rusM_good M (1 + pickV M 0 3) p 4 (by omega) (by omega) (1 + pickV M 3 4)
  have hl := (rusM_at M (1 + pickV M 0 3) p 4 (1 + pickV M 3 4)).2
  have hc : ∀ (x : Bool) (k : Nat), k < 3 → ((cd3 x).take (1 + k)).length = 1 + k ∧ (((cd3 x).take (1 + k)).getD 0 ⟨[], false⟩).name = initial ∧ (((cd3 x).take (1 + k)).getD 0 ⟨[], false⟩).ex = false ∧ ((cd3 x).take (1 + k)).all (fun c => nameB c.name) = true ∧ diff (((cd3 x).take (1 + k)).map Cd.name) = true := by
    intro x k hk
    have : k = 0 ∨ k = 1 ∨ k = 2 := by omega
    rcases this with rfl | rfl | rfl <;> cases x <;> decide +kernel
  obtain ⟨c1, c2, c3, c4, c5⟩ := hc (decide (pickV M 1 2 = 1)) (pickV M 0 3) h3
  have hrs : rightS (spM M p) = true := by
    simp only [rightS, spM, c1, c2, c3, c4, c5, hl, Bool.and_eq_true, decide_eq_true_eq, List.all_eq_true, Bool.not_false, and_true, true_and]
    refine ⟨⟨⟨by omega, by omega⟩, by omega⟩, fun r h => ?_⟩
    exact (hr r h).2
  refine ⟨⟨?_, ?_, ?_, fun r h => (hr r h).1⟩, hrs⟩
  · simp only [spM, c1]; omega
  · simp only [spM, hl]; omega
  · intro c hm
    have := (rightS_spec hrs).2.2.2.1 c hm
    omega
end Go.Hk
