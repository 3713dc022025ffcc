/- What a law is handed, read ars values of the walk. -/
import Derived.Test.YtojahfdjfacgaaaHkQ23
import Derived.Test.YtojahfdjfacgaaaHkQ24
import Derived.DataReads
set_option linter.unusedSimpArgs false
set_option linter.unusedVariables false
namespace Go.Hk
open Go.ChangeShapes Go.WideShapes Go.ChangeAt Go.RowKit

/-! ### Types whose values are plain data -/
def contig (P : Program) (TS : List TypeId) : List (Bool × TypeId × Nat) → Nat → Option Nat
  | [], o => some o
  | f :: fs, o => if f.2.2 = o ∧ TS.contains f.2.1 = true then (match tiOf P f.2.1 with | some F => contig P TS fs (o + F.size) | none => none) else none
def tyOK (P : Program) (TS : List TypeId) (t : TypeId) : Bool :=
  match tiOf P t with
  | some I => (match I.k with
    | .bool => I.size == 1
    | .int _ => I.size == 1
    | .str => I.size == 1
    | .slice e => I.size == 1 && TS.contains e && (match tiOf P e with | some E => decide (0 < E.size) | none => false)
    | .arr n e => TS.contains e && (match tiOf P e with | some E => I.size == n * E.size | none => false)
    | .struct fs => contig P TS fs 0 == some I.size
    | _ => false)
  | none => false

def shpFs (p : TypeId → List AVal → Prop) : List (Bool × TypeId × Nat) → List AVal → Prop
  | [], as' => as' = []
  | f :: fs, as' => ∃ x r, as' = x ++ r ∧ p f.2.1 x ∧ shpFs p fs r
def shpN (p : List AVal → Prop) : Nat → List AVal → Prop
  | 0, as' => as' = []
  | n + 1, as' => ∃ x r, as' = x ++ r ∧ p x ∧ shpN p n r
/-- What a value's cells look like. -/
def shp (P : Program) : Nat → TypeId → List AVal → Prop
  | 0, _, _ => False
  | d + 1, t, as' =>
    match tiOf P t with
    | some I => (match I.k with
      | .bool => ∃ b, as' = [.bool b]
      | .int k => ∃ n, as' = [.int k n] ∧ (Lit.int k n).wf = true
      | .str => ∃ s, as' = [.str s] ∧ s.length ≤ maxLen
      | .slice e => ∃ xs : List (List AVal), as' = [.sl .no xs.length xs.flatten] ∧ xs.length ≤ maxLen ∧ ∀ x ∈ xs, shp P d e x
      | .arr n e => shpN (shp P d e) n as'
      | .struct fs => shpFs (shp P d) fs as'
      | _ => False)
    | none => False

/-- Cells and what they bear. -/
structure CR (κ : Cx) (as' : List AVal) (cs : List Value) : Prop where
  len : as'.length = cs.length
  vr : ∀ (j : Nat) (h : j < as'.length), VR κ as'[j] (cs.getD j undef)
  one : ∀ v ∈ cs, v.oneCell' = true

theorem CR.one1 {κ : Cx} {a : AVal} {v : Value} (h : VR κ a v) (h1 : v.oneCell' = true) : CR κ [a] [v] :=
  ⟨rfl, fun j hj => by
    have : j = 0 := by simp at hj; exact hj
    subst this; exact h, fun u hu => by simp at hu; rw [hu]; exact h1⟩
theorem CR.append {κ : Cx} {a b : List AVal} {u v : List Value} (h : CR κ a u) (k : CR κ b v) : CR κ (a ++ b) (u ++ v) where
  len := by simp [h.len, k.len]
  vr := fun j hj => by
    by_cases hja : j < a.length
    · rw [List.getElem_append_left hja, List.getD_eq_getElem?_getD, List.getElem?_append_left (by rw [← h.len]; exact hja), ← List.getD_eq_getElem?_getD]
      exact h.vr j hja
    · have hl := h.len
      rw [List.getElem_append_right (by omega), List.getD_eq_getElem?_getD, List.getElem?_append_right (by omega), ← List.getD_eq_getElem?_getD]
      have := k.vr (j - a.length) (by simp at hj; omega)
      rw [← hl]
      exact this
  one := fun w hw => by
    rcases List.mem_append.1 hw with hw | hw
    · exact h.one w hw
    · exact k.one w hw

theorem tsmem {TS : List TypeId} {t : TypeId} (h : TS.contains t = true) : t ∈ TS := List.contains_iff_mem.1 h

theorem cells_of {P : Program} {t : TypeId} {I : TI} {i : TypeInfo} {d : TypeDesc} (h : TIs P t I i d) : P.cellsOf t = I.size := by simp [Program.cellsOf, h.info, h.size]

section
variable {H : Type} {enc : TypeId × Value → H} {P : Program} {TS : List TypeId} {W : World}

/-- An array's cells, one element behind the other. -/
theorem rdN {p : List AVal → Prop} {sz : Nat} : ∀ (n : Nat) (cs : List Value), cs.length = n * sz → (∀ i, i < n → ∃ as', p as' ∧ CR (g0 W).cx as' ((cs.drop (i * sz)).take sz)) → ∃ as', shpN p n as' ∧ CR (g0 W).cx as' cs
  | 0, cs, hl, _ => by
    have : cs = [] := List.eq_nil_of_length_eq_zero (by simpa using hl)
    subst this
    exact ⟨[], rfl, rfl, fun j h => absurd h (Nat.not_lt_zero j), fun v h => by cases h⟩
  | n + 1, cs, hl, h => by
    obtain ⟨x, hx, cx⟩ := h 0 (by omega)
    have hl2 : cs.length = sz + n * sz := by rw [hl, Nat.add_mul, Nat.one_mul, Nat.add_comm]
    obtain ⟨r, hr, cr⟩ := rdN (sz := sz) n (cs.drop sz) (by simp [hl2]) fun i hi => by
      obtain ⟨y, hy, cy⟩ := h (i + 1) (by omega)
      refine ⟨y, hy, ?_⟩
      rw [List.drop_drop]
      rw [show (i + 1) * sz = sz + i * sz by rw [Nat.add_mul, Nat.one_mul, Nat.add_comm]] at cy
      exact cy
    refine ⟨x ++ r, ⟨x, r, rfl, hx, hr⟩, ?_⟩
    have := cx.append cr
    simpa using this

/-- A struct's cells, one field behind the other. -/
theorem rdF {p : TypeId → List AVal → Prop} : ∀ (fs : List (Bool × TypeId × Nat)) (o tot : Nat) (cs : List Value), contig P TS fs o = some tot → cs.length = tot →
    (∀ f ∈ fs, ∀ F, tiOf P f.2.1 = some F → f.2.1 ∈ TS → ∃ as', p f.2.1 as' ∧ CR (g0 W).cx as' ((cs.drop f.2.2).take F.size)) → o ≤ tot ∧ ∃ as', shpFs p fs as' ∧ CR (g0 W).cx as' (cs.drop o)
  | [], o, tot, cs, hc, hl, _ => by
    simp only [contig, Option.some.injEq] at hc
    subst hc
    refine ⟨Nat.le_refl _, [], rfl, ?_⟩
    rw [List.drop_eq_nil_of_le (by omega)]
    exact ⟨rfl, fun j h => absurd h (Nat.not_lt_zero j), fun v h => by cases h⟩
  | f :: fs, o, tot, cs, hc, hl, h => by
    simp only [contig] at hc
    split at hc
    · rename_i hf
      obtain ⟨hfo, hTS⟩ := hf
      cases hF : tiOf P f.2.1 with
      | none => simp [hF] at hc
      | some F =>
        simp only [hF] at hc
        obtain ⟨hle, r, hr, cr⟩ := rdF fs (o + F.size) tot cs hc hl fun g hg => h g (by simp [hg])
        obtain ⟨x, hx, cx⟩ := h f (by simp) F hF (tsmem hTS)
        rw [hfo] at cx
        refine ⟨by omega, x ++ r, ⟨x, r, rfl, hx, hr⟩, ?_⟩
        have := cx.append cr
        rw [← List.drop_drop, List.take_append_drop] at this
        exact this
    · cases hc

theorem rd_slice {p : List AVal → Prop} {sz len cap : Nat} {a : Addr} (hsz : 0 < sz) (hlc : len ≤ cap) (h : ∀ i, i < len → ∃ as' cs, p as' ∧ W.cells? 0 (a.add (i * sz)) sz = some cs ∧ CR (g0 W).cx as' cs) :
    ∃ xs : List (List AVal), xs.length = len ∧ (∀ x ∈ xs, p x) ∧ VR (g0 W).cx (.sl .no xs.length xs.flatten) (.slice (some a) len cap) := by
  by_cases h0 : len = 0
  · subst h0
    exact ⟨[], rfl, ⟨fun x hx => by simp at hx, VR.slz a cap⟩⟩
  · have hex : ∀ i : Nat, ∃ as' : List AVal, i < len → ∃ cs, p as' ∧ W.cells? 0 (a.add (i * sz)) sz = some cs ∧ CR (g0 W).cx as' cs := fun i => by
      by_cases hi : i < len
      · obtain ⟨as', cs, h1⟩ := h i hi
        exact ⟨as', fun _ => ⟨cs, h1⟩⟩
      · exact ⟨[], fun hi' => absurd hi' hi⟩
    let A : Nat → List AVal := fun i => (hex i).choose
    have hA : ∀ i, i < len → ∃ cs, p (A i) ∧ W.cells? 0 (a.add (i * sz)) sz = some cs ∧ CR (g0 W).cx (A i) cs := fun i hi => (hex i).choose_spec hi
    have hAl : ∀ i, i < len → (A i).length = sz := fun i hi => by
      obtain ⟨cs, _, h2, h3⟩ := hA i hi
      rw [h3.len, (World.cells?_some h2).2.1]
    -- lists of so many
    have flen : ∀ n, n ≤ len → (((List.range n).map A).flatten).length = n * sz := by
      intro n
      induction n with
      | zero => intro _; simp
      | succ n ih =>
        intro hn
        rw [List.range_succ, List.map_append, List.flatten_append, List.length_append, ih (by omega)]
        simp [hAl n (by omega), Nat.add_mul]
    have fget : ∀ n, n ≤ len → ∀ i j, i < n → j < sz → (((List.range n).map A).flatten)[i * sz + j]? = (A i)[j]? := by
      intro n
      induction n with
      | zero => intro _ i j hi; omega
      | succ n ih =>
        intro hn i j hi hj
        have hfl := flen n (by omega)
        rw [List.range_succ, List.map_append, List.flatten_append]
        by_cases hin : i < n
        · have : i * sz + j < n * sz := by
            have := Nat.mul_le_mul_right sz (show i + 1 ≤ n by omega)
            rw [Nat.add_mul, Nat.one_mul] at this
            omega
          rw [List.getElem?_append_left (by omega), ih (by omega) i j hin hj]
        · have : i = n := by omega
          subst this
          rw [List.getElem?_append_right (by omega), hfl]
          simp
    have hspot : a.spot = none := by
      obtain ⟨cs, _, h2, _⟩ := hA 0 (by omega)
      have := (World.cells?_some h2).2.2 0 hsz
      have hcl := (World.cells?_some h2).2.1
      have hcs : cs[0]? = some cs[0] := by simp [hcl, hsz]
      rw [hcs] at this
      unfold World.cell? at this
      split at this
      · split at this
        · cases this
        · rename_i hs
          cases hsp : a.spot with
          | none => rfl
          | some q =>
            exfalso; apply hs
            simp [Addr.add, hsp]
      · cases this
    refine ⟨(List.range len).map A, by simp, fun x hx => ?_, ?_⟩
    · obtain ⟨i, hi, rfl⟩ := List.mem_map.1 hx
      obtain ⟨cs, h1, _⟩ := hA i (by simpa using hi)
      exact h1
    · have hcell : ∀ i j, i < len → j < sz → ∃ v, W.cell? ⟨a.block, a.off + (i * sz + j), none⟩ = some v ∧ v.oneCell' = true ∧ ∃ u, (A i)[j]? = some u ∧ VR (g0 W).cx u v := by
        intro i j hi hj
        obtain ⟨cs, _, h2, h3⟩ := hA i hi
        obtain ⟨_, k2, k3⟩ := World.cells?_some h2
        have k3 := k3 j hj
        have hjc : j < cs.length := by omega
        refine ⟨cs[j], ?_, h3.one _ (List.getElem_mem _), (A i)[j]'(by rw [h3.len]; exact hjc), by simp [h3.len, hjc], ?_⟩
        · rw [List.getElem?_eq_getElem hjc] at k3
          rw [← k3]
          obtain ⟨ab, ao, asp⟩ := a
          simp only at hspot
          subst hspot
          simp only [Addr.add_lit, Nat.add_assoc]
        · have := h3.vr j (by rw [h3.len]; exact hjc)
          simpa [hjc] using this
      have hfl := flen len (Nat.le_refl _)
      let f : Nat → Value := fun j => ((W.cell? ⟨a.block, a.off + j, none⟩).getD undef)
      have hdm : ∀ j, j < len * sz → j / sz < len ∧ j % sz < sz ∧ j / sz * sz + j % sz = j := fun j hj =>
        ⟨(Nat.div_lt_iff_lt_mul hsz).2 hj, Nat.mod_lt _ hsz, by rw [Nat.mul_comm]; exact Nat.div_add_mod j sz⟩
      have e : (⟨a.block, a.off, none⟩ : Addr) = a := by
        obtain ⟨ab, ao, asp⟩ := a
        simp only at hspot
        subst hspot; rfl
      have := VR.sl (κ := (g0 W).cx) .no len (((List.range len).map A).flatten) a.block a.off cap f hlc (fun j hj => by
        obtain ⟨q1, q2, q3⟩ := hdm j (by omega)
        obtain ⟨v, v1, v2, _⟩ := hcell _ _ q1 q2
        rw [q3] at v1
        show (g0 W).cx.cell _ _ _
        have : f j = v := by simp [f, v1]
        rw [this]
        exact g0_cell v1 v2) (fun j hj => by
        obtain ⟨q1, q2, q3⟩ := hdm j (by omega)
        obtain ⟨v, v1, v2, u, u1, u2⟩ := hcell _ _ q1 q2
        have hg := fget len (Nat.le_refl _) _ _ q1 q2
        rw [q3] at v1 hg
        have : f j = v := by simp [f, v1]
        rw [this]
        rw [u1, List.getElem?_eq_getElem hj] at hg
        rw [Option.some.inj hg]
        exact u2) trivial
      rw [e] at this
      simpa using this

theorem rd (hT : TS.all (tyOK P TS) = true) : ∀ (fuel : Nat) (t : TypeId) (cs : List Value) (x : DataW H × List MemPlace), t ∈ TS → DataW.trod enc P W 0 (fun _ => true) true fuel t cs = some x →
    ∃ as', shp P fuel t as' ∧ CR (g0 W).cx as' cs ∧ ∀ I, tiOf P t = some I → cs.length = I.size := by
  intro fuel
  induction fuel with
  | zero => intro t cs x _ h; simp [DataW.trod] at h
  | succ fuel ih =>
    intro t cs x ht h
    have hty := List.all_eq_true.1 hT t ht
    unfold tyOK at hty
    cases hI : tiOf P t with
    | none => simp [hI] at hty
    | some I =>
      simp only [hI] at hty
      obtain ⟨i, d, hi⟩ := tiOf_spec hI
      have hk := hi.k
      have hu := hi.under
      have hco := cells_of hi
      cases hkk : I.k <;> simp only [hkk, Bool.false_eq_true] at hty <;> rw [hkk] at hk
      case bool =>
        have := tk_bool hk; subst this
        obtain ⟨b, rfl, _⟩ := DataW.trod_bool hu h
        exact ⟨[.bool b], by simp only [shp, hI, hkk]; exact ⟨b, rfl⟩, .one1 (.bool b) rfl, fun J hJ => by cases hJ; simp at hty; simp [hty]⟩
      case int k =>
        have := tk_int hk; subst this
        obtain ⟨n, rfl, _, hw⟩ := DataW.trod_int hu h
        exact ⟨[.int k n], by simp only [shp, hI, hkk]; exact ⟨n, rfl, hw⟩, .one1 (.int k n) rfl, fun J hJ => by cases hJ; simp at hty; simp [hty]⟩
      case str =>
        have := tk_str hk; subst this
        obtain ⟨s, rfl, _, hs⟩ := DataW.trod_string hu h
        have e : s = ⟨s.data.toList.toArray⟩ := by cases s; simp
        refine ⟨[.str s.data.toList], by simp only [shp, hI, hkk]; exact ⟨_, rfl, by rw [Array.length_toList]; exact hs⟩, .one1 (a := .str s.data.toList) ?_ rfl, fun J hJ => by cases hJ; simp at hty; simp [hty]⟩
        have := VR.str (κ := (g0 W).cx) s.data.toList
        rw [← e] at this
        exact this
      case slice e =>
        have := tk_slice hk; subst this
        simp only [Bool.and_eq_true, beq_iff_eq] at hty
        obtain ⟨⟨hs1, hTe⟩, hE⟩ := hty
        cases hEI : tiOf P e with
        | none => simp [hEI] at hE
        | some E =>
          simp only [hEI, decide_eq_true_eq] at hE
          obtain ⟨i', d', hi'⟩ := tiOf_spec hEI
          have hce := cells_of hi'
          rcases DataW.trod_slice hu h with ⟨rfl, _⟩ | ⟨a, len, cap, elems, rest, n, hn, rfl, _, hb, hlc, hcm, hel, hget, _⟩
          · refine ⟨[.sl .no 0 []], by simp only [shp, hI, hkk]; exact ⟨[], rfl, Nat.zero_le _, fun x hx => by simp at hx⟩, .one1 (.slnil .no trivial) rfl, fun J hJ => by cases hJ; simp [hs1]⟩
          · cases hn
            obtain ⟨xs, x1, x2, x3⟩ := rd_slice (W := W) (p := shp P fuel e) (sz := E.size) (a := a) (len := len) (cap := cap) hE hlc (fun i hil => by
              have := hget i hil
              rw [hce] at this
              cases hc : W.cells? 0 (a.add (i * E.size)) E.size with
              | none =>
                rw [hc] at this
                have : elems[i]? = none := this.symm
                rw [List.getElem?_eq_none_iff] at this
                omega
              | some cs' =>
                rw [hc] at this
                have hil' : i < elems.length := by omega
                have h2 : DataW.trod enc P W 0 (fun _ => true) true fuel e cs' = some elems[i] := by
                  rw [List.getElem?_eq_getElem hil'] at this; exact this
                obtain ⟨as', s1, s2, _⟩ := ih e cs' _ (tsmem hTe) h2
                exact ⟨as', cs', s1, rfl, s2⟩)
            exact ⟨[.sl .no xs.length xs.flatten], by simp only [shp, hI, hkk]; exact ⟨xs, rfl, by omega, x2⟩, .one1 x3 rfl, fun J hJ => by cases hJ; simp [hs1]⟩
      case arr n e =>
        have := tk_arr hk; subst this
        simp only [Bool.and_eq_true] at hty
        obtain ⟨hTe, hE⟩ := hty
        cases hEI : tiOf P e with
        | none => simp [hEI] at hE
        | some E =>
          simp only [hEI, beq_iff_eq] at hE
          obtain ⟨i', d', hi'⟩ := tiOf_spec hEI
          have hce := cells_of hi'
          obtain ⟨xs, m, hm, _, hl, hxl, hget⟩ := DataW.trod_array hu h
          cases hm
          rw [hco] at hl
          obtain ⟨as', a1, a2⟩ := rdN (W := W) (p := shp P fuel e) (sz := E.size) n cs (by omega) (fun i hin => by
            have := hget i hin
            rw [hce] at this
            have hil' : i < xs.length := by omega
            rw [List.getElem?_eq_getElem hil'] at this
            obtain ⟨as', s1, s2, _⟩ := ih e _ _ (tsmem hTe) this
            exact ⟨as', s1, s2⟩)
          exact ⟨as', by simp only [shp, hI, hkk]; exact a1, a2, fun J hJ => by cases hJ; exact hl⟩
      case struct fs =>
        obtain ⟨gs, hd, hfs⟩ := tk_struct hk
        subst hd
        simp only [beq_iff_eq] at hty
        obtain ⟨xs, m, hm, _, hl, hxl, hget⟩ := DataW.trod_struct hu h
        cases hm
        rw [hco] at hl
        obtain ⟨_, as', a1, a2⟩ := rdF (W := W) (TS := TS) (p := shp P fuel) fs 0 I.size cs hty hl (fun f hf F hF hTf => by
          rw [hfs] at hf
          obtain ⟨g, hg, rfl⟩ := List.mem_map.1 hf
          obtain ⟨j, hj, hgj⟩ := List.mem_iff_getElem.1 hg
          have hj' : j < gs.size := by simpa using hj
          have hgj' : gs[j]? = some g := by simp [hj', ← hgj]
          have := hget j g hgj'
          obtain ⟨i', d', hi'⟩ := tiOf_spec hF
          rw [cells_of hi', List.getElem?_eq_getElem (by omega)] at this
          obtain ⟨as', s1, s2, _⟩ := ih _ _ _ hTf this
          exact ⟨as', s1, s2⟩)
        exact ⟨as', by simp only [shp, hI, hkk]; exact a1, by simpa using a2, fun J hJ => by cases hJ; exact hl⟩

/-- What a parameter is handed. -/
theorem arg_rd (hT : TS.all (tyOK P TS) = true) {t : TypeId} (ht : TS.contains t = true) {I : TI} (hI : tiOf P t = some I) {base : Nat} {v : Value} {d : DataW H} {p : List MemPlace}
    (hv : Value.okWide P W .any base t v) (h : DataW.Trod enc P W 0 (fun _ => true) true t v d p) : ∃ fuel as', shp P fuel t as' ∧ VR (g0 W).cx (if I.k.agg = true then .agg as' else as'.headD .dead) v := by
  obtain ⟨fuel, hf⟩ := h
  obtain ⟨as', h1, h2, h3⟩ := rd hT fuel t _ _ (tsmem ht) hf
  refine ⟨fuel, as', h1, ?_⟩
  have h3 := h3 I hI
  obtain ⟨i, dd, hi⟩ := tiOf_spec hI
  have hk := hi.k
  have hagg := tk_agg dd
  rw [← hk] at hagg
  unfold Value.okWide at hv
  rw [hi.under] at hv
  have hty := List.all_eq_true.1 hT t (tsmem ht)
  unfold tyOK at hty
  simp only [hI] at hty
  cases hkk : I.k <;> simp only [hkk, Bool.false_eq_true] at hty <;> rw [hkk] at hk
  case arr n e =>
    have := tk_arr hk; subst this
    obtain ⟨cs, rfl, hsz, _⟩ := hv
    simp only [TK.agg, if_true]
    exact .agg as' cs (by simpa [Value.cells] using h2.len.symm) (fun j hj => by simpa [Value.cells, Array.getD_eq_getD_getElem?, List.getD_eq_getElem?_getD] using h2.vr j hj) (fun j hj => by
      have hl := h2.len
      simp only [Value.cells, Array.length_toList] at hl
      have hj' : j < cs.size := by omega
      have := h2.one cs[j] (by simp [Value.cells])
      simpa [Array.getD_eq_getD_getElem?, hj'] using this)
  case struct fs =>
    obtain ⟨gs, hd, _⟩ := tk_struct hk
    subst hd
    obtain ⟨cs, rfl, hsz, _⟩ := hv
    simp only [TK.agg, if_true]
    exact .agg as' cs (by simpa [Value.cells] using h2.len.symm) (fun j hj => by simpa [Value.cells, Array.getD_eq_getD_getElem?, List.getD_eq_getElem?_getD] using h2.vr j hj) (fun j hj => by
      have hl := h2.len
      simp only [Value.cells, Array.length_toList] at hl
      have hj' : j < cs.size := by omega
      have := h2.one cs[j] (by simp [Value.cells])
      simpa [Array.getD_eq_getD_getElem?, hj'] using this)
  all_goals
    have key : v.cells = #[v] → VR (g0 W).cx (as'.headD .dead) v := fun hc => by
      have hl := h2.len
      rw [hc] at hl
      match as', hl with
      | [a], _ =>
        have := h2.vr 0 (by simp)
        rw [hc] at this
        simpa using this
    simp only [TK.agg, Bool.false_eq_true, if_false]
    refine key ?_
    first
      | (have := tk_bool hk; subst this; cases v <;> first | rfl | (exfalso; simp [Cell.okWide, Cell.ok, hi.under] at hv))
      | (have := tk_int hk; subst this; cases v <;> first | rfl | (exfalso; simp [Cell.okWide, Cell.ok, hi.under] at hv))
      | (have := tk_str hk; subst this; cases v <;> first | rfl | (exfalso; simp [Cell.okWide, Cell.ok, hi.under] at hv))
      | (have := tk_slice hk; subst this; cases v <;> first | rfl | (exfalso; simp [Cell.okWide, Cell.ok, hi.under] at hv))
end
end Go.Hk
