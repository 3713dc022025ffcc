import Derived.Test.YtdimacffjdpkfaaGreatHkQ14
import Derived.Carry
import Derived.OpenShut
import Derived.SizedLaws
import Derived.ChangeOld
import Derived.ProofKit
import Derived.Laws.IdiomArrays
import Derived.Test.YtdimacffjdpkfaaGreatHkQ15
import Derived.DataReads
set_option linter.unusedSimpArgs false
namespace Go.Hk
open Go.ChangeShapes Go.WideShapes Go.ChangeAt Go.RowKit

def g0 (W : World) : Ghost := { bad := fun _ _ => False, lo := W.heap.size, S := ⟨[], []⟩, ι := ⟨fun _ => 0, fun _ => 0, fun _ => 0, fun _ => none, fun _ => 0⟩, w := W }
theorem rl_g0 (W : World) : Rl (g0 W) where
  lo := Nat.le_refl _
  bad := fun _ _ h => h.elim
  objs := fun b x h => by simp [g0] at h
  its := fun b mb l c h => by simp [g0] at h
  toks := fun t g h => absurd h (empty_notok rfl)
  own := fun g h => absurd h (empty_noown rfl)
  hh := fun b b' g h => absurd h (empty_noblk rfl)
  ht := fun b t g h => absurd h (empty_noblk rfl)
  tt := fun t t' g h => absurd h (empty_notok rfl)
theorem g0_cell {W : World} {g o : Nat} {v : Value} (h : W.cell? ⟨g, o, none⟩ = some v) (h1 : v.oneCell' = true) : (g0 W).cx.cell g o v :=
  ⟨h, h1, fun h => h.elim, fun _ hb => empty_noblk rfl hb, fun _ ht => absurd ht (empty_notok rfl)⟩

theorem PCall.law {P : Program} {f : FuncId} {ars : List AVal} {vals : Array Value} {W : World} (h : PCall P f ars (.bool true)) (hv : VRs (g0 W).cx ars vals) :
    Calls P f vals W fun e W' => e = .returned (.bool true) ∧ Below W.heap.size W W' := by
  refine (h.2 (g0 W) vals (rl_g0 W) rfl hv).mono ?_
  rintro e w' ⟨v, γ', rfl, rfl, _, hext, _, hvr⟩
  cases hvr
  exact ⟨rfl, (ext_empty_grow (γ := g0 W) rfl (Nat.le_refl _) hext).toBelow⟩

section
variable {H : Type} {enc : TypeId × Value → H} {P : Program}

theorem trodAll_stays (hl : laidOutB P = true) {W W' : World} (hb : Below W.heap.size W W') : ∀ {ts : List TypeId} {vs : List Value} {ds : List (DataW H)} {ps : List MemPlace},
    (ts.all fun t => P.readableRec t && decide (t < P.types.size)) = true → DataW.TrodAll enc P W 0 (fun _ => true) true ts vs ds ps → DataW.TrodAll enc P W' 0 (fun b => decide (b < W.heap.size)) true ts vs ds ps
  | [], vs, ds, ps, _, h => by
    obtain ⟨rfl, rfl, rfl⟩ := trodAll_nil h
    exact trodAll_mk0
  | t :: ts, vs, ds, ps, ht, h => by
    obtain ⟨v, vs, d, ds, p, q, rfl, rfl, rfl, h1, h2⟩ := trodAll_cons h
    simp only [List.all_cons, Bool.and_eq_true, decide_eq_true_eq] at ht
    refine trodAll_cons_mk (Below.trod hl ht.1.1 ht.1.2 h1 hb ?_) (trodAll_stays hl hb ht.2 h2)
    obtain ⟨m, hm⟩ := h1
    exact DataW.trod_lt m _ _ _ hm

theorem vrs_of {κ : Cx} {ars : List AVal} {vs : List Value} (hl : vs.length = ars.length) (h : ∀ (j : Nat) (hj : j < ars.length), VR κ ars[j] (vs.getD j undef)) : VRs κ ars vs.toArray :=
  ⟨by simpa using hl, fun j hj => by simpa [Array.getD_eq_getD_getElem?, List.getD_eq_getElem?_getD] using h j hj⟩
inductive VRL (κ : Cx) : List AVal → List Value → Prop
  | nil : VRL κ [] []
  | cons {a : AVal} {v : Value} {ars : List AVal} {vs : List Value} (h : VR κ a v) (k : VRL κ ars vs) : VRL κ (a :: ars) (v :: vs)
theorem VRL.vrs {κ : Cx} {ars : List AVal} {args : Array Value} (h : VRL κ ars args.toList) : VRs κ ars args := by
  have key : ∀ {ars : List AVal} {vs : List Value}, VRL κ ars vs → vs.length = ars.length ∧ ∀ (j : Nat) (hj : j < ars.length), VR κ ars[j] (vs.getD j undef) := by
    intro ars vs h
    induction h with
    | nil => exact ⟨rfl, fun j h => absurd h (Nat.not_lt_zero j)⟩
    | cons h k ih =>
      refine ⟨by simp [ih.1], fun j hj => ?_⟩
      cases j with
      | zero => exact h
      | succ j => exact ih.2 j (Nat.lt_of_succ_lt_succ hj)
  obtain ⟨h1, h2⟩ := key h
  have := vrs_of h1 h2
  simpa using this
end
end Go.Hk
set_option linter.unusedVariables false
namespace Go.Hk
open Go.ChangeShapes Go.WideShapes Go.ChangeAt Go.RowKit

def contig (P : Program) (TS : List TypeId) : List (Bool × TypeId × Nat) → Nat → Option Nat
  | [], o => some o
  | f :: fs, o => if f.2.2 = o ∧ TS.contains f.2.1 = true then (match tiOf P f.2.1 with | some F => contig P TS fs (o + F.size) | none => none) else none
def tyOK (P : Program) (TS : List TypeId) (t : TypeId) : Bool :=
  match tiOf P t with
  | some I => (match I.k with
    | .bool => I.size == 1
    | .int _ => I.size == 1
    | .str => I.size == 1
    | .slice e => I.size == 1 && TS.contains e && (match tiOf P e with | some E => decide (0 < E.size) | none => false)
    | .arr n e => TS.contains e && (match tiOf P e with | some E => I.size == n * E.size | none => false)
    | .struct fs => contig P TS fs 0 == some I.size
    | _ => false)
  | none => false

def shpFs (p : TypeId → List AVal → Prop) : List (Bool × TypeId × Nat) → List AVal → Prop
  | [], as' => as' = []
  | f :: fs, as' => ∃ x r, as' = x ++ r ∧ p f.2.1 x ∧ shpFs p fs r
def shpN (p : List AVal → Prop) : Nat → List AVal → Prop
  | 0, as' => as' = []
  | n + 1, as' => ∃ x r, as' = x ++ r ∧ p x ∧ shpN p n r
def shp (P : Program) : Nat → TypeId → List AVal → Prop
  | 0, _, _ => False
  | d + 1, t, as' =>
    match tiOf P t with
    | some I => (match I.k with
      | .bool => ∃ b, as' = [.bool b]
      | .int k => ∃ n, as' = [.int k n] ∧ (Lit.int k n).wf = true
      | .str => ∃ s, as' = [.str s] ∧ s.length ≤ maxLen
      | .slice e => ∃ xs : List (List AVal), as' = [.sl .no xs.length xs.flatten] ∧ xs.length ≤ maxLen ∧ ∀ x ∈ xs, shp P d e x
      | .arr n e => shpN (shp P d e) n as'
      | .struct fs => shpFs (shp P d) fs as'
      | _ => False)
    | none => False

structure CR (κ : Cx) (as' : List AVal) (cs : List Value) : Prop where
  len : as'.length = cs.length
  vr : ∀ (j : Nat) (h : j < as'.length), VR κ as'[j] (cs.getD j undef)
  one : ∀ v ∈ cs, v.oneCell' = true

theorem CR.one1 {κ : Cx} {a : AVal} {v : Value} (h : VR κ a v) (h1 : v.oneCell' = true) : CR κ [a] [v] :=
  ⟨rfl, fun j hj => by
    have : j = 0 := by simp at hj; exact hj
    subst this; exact h, fun u hu => by simp at hu; rw [hu]; exact h1⟩
theorem CR.append {κ : Cx} {a b : List AVal} {u v : List Value} (h : CR κ a u) (k : CR κ b v) : CR κ (a ++ b) (u ++ v) where
  len := by simp [h.len, k.len]
  vr := fun j hj => by
    by_cases hja : j < a.length
    · rw [List.getElem_append_left hja, List.getD_eq_getElem?_getD, List.getElem?_append_left (by rw [← h.len]; exact hja), ← List.getD_eq_getElem?_getD]
      exact h.vr j hja
    · have hl := h.len
      rw [List.getElem_append_right (by omega), List.getD_eq_getElem?_getD, List.getElem?_append_right (by omega), ← List.getD_eq_getElem?_getD]
      have := k.vr (j - a.length) (by simp at hj; omega)
      rw [← hl]
      exact this
  one := fun w hw => by
    rcases List.mem_append.1 hw with hw | hw
    · exact h.one w hw
    · exact k.one w hw

theorem tsmem {TS : List TypeId} {t : TypeId} (h : TS.contains t = true) : t ∈ TS := List.contains_iff_mem.1 h

theorem cells_of {P : Program} {t : TypeId} {I : TI} {i : TypeInfo} {d : TypeDesc} (h : TIs P t I i d) : P.cellsOf t = I.size := by simp [Program.cellsOf, h.info, h.size]

section
variable {H : Type} {enc : TypeId × Value → H} {P : Program} {TS : List TypeId} {W : World}

theorem rdN {p : List AVal → Prop} {sz : Nat} : ∀ (n : Nat) (cs : List Value), cs.length = n * sz → (∀ i, i < n → ∃ as', p as' ∧ CR (g0 W).cx as' ((cs.drop (i * sz)).take sz)) → ∃ as', shpN p n as' ∧ CR (g0 W).cx as' cs
  | 0, cs, hl, _ => by
    have : cs = [] := List.eq_nil_of_length_eq_zero (by simpa using hl)
    subst this
    exact ⟨[], rfl, rfl, fun j h => absurd h (Nat.not_lt_zero j), fun v h => by cases h⟩
  | n + 1, cs, hl, h => by
    obtain ⟨x, hx, cx⟩ := h 0 (by omega)
    have hl2 : cs.length = sz + n * sz := by rw [hl, Nat.add_mul, Nat.one_mul, Nat.add_comm]
    obtain ⟨r, hr, cr⟩ := rdN (sz := sz) n (cs.drop sz) (by simp [hl2]) fun i hi => by
      obtain ⟨y, hy, cy⟩ := h (i + 1) (by omega)
      refine ⟨y, hy, ?_⟩
      rw [List.drop_drop]
      rw [show (i + 1) * sz = sz + i * sz by rw [Nat.add_mul, Nat.one_mul, Nat.add_comm]] at cy
      exact cy
    refine ⟨x ++ r, ⟨x, r, rfl, hx, hr⟩, ?_⟩
    have := cx.append cr
    simpa using this

theorem rdF {p : TypeId → List AVal → Prop} : ∀ (fs : List (Bool × TypeId × Nat)) (o tot : Nat) (cs : List Value), contig P TS fs o = some tot → cs.length = tot →
    (∀ f ∈ fs, ∀ F, tiOf P f.2.1 = some F → f.2.1 ∈ TS → ∃ as', p f.2.1 as' ∧ CR (g0 W).cx as' ((cs.drop f.2.2).take F.size)) → o ≤ tot ∧ ∃ as', shpFs p fs as' ∧ CR (g0 W).cx as' (cs.drop o)
  | [], o, tot, cs, hc, hl, _ => by
    simp only [contig, Option.some.injEq] at hc
    subst hc
    refine ⟨Nat.le_refl _, [], rfl, ?_⟩
    rw [List.drop_eq_nil_of_le (by omega)]
    exact ⟨rfl, fun j h => absurd h (Nat.not_lt_zero j), fun v h => by cases h⟩
  | f :: fs, o, tot, cs, hc, hl, h => by
    simp only [contig] at hc
    split at hc
    · rename_i hf
      obtain ⟨hfo, hTS⟩ := hf
      cases hF : tiOf P f.2.1 with
      | none => simp [hF] at hc
      | some F =>
        simp only [hF] at hc
        obtain ⟨hle, r, hr, cr⟩ := rdF fs (o + F.size) tot cs hc hl fun g hg => h g (by simp [hg])
        obtain ⟨x, hx, cx⟩ := h f (by simp) F hF (tsmem hTS)
        rw [hfo] at cx
        refine ⟨by omega, x ++ r, ⟨x, r, rfl, hx, hr⟩, ?_⟩
        have := cx.append cr
        rw [← List.drop_drop, List.take_append_drop] at this
        exact this
    · cases hc

theorem rd_slice {p : List AVal → Prop} {sz len cap : Nat} {a : Addr} (hsz : 0 < sz) (hlc : len ≤ cap) (h : ∀ i, i < len → ∃ as' cs, p as' ∧ W.cells? 0 (a.add (i * sz)) sz = some cs ∧ CR (g0 W).cx as' cs) :
    ∃ xs : List (List AVal), xs.length = len ∧ (∀ x ∈ xs, p x) ∧ VR (g0 W).cx (.sl .no xs.length xs.flatten) (.slice (some a) len cap) := by
  by_cases h0 : len = 0
  · subst h0
    exact ⟨[], rfl, ⟨fun x hx => by simp at hx, VR.slz a cap⟩⟩
  · have hex : ∀ i : Nat, ∃ as' : List AVal, i < len → ∃ cs, p as' ∧ W.cells? 0 (a.add (i * sz)) sz = some cs ∧ CR (g0 W).cx as' cs := fun i => by
      by_cases hi : i < len
      · obtain ⟨as', cs, h1⟩ := h i hi
        exact ⟨as', fun _ => ⟨cs, h1⟩⟩
      · exact ⟨[], fun hi' => absurd hi' hi⟩
    let A : Nat → List AVal := fun i => (hex i).choose
    have hA : ∀ i, i < len → ∃ cs, p (A i) ∧ W.cells? 0 (a.add (i * sz)) sz = some cs ∧ CR (g0 W).cx (A i) cs := fun i hi => (hex i).choose_spec hi
    have hAl : ∀ i, i < len → (A i).length = sz := fun i hi => by
      obtain ⟨cs, _, h2, h3⟩ := hA i hi
      rw [h3.len, (World.cells?_some h2).2.1]
    have flen : ∀ n, n ≤ len → (((List.range n).map A).flatten).length = n * sz := by
      intro n
      induction n with
      | zero => intro _; simp
      | succ n ih =>
        intro hn
        rw [List.range_succ, List.map_append, List.flatten_append, List.length_append, ih (by omega)]
        simp [hAl n (by omega), Nat.add_mul]
    have fget : ∀ n, n ≤ len → ∀ i j, i < n → j < sz → (((List.range n).map A).flatten)[i * sz + j]? = (A i)[j]? := by
      intro n
      induction n with
      | zero => intro _ i j hi; omega
      | succ n ih =>
        intro hn i j hi hj
        have hfl := flen n (by omega)
        rw [List.range_succ, List.map_append, List.flatten_append]
        by_cases hin : i < n
        · have : i * sz + j < n * sz := by
            have := Nat.mul_le_mul_right sz (show i + 1 ≤ n by omega)
            rw [Nat.add_mul, Nat.one_mul] at this
            omega
          rw [List.getElem?_append_left (by omega), ih (by omega) i j hin hj]
        · have : i = n := by omega
          subst this
          rw [List.getElem?_append_right (by omega), hfl]
          simp
    have hspot : a.spot = none := by
      obtain ⟨cs, _, h2, _⟩ := hA 0 (by omega)
      have := (World.cells?_some h2).2.2 0 hsz
      have hcl := (World.cells?_some h2).2.1
      have hcs : cs[0]? = some cs[0] := by simp [hcl, hsz]
      rw [hcs] at this
      unfold World.cell? at this
      split at this
      · split at this
        · cases this
        · rename_i hs
          cases hsp : a.spot with
          | none => rfl
          | some q =>
            exfalso; apply hs
            simp [Addr.add, hsp]
      · cases this
    refine ⟨(List.range len).map A, by simp, fun x hx => ?_, ?_⟩
    · obtain ⟨i, hi, rfl⟩ := List.mem_map.1 hx
      obtain ⟨cs, h1, _⟩ := hA i (by simpa using hi)
      exact h1
    · have hcell : ∀ i j, i < len → j < sz → ∃ v, W.cell? ⟨a.block, a.off + (i * sz + j), none⟩ = some v ∧ v.oneCell' = true ∧ ∃ u, (A i)[j]? = some u ∧ VR (g0 W).cx u v := by
        intro i j hi hj
        obtain ⟨cs, _, h2, h3⟩ := hA i hi
        obtain ⟨_, k2, k3⟩ := World.cells?_some h2
        have k3 := k3 j hj
        have hjc : j < cs.length := by omega
        refine ⟨cs[j], ?_, h3.one _ (List.getElem_mem _), (A i)[j]'(by rw [h3.len]; exact hjc), by simp [h3.len, hjc], ?_⟩
        · rw [List.getElem?_eq_getElem hjc] at k3
          rw [← k3]
          obtain ⟨ab, ao, asp⟩ := a
          simp only at hspot
          subst hspot
          simp only [Addr.add_lit, Nat.add_assoc]
        · have := h3.vr j (by rw [h3.len]; exact hjc)
          simpa [hjc] using this
      have hfl := flen len (Nat.le_refl _)
      let f : Nat → Value := fun j => ((W.cell? ⟨a.block, a.off + j, none⟩).getD undef)
      have hdm : ∀ j, j < len * sz → j / sz < len ∧ j % sz < sz ∧ j / sz * sz + j % sz = j := fun j hj =>
        ⟨(Nat.div_lt_iff_lt_mul hsz).2 hj, Nat.mod_lt _ hsz, by rw [Nat.mul_comm]; exact Nat.div_add_mod j sz⟩
      have e : (⟨a.block, a.off, none⟩ : Addr) = a := by
        obtain ⟨ab, ao, asp⟩ := a
        simp only at hspot
        subst hspot; rfl
      have := VR.sl (κ := (g0 W).cx) .no len (((List.range len).map A).flatten) a.block a.off cap f hlc (fun j hj => by
        obtain ⟨q1, q2, q3⟩ := hdm j (by omega)
        obtain ⟨v, v1, v2, _⟩ := hcell _ _ q1 q2
        rw [q3] at v1
        show (g0 W).cx.cell _ _ _
        have : f j = v := by simp [f, v1]
        rw [this]
        exact g0_cell v1 v2) (fun j hj => by
        obtain ⟨q1, q2, q3⟩ := hdm j (by omega)
        obtain ⟨v, v1, v2, u, u1, u2⟩ := hcell _ _ q1 q2
        have hg := fget len (Nat.le_refl _) _ _ q1 q2
        rw [q3] at v1 hg
        have : f j = v := by simp [f, v1]
        rw [this]
        rw [u1, List.getElem?_eq_getElem hj] at hg
        rw [Option.some.inj hg]
        exact u2) trivial
      rw [e] at this
      simpa using this

theorem rd (hT : TS.all (tyOK P TS) = true) : ∀ (fuel : Nat) (t : TypeId) (cs : List Value) (x : DataW H × List MemPlace), t ∈ TS → DataW.trod enc P W 0 (fun _ => true) true fuel t cs = some x →
    ∃ as', shp P fuel t as' ∧ CR (g0 W).cx as' cs ∧ ∀ I, tiOf P t = some I → cs.length = I.size := by
  intro fuel
  induction fuel with
  | zero => intro t cs x _ h; simp [DataW.trod] at h
  | succ fuel ih =>
    intro t cs x ht h
    have hty := List.all_eq_true.1 hT t ht
    unfold tyOK at hty
    cases hI : tiOf P t with
    | none => simp [hI] at hty
    | some I =>
      simp only [hI] at hty
      obtain ⟨i, d, hi⟩ := tiOf_spec hI
      have hk := hi.k
      have hu := hi.under
      have hco := cells_of hi
      cases hkk : I.k <;> simp only [hkk, Bool.false_eq_true] at hty <;> rw [hkk] at hk
      case bool =>
        have := tk_bool hk; subst this
        obtain ⟨b, rfl, _⟩ := DataW.trod_bool hu h
        exact ⟨[.bool b], by simp only [shp, hI, hkk]; exact ⟨b, rfl⟩, .one1 (.bool b) rfl, fun J hJ => by cases hJ; simp at hty; simp [hty]⟩
      case int k =>
        have := tk_int hk; subst this
        obtain ⟨n, rfl, _, hw⟩ := DataW.trod_int hu h
        exact ⟨[.int k n], by simp only [shp, hI, hkk]; exact ⟨n, rfl, hw⟩, .one1 (.int k n) rfl, fun J hJ => by cases hJ; simp at hty; simp [hty]⟩
      case str =>
        have := tk_str hk; subst this
        obtain ⟨s, rfl, _, hs⟩ := DataW.trod_string hu h
        have e : s = ⟨s.data.toList.toArray⟩ := by cases s; simp
        refine ⟨[.str s.data.toList], by simp only [shp, hI, hkk]; exact ⟨_, rfl, by rw [Array.length_toList]; exact hs⟩, .one1 (a := .str s.data.toList) ?_ rfl, fun J hJ => by cases hJ; simp at hty; simp [hty]⟩
        have := VR.str (κ := (g0 W).cx) s.data.toList
        rw [← e] at this
        exact this
      case slice e =>
        have := tk_slice hk; subst this
        simp only [Bool.and_eq_true, beq_iff_eq] at hty
        obtain ⟨⟨hs1, hTe⟩, hE⟩ := hty
        cases hEI : tiOf P e with
        | none => simp [hEI] at hE
        | some E =>
          simp only [hEI, decide_eq_true_eq] at hE
          obtain ⟨i', d', hi'⟩ := tiOf_spec hEI
          have hce := cells_of hi'
          rcases DataW.trod_slice hu h with ⟨rfl, _⟩ | ⟨a, len, cap, elems, rest, n, hn, rfl, _, hb, hlc, hcm, hel, hget, _⟩
          · refine ⟨[.sl .no 0 []], by simp only [shp, hI, hkk]; exact ⟨[], rfl, Nat.zero_le _, fun x hx => by simp at hx⟩, .one1 (.slnil .no trivial) rfl, fun J hJ => by cases hJ; simp [hs1]⟩
          · cases hn
            obtain ⟨xs, x1, x2, x3⟩ := rd_slice (W := W) (p := shp P fuel e) (sz := E.size) (a := a) (len := len) (cap := cap) hE hlc (fun i hil => by
              have := hget i hil
              rw [hce] at this
              cases hc : W.cells? 0 (a.add (i * E.size)) E.size with
              | none =>
                rw [hc] at this
                have : elems[i]? = none := this.symm
                rw [List.getElem?_eq_none_iff] at this
                omega
              | some cs' =>
                rw [hc] at this
                have hil' : i < elems.length := by omega
                have h2 : DataW.trod enc P W 0 (fun _ => true) true fuel e cs' = some elems[i] := by
                  rw [List.getElem?_eq_getElem hil'] at this; exact this
                obtain ⟨as', s1, s2, _⟩ := ih e cs' _ (tsmem hTe) h2
                exact ⟨as', cs', s1, rfl, s2⟩)
            exact ⟨[.sl .no xs.length xs.flatten], by simp only [shp, hI, hkk]; exact ⟨xs, rfl, by omega, x2⟩, .one1 x3 rfl, fun J hJ => by cases hJ; simp [hs1]⟩
      case arr n e =>
        have := tk_arr hk; subst this
        simp only [Bool.and_eq_true] at hty
        obtain ⟨hTe, hE⟩ := hty
        cases hEI : tiOf P e with
        | none => simp [hEI] at hE
        | some E =>
          simp only [hEI, beq_iff_eq] at hE
          obtain ⟨i', d', hi'⟩ := tiOf_spec hEI
          have hce := cells_of hi'
          obtain ⟨xs, m, hm, _, hl, hxl, hget⟩ := DataW.trod_array hu h
          cases hm
          rw [hco] at hl
          obtain ⟨as', a1, a2⟩ := rdN (W := W) (p := shp P fuel e) (sz := E.size) n cs (by omega) (fun i hin => by
            have := hget i hin
            rw [hce] at this
            have hil' : i < xs.length := by omega
            rw [List.getElem?_eq_getElem hil'] at this
            obtain ⟨as', s1, s2, _⟩ := ih e _ _ (tsmem hTe) this
            exact ⟨as', s1, s2⟩)
          exact ⟨as', by simp only [shp, hI, hkk]; exact a1, a2, fun J hJ => by cases hJ; exact hl⟩
      case struct fs =>
        obtain ⟨gs, hd, hfs⟩ := tk_struct hk
        subst hd
        simp only [beq_iff_eq] at hty
        obtain ⟨xs, m, hm, _, hl, hxl, hget⟩ := DataW.trod_struct hu h
        cases hm
        rw [hco] at hl
        obtain ⟨_, as', a1, a2⟩ := rdF (W := W) (TS := TS) (p := shp P fuel) fs 0 I.size cs hty hl (fun f hf F hF hTf => by
          rw [hfs] at hf
          obtain ⟨g, hg, rfl⟩ := List.mem_map.1 hf
          obtain ⟨j, hj, hgj⟩ := List.mem_iff_getElem.1 hg
          have hj' : j < gs.size := by simpa using hj
          have hgj' : gs[j]? = some g := by simp [hj', ← hgj]
          have := hget j g hgj'
          obtain ⟨i', d', hi'⟩ := tiOf_spec hF
          rw [cells_of hi', List.getElem?_eq_getElem (by omega)] at this
          obtain ⟨as', s1, s2, _⟩ := ih _ _ _ hTf this
          exact ⟨as', s1, s2⟩)
        exact ⟨as', by simp only [shp, hI, hkk]; exact a1, by simpa using a2, fun J hJ => by cases hJ; exact hl⟩

theorem arg_rd (hT : TS.all (tyOK P TS) = true) {t : TypeId} (ht : TS.contains t = true) {I : TI} (hI : tiOf P t = some I) {base : Nat} {v : Value} {d : DataW H} {p : List MemPlace}
    (hv : Value.okWide P W .any base t v) (h : DataW.Trod enc P W 0 (fun _ => true) true t v d p) : ∃ fuel as', shp P fuel t as' ∧ VR (g0 W).cx (if I.k.agg = true then .agg as' else as'.headD .dead) v := by
  obtain ⟨fuel, hf⟩ := h
  obtain ⟨as', h1, h2, h3⟩ := rd hT fuel t _ _ (tsmem ht) hf
  refine ⟨fuel, as', h1, ?_⟩
  have h3 := h3 I hI
  obtain ⟨i, dd, hi⟩ := tiOf_spec hI
  have hk := hi.k
  have hagg := tk_agg dd
  rw [← hk] at hagg
  unfold Value.okWide at hv
  rw [hi.under] at hv
  have hty := List.all_eq_true.1 hT t (tsmem ht)
  unfold tyOK at hty
  simp only [hI] at hty
  cases hkk : I.k <;> simp only [hkk, Bool.false_eq_true] at hty <;> rw [hkk] at hk
  case arr n e =>
    have := tk_arr hk; subst this
    obtain ⟨cs, rfl, hsz, _⟩ := hv
    simp only [TK.agg, if_true]
    exact .agg as' cs (by simpa [Value.cells] using h2.len.symm) (fun j hj => by simpa [Value.cells, Array.getD_eq_getD_getElem?, List.getD_eq_getElem?_getD] using h2.vr j hj) (fun j hj => by
      have hl := h2.len
      simp only [Value.cells, Array.length_toList] at hl
      have hj' : j < cs.size := by omega
      have := h2.one cs[j] (by simp [Value.cells])
      simpa [Array.getD_eq_getD_getElem?, hj'] using this)
  case struct fs =>
    obtain ⟨gs, hd, _⟩ := tk_struct hk
    subst hd
    obtain ⟨cs, rfl, hsz, _⟩ := hv
    simp only [TK.agg, if_true]
    exact .agg as' cs (by simpa [Value.cells] using h2.len.symm) (fun j hj => by simpa [Value.cells, Array.getD_eq_getD_getElem?, List.getD_eq_getElem?_getD] using h2.vr j hj) (fun j hj => by
      have hl := h2.len
      simp only [Value.cells, Array.length_toList] at hl
      have hj' : j < cs.size := by omega
      have := h2.one cs[j] (by simp [Value.cells])
      simpa [Array.getD_eq_getD_getElem?, hj'] using this)
  all_goals
    have key : v.cells = #[v] → VR (g0 W).cx (as'.headD .dead) v := fun hc => by
      have hl := h2.len
      rw [hc] at hl
      match as', hl with
      | [a], _ =>
        have := h2.vr 0 (by simp)
        rw [hc] at this
        simpa using this
    simp only [TK.agg, Bool.false_eq_true, if_false]
    refine key ?_
    first
      | (have := tk_bool hk; subst this; cases v <;> first | rfl | (exfalso; simp [Cell.okWide, Cell.ok, hi.under] at hv))
      | (have := tk_int hk; subst this; cases v <;> first | rfl | (exfalso; simp [Cell.okWide, Cell.ok, hi.under] at hv))
      | (have := tk_str hk; subst this; cases v <;> first | rfl | (exfalso; simp [Cell.okWide, Cell.ok, hi.under] at hv))
      | (have := tk_slice hk; subst this; cases v <;> first | rfl | (exfalso; simp [Cell.okWide, Cell.ok, hi.under] at hv))
end
end Go.Hk
namespace Go.Hk

section
variable {α β : Type}
def fo (g : β → α → β) (b : β) (l : List α) (i : Nat) : β := (l.take i).foldl g b
theorem fo_zero {g : β → α → β} {b : β} {l : List α} : fo g b l 0 = b := rfl
theorem fo_succ {g : β → α → β} {b : β} {l : List α} {i : Nat} {x : α} (h : l[i]? = some x) : fo g b l (i + 1) = g (fo g b l i) x := by
  obtain ⟨hi, rfl⟩ := List.getElem?_eq_some_iff.1 h
  simp only [fo, List.take_succ_eq_append_getElem hi, List.foldl_append, List.foldl_cons, List.foldl_nil]
theorem fo_all {g : β → α → β} {b : β} {l : List α} : fo g b l l.length = l.foldl g b := by simp [fo]
theorem fo_stay {g : β → α → β} {b c : β} {l : List α} {i : Nat} (h : fo g b l i = c) (hs : ∀ x, g c x = c) : l.foldl g b = c := by
  have e : l.foldl g b = (l.drop i).foldl g c := by
    rw [← h, fo, ← List.foldl_append, List.take_append_drop]
  rw [e]
  generalize l.drop i = r
  induction r with
  | nil => rfl
  | cons x r ih => rw [List.foldl_cons, hs, ih]
end
theorem imax_le {x y : Int} : x ≤ imax x y ∧ y ≤ imax x y ∧ (imax x y = x ∨ imax x y = y) := by unfold imax; split <;> omega
theorem imin_le {x y : Int} : imin x y ≤ x ∧ imin x y ≤ y ∧ (imin x y = x ∨ imin x y = y) := by unfold imin; split <;> omega

inductive Rx where
  | mk (k : Int) (s : Nat) (lo hi : Int) (l : List Rx)
namespace Rx
def k : Rx → Int | mk k _ _ _ _ => k
def s : Rx → Nat | mk _ s _ _ _ => s
def lo : Rx → Int | mk _ _ lo _ _ => lo
def hi : Rx → Int | mk _ _ _ hi _ => hi
def l : Rx → List Rx | mk _ _ _ _ l => l
end Rx
mutual
def cR : Rx → List AVal
  | .mk k s lo hi l => .int .i64 k :: (setL s ++ [.int .i64 lo, .int .i64 hi, .sl .no l.length (cRs l)])
def cRs : List Rx → List AVal
  | [] => []
  | x :: l => cR x ++ cRs l
end
theorem cRs_fl : ∀ l : List Rx, cRs l = fl cR l
  | [] => rfl
  | x :: l => by rw [cRs, fl_cons, cRs_fl l]
def rV (x : Rx) : AVal := .agg (cR x)
theorem cR_eq (x : Rx) : cR x = [.int .i64 x.k, .int .u64 (wd x.s 0 : Nat), .int .u64 (wd x.s 1 : Nat), .int .u64 (wd x.s 2 : Nat), .int .u64 (wd x.s 3 : Nat), .int .i64 x.lo, .int .i64 x.hi, .sl .no x.l.length (fl cR x.l)] := by
  cases x
  simp only [cR, cRs_fl, setL, Rx.k, Rx.s, Rx.lo, Rx.hi, Rx.l, List.cons_append, List.nil_append]
theorem cR_len (x : Rx) : (cR x).length = 8 := by rw [cR_eq]; rfl
mutual
theorem cR_strip : ∀ x : Rx, stripL (cR x) = some (cR x)
  | .mk k s lo hi l => by
    have h := cRs_strip l
    simp only [cR, setL, List.cons_append, List.nil_append, stripL, strip, h]
theorem cRs_strip : ∀ l : List Rx, stripL (cRs l) = some (cRs l)
  | [] => rfl
  | x :: l => by rw [cRs]; exact s_append (cR_strip x) (cRs_strip l)
end
theorem rV_strip (x : Rx) : strip (rV x) = some (rV x) := by simp only [rV, strip, cR_strip]
theorem rV_cells (x : Rx) : cellsOf (rV x) = some (cR x) := rfl
theorem rV_agg (x : Rx) : AVal.agg (cR x) = rV x := nr rfl
theorem rV_agg8 (x : Rx) : AVal.agg [.int .i64 x.k, .int .u64 (wd x.s 0 : Nat), .int .u64 (wd x.s 1 : Nat), .int .u64 (wd x.s 2 : Nat), .int .u64 (wd x.s 3 : Nat), .int .i64 x.lo, .int .i64 x.hi, .sl .no x.l.length (fl cR x.l)] = rV x := by rw [← cR_eq, rV]
theorem set_agg4 (A : Nat) : AVal.agg [.int .u64 (wd A 0 : Nat), .int .u64 (wd A 1 : Nat), .int .u64 (wd A 2 : Nat), .int .u64 (wd A 3 : Nat)] = setV A := nr rfl

theorem l_s_cR {l : List Rx} : stripL (fl cR l) = some (fl cR l) := fl_strip cR_strip l
theorem l_n_cR {l : List Rx} : (fl cR l).length = l.length * 8 := fl_len cR_len l
theorem l_s_cP {l : List (Int × Int)} : stripL (fl cP l) = some (fl cP l) := fl_strip cP_strip l
theorem l_n_cP {l : List (Int × Int)} : (fl cP l).length = l.length * 2 := fl_len cP_len l
theorem c_rV {h t : Nat} {x : Rx} : clo h t (rV x) = true := clo_strip _ _ (rV_strip x)
theorem c_cR {h t : Nat} {x : Rx} : cloL h t (cR x) = true := cloL_strip _ _ (cR_strip x)
theorem c_flR {h t : Nat} {l : List Rx} : cloL h t (fl cR l) = true := cloL_strip _ _ l_s_cR
theorem c_flP {h t : Nat} {l : List (Int × Int)} : cloL h t (fl cP l) = true := cloL_strip _ _ l_s_cP
theorem setMany_full : ∀ (vs cs : List AVal) (pre : List AVal), cs.length = vs.length → setMany (pre ++ cs) pre.length vs = pre ++ vs
  | [], cs, pre, h => by
    have := List.eq_nil_of_length_eq_zero h
    subst this; rfl
  | v :: vs, c :: cs, pre, h => by
    have := setMany_full vs cs (pre ++ [v]) (by simpa using h)
    simp only [List.length_append, List.length_singleton, List.append_assoc, List.singleton_append] at this
    simp only [setMany]
    rw [show (pre ++ c :: cs).set pre.length v = pre ++ v :: cs by simp [List.set_append]]
    exact this
theorem l_put_cR {a b c d e f g h : AVal} {x : Rx} : setMany [a, b, c, d, e, f, g, h] 0 (cR x) = cR x := setMany_full (cR x) [a, b, c, d, e, f, g, h] [] (cR_len x).symm
theorem l_put_cR' {x y : Rx} : setMany (cR y) 0 (cR x) = cR x := setMany_full (cR x) (cR y) [] (by rw [cR_len, cR_len])
theorem l_take_cR {x : Rx} : List.take 8 (cR x) = cR x := List.take_of_length_le (by rw [cR_len]; omega)
theorem n_isB_R {x : Rx} : isB (cR x) = false := by rw [cR_eq]; rfl
attribute [go_sem] cR_len l_put_cR l_put_cR' l_take_cR n_isB_R
attribute [go_sem] rV_cells rV_strip rV_agg rV_agg8 set_agg4 l_s_cR l_n_cR l_s_cP l_n_cP c_rV c_cR c_flR c_flP

inductive okB (N : Nat) : Rx → Prop
  | mk {k : Int} {s : Nat} {lo hi : Int} {l : List Rx} (hk : -9223372036854775808 ≤ k ∧ k < 9223372036854775808) (hs : s < 2 ^ 256) (hlo : -9223372036854775808 ≤ lo ∧ lo < 9223372036854775808)
      (hhi : -9223372036854775808 ≤ hi ∧ hi < 9223372036854775808) (hl : l.length < N) (h : ∀ y ∈ l, okB N y) : okB N (.mk k s lo hi l)
abbrev okX : Rx → Prop := okB 9223372036854775808
abbrev okW : Rx → Prop := okB 9223372036854775808
namespace okB
variable {N M : Nat} {x y : Rx}
theorem kd (h : okB N x) : -9223372036854775808 ≤ x.k ∧ x.k < 9223372036854775808 := by cases h; assumption
theorem st (h : okB N x) : x.s < 2 ^ 256 := by cases h; assumption
theorem low (h : okB N x) : -9223372036854775808 ≤ x.lo ∧ x.lo < 9223372036854775808 := by cases h; assumption
theorem len (h : okB N x) : x.l.length < N := by cases h; assumption
theorem mem (h : okB N x) (hy : y ∈ x.l) : okB N y := by
  cases h
  rename_i h6
  exact h6 y hy
theorem kid {i : Nat} (h : okB N x) (hy : x.l[i]? = some y) : okB N y := h.mem (List.mem_of_getElem? hy)
theorem le (h : okB N x) (hm : N ≤ M) : okB M x := by
  induction h with
  | mk hk hs hlo hhi hl _ ih => exact .mk hk hs hlo hhi (by omega) ih
end okB
theorem okB.w {x : Rx} (h : okX x) : okW x := h.le (by omega)
mutual
def sz : Rx → Nat
  | .mk _ _ _ _ l => szs l + 1
def szs : List Rx → Nat
  | [] => 0
  | x :: l => sz x + szs l
end
theorem szs_mem : ∀ {l : List Rx} {y : Rx}, y ∈ l → sz y ≤ szs l
  | x :: l, y, h => by
    rw [szs]
    rcases List.mem_cons.1 h with rfl | h
    · omega
    · have := szs_mem h; omega
theorem sz_eq (x : Rx) : sz x = szs x.l + 1 := by cases x; rfl
theorem sz_mem {x y : Rx} (hy : y ∈ x.l) : sz y < sz x := by
  have := szs_mem hy
  rw [sz_eq x]; omega
theorem sz_kid {x y : Rx} {i : Nat} (hy : x.l[i]? = some y) : sz y < sz x := sz_mem (List.mem_of_getElem? hy)
theorem Rx.ind {p : Rx → Prop} (h : ∀ x, (∀ y ∈ x.l, p y) → p x) : ∀ x, p x := by
  have key : ∀ n x, sz x ≤ n → p x := by
    intro n
    induction n with
    | zero => intro x hx; rw [sz_eq] at hx; omega
    | succ n ih => intro x hx; exact h x fun y hy => ih y (by have := sz_mem hy; omega)
  exact fun x => key _ x (Nat.le_refl _)
theorem Rx.ext' {x y : Rx} (h1 : x.k = y.k) (h2 : x.s = y.s) (h3 : x.lo = y.lo) (h4 : x.hi = y.hi) (h5 : x.l = y.l) : x = y := by
  cases x; cases y
  simp only [Rx.k, Rx.s, Rx.lo, Rx.hi, Rx.l] at h1 h2 h3 h4 h5
  subst h1; subst h2; subst h3; subst h4; subst h5; rfl
theorem cR_inj' {N M : Nat} : ∀ x : Rx, okB N x → ∀ y, okB M y → cR x = cR y → x = y := by
  intro x
  induction x using Rx.ind with
  | h x ih =>
    intro hx y hy h
    rw [cR_eq, cR_eq] at h
    simp only [List.cons.injEq, AVal.int.injEq, AVal.sl.injEq, true_and, and_true] at h
    obtain ⟨h1, w0, w1, w2, w3, h2, h3, h4, h5⟩ := h
    have hs : x.s = y.s := setL_inj' hx.st hy.st (by simp only [setL, w0, w1, w2, w3])
    have hl : x.l = y.l := by
      have key : ∀ a b : List Rx, (∀ z ∈ a, z ∈ x.l) → (∀ z ∈ b, z ∈ y.l) → a.length = b.length → fl cR a = fl cR b → a = b := by
        intro a
        induction a with
        | nil => intro b _ _ hl _; exact (List.eq_nil_of_length_eq_zero hl.symm).symm
        | cons z a iha =>
          intro b ha hb hl hf
          cases b with
          | nil => simp at hl
          | cons w b =>
            have := List.append_inj (s₁ := cR z) (s₂ := cR w) hf (by rw [cR_len, cR_len])
            rw [ih z (ha z (by simp)) (hx.mem (ha z (by simp))) w (hy.mem (hb w (by simp))) this.1, iha b (fun u hu => ha u (by simp [hu])) (fun u hu => hb u (by simp [hu])) (by simpa using hl) this.2]
      exact key _ _ (fun _ h => h) (fun _ h => h) h4 h5
    exact Rx.ext' h1 hs h2 h3 hl
theorem rV_inj {N M : Nat} {x y : Rx} (hx : okB N x) (hy : okB M y) (h : rV x = rV y) : x = y := cR_inj' x hx y hy (AVal.agg.inj h)

def smin (a b : Int) : Int := imin (a + b) 1000000
mutual
def size : Rx → Int
  | .mk k _ lo hi l => if k = 2 then 1 else if k < 3 ∨ 5 < k then 0 else imin (if k = 5 then sizes l * imax 1 (imin 1000 (imax lo hi)) else sizes l) 1000000
def sizes : List Rx → Int
  | [] => 0
  | x :: l => smin (size x) (sizes l)
end
theorem sizes_pos : ∀ l : List Rx, (∀ x ∈ l, 0 ≤ size x) → 0 ≤ sizes l ∧ sizes l ≤ 1000000
  | [], _ => by simp [sizes]
  | x :: l, h => by
    have h1 := h x (by simp)
    have h2 := sizes_pos l fun y hy => h y (by simp [hy])
    simp only [sizes, smin, imin]
    split <;> omega
theorem size_pos (x : Rx) : 0 ≤ size x ∧ size x ≤ 1000000 := by
  induction x using Rx.ind with
  | h x ih =>
    cases x with
    | mk k s lo hi l =>
      have h2 := sizes_pos l fun y hy => (ih y hy).1
      simp only [size]
      split
      · omega
      · split
        · omega
        · have hm : 0 ≤ sizes l * imax 1 (imin 1000 (imax lo hi)) := Int.mul_nonneg h2.1 (by have := (@imax_le 1 (imin 1000 (imax lo hi))).1; omega)
          have e := @imin_le (if k = 5 then sizes l * imax 1 (imin 1000 (imax lo hi)) else sizes l) 1000000
          have : 0 ≤ (if k = 5 then sizes l * imax 1 (imin 1000 (imax lo hi)) else sizes l) := by split <;> omega
          omega
theorem sizes_bd (l : List Rx) : 0 ≤ sizes l ∧ sizes l ≤ 1000000 := sizes_pos l fun x _ => (size_pos x).1
theorem sizes_app : ∀ (a b : List Rx), sizes (a ++ b) = smin (sizes a) (sizes b)
  | [], b => by
    have := sizes_bd b
    have h0 : sizes [] = 0 := by rw [sizes]
    rw [List.nil_append, h0]
    unfold smin imin
    rw [if_neg (by omega)]; omega
  | x :: a, b => by
    have h1 := size_pos x
    have h2 := sizes_bd a
    have h3 := sizes_bd b
    simp only [List.cons_append, sizes, sizes_app a b, smin, imin]
    repeat' split
    all_goals omega
theorem sizes_next {l : List Rx} {i : Nat} {y : Rx} (h : l[i]? = some y) : sizes (l.take (i + 1)) = imin (sizes (l.take i) + size y) 1000000 := by
  obtain ⟨hi, rfl⟩ := List.getElem?_eq_some_iff.1 h
  have h1 := size_pos l[i]
  rw [List.take_succ_eq_append_getElem hi, sizes_app]
  have : sizes [l[i]] = size l[i] := by
    have h0 : sizes [] = 0 := by rw [sizes]
    rw [sizes, h0]
    unfold smin imin
    rw [if_neg (by omega)]; omega
  rw [this]; rfl
theorem size_eq (x : Rx) : size x = if x.k = 2 then 1 else if x.k < 3 ∨ 5 < x.k then 0 else imin (if x.k = 5 then sizes x.l * imax 1 (imin 1000 (imax x.lo x.hi)) else sizes x.l) 1000000 := by cases x; rfl
theorem sizes_most {l : List Rx} {i : Nat} (h : sizes (l.take i) = 1000000) : sizes l = 1000000 := by
  have e := sizes_app (l.take i) (l.drop i)
  rw [List.take_append_drop] at e
  have := sizes_bd (l.drop i)
  rw [e, h, smin, imin]
  split <;> omega
theorem size_most {x : Rx} (hk : x.k = 3 ∨ x.k = 4 ∨ x.k = 5) (h : sizes x.l = 1000000) : size x = 1000000 := by
  rw [size_eq, if_neg (by omega), if_neg (by omega), h]
  have hm := (@imax_le 1 (imin 1000 (imax x.lo x.hi))).1
  generalize imax 1 (imin 1000 (imax x.lo x.hi)) = w at *
  have e := @imin_le (if x.k = 5 then 1000000 * w else 1000000) 1000000
  split at e <;> split <;> omega
theorem times_bd {n lo hi : Int} (h : 0 ≤ n ∧ n ≤ 1000000) : 0 ≤ n * imax 1 (imin 1000 (imax lo hi)) ∧ n * imax 1 (imin 1000 (imax lo hi)) ≤ 1000000000 := by
  have h1 : 0 ≤ imax 1 (imin 1000 (imax lo hi)) ∧ imax 1 (imin 1000 (imax lo hi)) ≤ 1000 := by
    have a := @imax_le 1 (imin 1000 (imax lo hi))
    have b := @imin_le 1000 (imax lo hi)
    omega
  refine ⟨Int.mul_nonneg h.1 h1.1, ?_⟩
  have := Int.mul_le_mul h.2 h1.2 h1.1 (by omega)
  omega

mutual
def nodes : Rx → Int → Int
  | .mk _ _ _ _ l, m => nodesL l (m - 1)
def nodesL : List Rx → Int → Int
  | [], m => m
  | x :: l, m => nodesL l (if 0 ≤ m then nodes x m else m)
end
def nstep (m : Int) (x : Rx) : Int := if 0 ≤ m then nodes x m else m
theorem nodesL_fo : ∀ (l : List Rx) (m : Int), nodesL l m = l.foldl nstep m
  | [], m => by rw [nodesL]; rfl
  | x :: l, m => by rw [nodesL, nodesL_fo l, List.foldl_cons]; rfl
theorem nodes_eq (x : Rx) (m : Int) : nodes x m = x.l.foldl nstep (m - 1) := by cases x; rw [nodes, nodesL_fo]; rfl
theorem nstep_bd (hf : ∀ x : Rx, ∀ m : Int, 0 ≤ m → -1 ≤ nodes x m ∧ nodes x m ≤ m - 1) (l : List Rx) (m : Int) (hm : -1 ≤ m) : -1 ≤ l.foldl nstep m ∧ l.foldl nstep m ≤ m := by
  induction l generalizing m with
  | nil => exact ⟨hm, Int.le_refl _⟩
  | cons x l ih =>
    rw [List.foldl_cons]
    by_cases h : 0 ≤ m
    · have h1 := hf x m h
      have := ih (nstep m x) (by simp only [nstep, if_pos h]; omega)
      simp only [nstep, if_pos h] at this ⊢
      omega
    · have : nstep m x = m := by simp only [nstep, if_neg h]
      rw [this]; exact ih m hm
theorem nodes_bd (x : Rx) : ∀ m : Int, 0 ≤ m → -1 ≤ nodes x m ∧ nodes x m ≤ m - 1 := by
  induction x using Rx.ind with
  | h x ih =>
    intro m hm
    rw [nodes_eq]
    have key : ∀ (l : List Rx) (m : Int), (∀ y ∈ l, y ∈ x.l) → -1 ≤ m → -1 ≤ l.foldl nstep m ∧ l.foldl nstep m ≤ m := by
      intro l
      induction l with
      | nil => intro m _ hm; exact ⟨hm, Int.le_refl _⟩
      | cons y l ihl =>
        intro m hl hm
        rw [List.foldl_cons]
        by_cases h : 0 ≤ m
        · have h1 := ih y (hl y (by simp)) m h
          have := ihl (nstep m y) (fun z hz => hl z (by simp [hz])) (by simp only [nstep, if_pos h]; omega)
          simp only [nstep, if_pos h] at this ⊢
          omega
        · have : nstep m y = m := by simp only [nstep, if_neg h]
          rw [this]; exact ihl m (fun z hz => hl z (by simp [hz])) hm
    exact key _ _ (fun _ h => h) (by omega)
theorem nfo_bd (l : List Rx) (m : Int) (i : Nat) (hm : -1 ≤ m) : -1 ≤ fo nstep m l i ∧ fo nstep m l i ≤ m := nstep_bd nodes_bd _ _ hm
theorem nfo_stay {l : List Rx} {m : Int} {i : Nat} (h : fo nstep m l i < 0) : l.foldl nstep m = fo nstep m l i :=
  fo_stay rfl fun x => by simp only [nstep]; rw [if_neg (by omega)]
end Go.Hk
