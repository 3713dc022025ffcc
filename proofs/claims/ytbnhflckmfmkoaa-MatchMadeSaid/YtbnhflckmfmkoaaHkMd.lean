/- Layer 5, the plain law of the document's answer: lists of truths. -/
import Derived.Test.YtbnhflckmfmkoaaHkMc
set_option linter.unusedSimpArgs false
set_option linter.unusedVariables false
namespace Go.Hk
open Classical in
noncomputable def bset (n : Nat) (S : Nat → Prop) : List Bool := (List.range n).map fun j => decide (S j)
def isT (L : List Bool) (j : Nat) : Prop := L[j]? = some true
def ImP (r : Pl) (S : Nat → Prop) (j : Nat) : Prop := ∃ i, S i ∧ r i j
theorem bset_len {n : Nat} {S : Nat → Prop} : (bset n S).length = n := by simp [bset]
theorem bset_get {n j : Nat} {S : Nat → Prop} (h : j < n) : (bset n S)[j]? = some (@decide (S j) (Classical.propDecidable _)) := by simp [bset, h]
theorem isT_bset {n j : Nat} {S : Nat → Prop} : isT (bset n S) j ↔ j < n ∧ S j := by
  unfold isT
  by_cases h : j < n
  · rw [bset_get h]; simp [h]
  · rw [List.getElem?_eq_none (by rw [bset_len]; omega)]; simp [h]
theorem isT_lt {L : List Bool} {j : Nat} (h : isT L j) : j < L.length := (List.getElem?_eq_some_iff.1 h).1
theorem isT_get {L : List Bool} {j : Nat} (h : j < L.length) : isT L j ↔ L[j] = true := by simp [isT, h]
theorem bool_ext {a b : List Bool} (hl : a.length = b.length) (h : ∀ j, j < a.length → (isT a j ↔ isT b j)) : a = b := by
  apply List.ext_getElem hl
  intro j h1 h2
  have := h j h1
  rw [isT_get h1, isT_get h2] at this
  cases ha : a[j] <;> cases hb : b[j] <;> simp_all
theorem bset_isT {L : List Bool} {n : Nat} (h : L.length = n) : bset n (isT L) = L := bool_ext (by rw [bset_len, h]) fun j hj => by
  rw [bset_len] at hj
  rw [isT_bset]
  exact ⟨fun h => h.2, fun h => ⟨hj, h⟩⟩
theorem bset_congr {n : Nat} {S S' : Nat → Prop} (h : ∀ j, j < n → (S j ↔ S' j)) : bset n S = bset n S' := by
  unfold bset
  refine List.map_congr_left fun j hj => ?_
  simp only [List.mem_range] at hj
  exact decide_eq_decide.2 (h j hj)
/-- Both of them. -/
def orB (a b : List Bool) : List Bool := (a.zip b).map fun p => p.1 || p.2
theorem orB_len {a b : List Bool} (h : a.length = b.length) : (orB a b).length = a.length := by simp [orB, h]
theorem orB_get {a b : List Bool} {j : Nat} (ha : j < a.length) (hb : j < b.length) : (orB a b)[j]? = some (a[j] || b[j]) := by
  have e : (a.zip b)[j]? = some (a[j], b[j]) := by rw [List.getElem?_eq_getElem (by simp; omega)]; simp
  simp only [orB, List.getElem?_map, e, Option.map_some]
theorem orB_isT {a b : List Bool} (h : a.length = b.length) {j : Nat} : isT (orB a b) j ↔ isT a j ∨ isT b j := by
  by_cases hj : j < a.length
  · rw [isT_get (L := a) hj, isT_get (L := b) (by omega)]
    unfold isT
    rw [orB_get hj (by omega)]
    simp
  · have h1 : ¬ isT (orB a b) j := fun h' => by have := isT_lt h'; rw [orB_len h] at this; omega
    have h2 : ¬ isT a j := fun h' => hj (isT_lt h')
    have h3 : ¬ isT b j := fun h' => by have := isT_lt h'; omega
    simp [h1, h2, h3]
theorem orB_bset {n : Nat} {S S' : Nat → Prop} : orB (bset n S) (bset n S') = bset n fun j => S j ∨ S' j := bool_ext (by rw [orB_len (by simp [bset_len]), bset_len, bset_len]) fun j _ => by
  rw [orB_isT (by simp [bset_len]), isT_bset, isT_bset, isT_bset]
  constructor
  · rintro (h | h)
    · exact ⟨h.1, .inl h.2⟩
    · exact ⟨h.1, .inr h.2⟩
  · rintro ⟨h, h1 | h1⟩
    · exact .inl ⟨h, h1⟩
    · exact .inr ⟨h, h1⟩
/-- One among the other. -/
def inB (a b : List Bool) : Bool := (a.zip b).all fun p => !p.1 || p.2
theorem inB_iff {a b : List Bool} (h : a.length = b.length) : inB a b = true ↔ ∀ j, isT a j → isT b j := by
  unfold inB
  rw [List.all_eq_true]
  constructor
  · intro hh j hj
    have hja := isT_lt hj
    have hjb : j < b.length := by omega
    have := hh (a[j], b[j]) (List.mem_iff_getElem.2 ⟨j, by simp; omega, by simp⟩)
    rw [isT_get hja] at hj
    rw [isT_get hjb]
    simpa [hj] using this
  · rintro hh ⟨p, q⟩ hp
    obtain ⟨j, hj, e⟩ := List.mem_iff_getElem.1 hp
    simp only [List.length_zip] at hj
    have hja : j < a.length := by omega
    have hjb : j < b.length := by omega
    simp only [List.getElem_zip, Prod.mk.injEq] at e
    obtain ⟨e1, e2⟩ := e
    have := hh j
    rw [isT_get hja, isT_get hjb] at this
    rw [← e1, ← e2]
    cases ha : a[j] <;> simp_all
theorem fl_cB_map : ∀ l : List Bool, fl cB l = l.map fun n => .bool n
  | [] => rfl
  | x :: l => by rw [fl_cons, fl_cB_map l]; rfl
theorem fl_cB_get {l : List Bool} {i : Nat} {x : Bool} (h : l[i]? = some x) : (fl cB l)[i]? = some (.bool x) := by
  rw [fl_cB_map, List.getElem?_map, h]; rfl
theorem orB_next {a b : List Bool} {i : Nat} (ha : i < a.length) (hb : i < b.length) : orB (a.take (i + 1)) (b.take (i + 1)) = orB (a.take i) (b.take i) ++ [a[i] || b[i]] := by
  unfold orB
  rw [List.take_succ_eq_append_getElem ha, List.take_succ_eq_append_getElem hb, List.zip_append (by simp; omega)]
  simp
theorem inB_next {a b : List Bool} {i : Nat} (ha : i < a.length) (hb : i < b.length) : inB (a.take (i + 1)) (b.take (i + 1)) = (inB (a.take i) (b.take i) && (!a[i] || b[i])) := by
  unfold inB
  rw [List.take_succ_eq_append_getElem ha, List.take_succ_eq_append_getElem hb, List.zip_append (by simp; omega)]
  simp
end Go.Hk
namespace Go.Hk
theorem isT_take {a : List Bool} {n j : Nat} : isT (a.take n) j ↔ j < n ∧ isT a j := by
  unfold isT
  rw [List.getElem?_take]
  split <;> simp [*]
theorem inB_take {a b : List Bool} {n : Nat} (h : a.length = b.length) (hf : inB (a.take n) (b.take n) = false) : inB a b = false := by
  cases hb : inB a b
  · rfl
  · rw [← hf]
    rw [inB_iff h] at hb
    rw [eq_comm, inB_iff (by simp [h])]
    intro j hj
    rw [isT_take] at hj ⊢
    exact ⟨hj.1, hb j hj.2⟩
end Go.Hk
namespace Go.Hk
theorem bset_false {N : Nat} {S : Nat → Prop} (h : ∀ j, j < N → ¬ S j) : bset N S = List.replicate N false := by
  apply bool_ext (by simp [bset_len])
  intro j hj
  rw [bset_len] at hj
  rw [isT_bset]
  simp only [isT]
  constructor
  · exact fun h' => absurd h'.2 (h j hj)
  · intro h'; simp [hj] at h'
theorem fl_cB_set {l : List Bool} {k : Nat} {v : Bool} : (fl cB l).set k (.bool v) = fl cB (l.set k v) := by
  rw [fl_cB_map, fl_cB_map, List.map_set]
theorem bset_set {N k : Nat} {S S' : Nat → Prop} {v : Bool} (hk : k < N) (hv : v = true ↔ S' k) (h : ∀ j, j < N → j ≠ k → (S' j ↔ S j)) : (bset N S).set k v = bset N S' := by
  apply bool_ext (by simp [bset_len])
  intro j hj
  simp only [List.length_set, bset_len] at hj
  rw [isT_bset]
  unfold isT
  rw [List.getElem?_set]
  by_cases e : k = j
  · subst e
    rw [if_pos rfl, if_pos (by rw [bset_len]; exact hj)]
    simp only [Option.some.injEq]
    rw [hv]
    exact ⟨fun h => ⟨hj, h⟩, fun h => h.2⟩
  · rw [if_neg e]
    have := isT_bset (n := N) (j := j) (S := S)
    unfold isT at this
    rw [this, h j hj (fun e' => e e'.symm)]
section
variable {r : Pl} {S : Nat → Prop} {N : Nat}
theorem ImP_lt (hr : ∀ i j, r i j → i < N → j < N) (hS : ∀ i, S i → i < N) {j : Nat} (h : ImP r S j) : j < N := by
  obtain ⟨i, h1, h2⟩ := h
  exact hr i j h2 (hS i h1)
theorem isT_bset' (hS : ∀ i, S i → i < N) {j : Nat} : isT (bset N S) j ↔ S j := by
  rw [isT_bset]
  exact ⟨fun h => h.2, fun h => ⟨hS j h, h⟩⟩
theorem iter_lt (hr : ∀ i j, r i j → i < N → j < N) : ∀ (n i j : Nat), iter r n i j → i < N → j < N
  | 0, i, j, e, hi => by simp only [iter] at e; omega
  | n + 1, i, j, ⟨k, h1, h2⟩, hi => hr k j h2 (iter_lt hr n i k h1 hi)
/-- Behind so many rounds, and behind some more. -/
def DS (r : Pl) (S : Nat → Prop) (m n j : Nat) : Prop := ∃ k, k ≤ n ∧ ImP (iter r (m + k)) S j
theorem ImP_iter {n j : Nat} : ImP r (ImP (iter r n) S) j ↔ ImP (iter r (n + 1)) S j := by
  constructor
  · rintro ⟨k, ⟨i, h1, h2⟩, h3⟩; exact ⟨i, h1, k, h2, h3⟩
  · rintro ⟨i, h1, k, h2, h3⟩; exact ⟨k, ⟨i, h1, h2⟩, h3⟩
theorem DS_succ {m n j : Nat} : DS r S m (n + 1) j ↔ DS r S m n j ∨ ImP (iter r (m + (n + 1))) S j := by
  constructor
  · rintro ⟨k, h1, h2⟩
    by_cases h : k ≤ n
    · exact .inl ⟨k, h, h2⟩
    · obtain rfl : k = n + 1 := by omega
      exact .inr h2
  · rintro (⟨k, h1, h2⟩ | h)
    · exact ⟨k, by omega, h2⟩
    · exact ⟨n + 1, Nat.le_refl _, h⟩
theorem DS_zero {m j : Nat} : DS r S m 0 j ↔ ImP (iter r m) S j := by
  constructor
  · rintro ⟨k, h1, h2⟩
    obtain rfl : k = 0 := by omega
    exact h2
  · exact fun h => ⟨0, Nat.le_refl _, h⟩
theorem DS_done {m n : Nat} (h : ∀ j, ImP (iter r (m + (n + 1))) S j → DS r S m n j) : ∀ k j, ImP (iter r (m + k)) S j → DS r S m n j := by
  have step : ∀ j, (∃ k, DS r S m n k ∧ r k j) → DS r S m n j := by
    rintro j ⟨k, ⟨q, h1, h2⟩, h3⟩
    have h4 : ImP (iter r (m + (q + 1))) S j := ImP_iter.1 ⟨k, h2, h3⟩
    by_cases hq : q + 1 ≤ n
    · exact ⟨q + 1, hq, h4⟩
    · obtain rfl : q = n := by omega
      exact h j h4
  intro k
  induction k with
  | zero => exact fun j h => ⟨0, Nat.zero_le _, h⟩
  | succ k ih =>
    intro j h
    obtain ⟨i, h1, h2⟩ := ImP_iter.2 (show ImP (iter r ((m + k) + 1)) S j from h)
    exact step j ⟨i, ih i h1, h2⟩
end
theorem sub_len {l l' : List Nat} (h : l.Nodup) (h' : l'.Nodup) (hs : ∀ x ∈ l, x ∈ l') : l.length ≤ l'.length := by
  have hp : l.Perm (l'.filter fun x => decide (x ∈ l)) := perm_of_mem h (List.Nodup.sublist List.filter_sublist h') fun j => by
    rw [List.mem_filter, decide_eq_true_eq]
    exact ⟨fun hj => ⟨hs j hj, hj⟩, fun hj => hj.2⟩
  rw [hp.length_eq]
  exact List.length_filter_le _ _
theorem cset_grow {N j : Nat} {S S' : Nat → Prop} (h : ∀ j, S j → S' j) (hj : j < N) (h1 : S' j) (h2 : ¬ S j) : (cset N S).length + 1 ≤ (cset N S').length := by
  have := sub_len (l := j :: cset N S) (l' := cset N S') (List.nodup_cons.2 ⟨fun hm => h2 (cset_mem.1 hm).2, cset_nodup⟩) cset_nodup fun x hx => by
    rcases List.mem_cons.1 hx with rfl | hx
    · exact cset_mem.2 ⟨hj, h1⟩
    · exact cset_mem.2 ⟨(cset_mem.1 hx).1, h x (cset_mem.1 hx).2⟩
  simpa using this
theorem cset_full {N j : Nat} {S : Nat → Prop} (h : N ≤ (cset N S).length) (hj : j < N) : S j := by
  by_cases hS : S j
  · exact hS
  · have := nodup_len (l := j :: cset N S) (n := N) (List.nodup_cons.2 ⟨fun hm => hS (cset_mem.1 hm).2, cset_nodup⟩) fun x hx => by
      rcases List.mem_cons.1 hx with rfl | hx
      · exact hj
      · exact (cset_mem.1 hx).1
    simp only [List.length_cons] at this
    omega
end Go.Hk
namespace Go.Hk
/-- or, where the first list may lie in memory. -/
noncomputable def iOrM : List AVal → AMem → Option (AVal × AMem) := rimp fun xs m v m' => ∃ (A B : List Bool) (u : AVal), (A.length = B.length ∧ A.length < 100000000) ∧ xs = [u, slc cB B] ∧
  (u = slc cB A ∨ ∃ b, u = .msl b 1 0 A.length A.length ∧ m.H[b]? = some (.cells 1 (fl cB A)) ∧ m.T = [] ∧ shut m = true) ∧ v = slc cB (orB A B) ∧ m' = m
theorem fl_cB_inj {a b : List Bool} (h : fl cB a = fl cB b) : a = b := by
  rw [fl_cB_map, fl_cB_map] at h
  exact List.map_inj_right (fun x y e => AVal.bool.inj e) |>.1 h
theorem iOrM_at {m : AMem} {A B : List Bool} {u : AVal} (h : A.length = B.length ∧ A.length < 100000000) (hu : u = slc cB A ∨ ∃ b, u = .msl b 1 0 A.length A.length ∧ m.H[b]? = some (.cells 1 (fl cB A)) ∧ m.T = [] ∧ shut m = true) :
    iOrM [u, slc cB B] m = some (slc cB (orB A B), m) :=
  rimp_eq ⟨A, B, u, h, rfl, hu, rfl, rfl⟩ (by
    rintro _ _ ⟨A', B', u', h', e, hu', rfl, rfl⟩
    simp only [List.cons.injEq, and_true] at e
    obtain ⟨rfl, e2⟩ := e
    have hB := slc_inj cB_len (fun _ _ _ _ => cB_inj) e2
    subst hB
    have hA : A' = A := by
      rcases hu with rfl | ⟨b, rfl, hb, _, _⟩ <;> rcases hu' with e1 | ⟨b', e1, hb', _, _⟩
      · exact (slc_inj cB_len (fun _ _ _ _ => cB_inj) e1).symm
      · simp [slc] at e1
      · simp [slc] at e1
      · simp only [AVal.msl.injEq, true_and] at e1
        obtain ⟨rfl, _⟩ := e1
        rw [hb] at hb'
        simp only [Option.some.injEq, ABlk.cells.injEq, true_and] at hb'
        exact (fl_cB_inj hb').symm
    subst hA
    exact ⟨rfl, rfl⟩)
theorem iOrM_told {m : AMem} {A B : List Bool} (h : A.length = B.length ∧ A.length < 100000000) : iOrM [slc cB A, slc cB B] m = some (slc cB (orB A B), m) := iOrM_at h (.inl rfl)
end Go.Hk
namespace Go.Hk
section
variable {r : Pl} {S : Nat → Prop} {m : Nat}
theorem DS_ex {n j : Nat} : DS r S m n j ↔ ImP (fun i j => ∃ k, k ≤ n ∧ iter r (m + k) i j) S j := by
  constructor
  · rintro ⟨k, h1, i, h2, h3⟩; exact ⟨i, h2, k, h1, h3⟩
  · rintro ⟨i, h2, k, h1, h3⟩; exact ⟨k, h1, i, h2, h3⟩
theorem DS_bound {n j : Nat} : DS r S m n j ↔ ImP (fun i j => ∃ k, upTo (some n) k ∧ iter r (m + k) i j) S j := DS_ex
theorem DS_stand {o : Option Nat} {n : Nat} (hn : upTo o n) (h : ∀ j, ImP (iter r (m + (n + 1))) S j → DS r S m n j) {j : Nat} : DS r S m n j ↔ ImP (fun i j => ∃ k, upTo o k ∧ iter r (m + k) i j) S j := by
  constructor
  · rintro ⟨k, h1, i, h2, h3⟩
    refine ⟨i, h2, k, ?_, h3⟩
    cases o with
    | none => trivial
    | some M => simp only [upTo] at hn ⊢; omega
  · rintro ⟨i, h2, k, _, h3⟩
    exact DS_done h k j ⟨i, h2, h3⟩
theorem DS_any {n j : Nat} (h : DS r S m n j) : ImP (fun i j => ∃ k, upTo none k ∧ iter r (m + k) i j) S j := by
  obtain ⟨k, _, i, h2, h3⟩ := h
  exact ⟨i, h2, k, trivial, h3⟩
end
end Go.Hk
namespace Go.Hk
theorem cB_clo1 {h t e : Nat} {l : List Bool} : cloB h t (.cells e (fl cB l)) = true := cloL_strip _ _ l_s_cB
end Go.Hk
namespace Go.Hk
/-- The places that a list of truths names. -/
def plT (L : List Bool) (i : Nat) : List Int := ((List.range i).filter fun j => L[j]? == some true).map fun j : Nat => (j : Int)
theorem plT_next {L : List Bool} {i : Nat} (h : i < L.length) : plT L (i + 1) = if L[i] = true then plT L i ++ [(i : Int)] else plT L i := by
  unfold plT
  rw [List.range_succ, List.filter_append, List.map_append]
  cases hb : L[i] <;> simp [h, hb]
theorem plT_len {L : List Bool} {i : Nat} : (plT L i).length ≤ i := by
  have := List.length_filter_le (fun j => L[j]? == some true) (List.range i)
  simpa [plT] using this
theorem plT_bset {N : Nat} {S : Nat → Prop} : plT (bset N S) N = (cset N S).map fun j : Nat => (j : Int) := by
  unfold plT cset
  congr 1
  refine List.filter_congr fun j hj => ?_
  simp only [List.mem_range] at hj
  rw [bset_get hj]
  cases h : @decide (S j) (Classical.propDecidable _) <;> rfl
theorem cset_last {N : Nat} {S : Nat → Prop} {n : Nat} (hn : N = n + 1) : (0 < ((cset N S).map fun j : Nat => (j : Int)).length ∧ ((cset N S).map fun j : Nat => (j : Int))[((cset N S).map fun j : Nat => (j : Int)).length - 1]? = some (n : Int)) ↔ (n : Int) ∈ (cset N S).map fun j : Nat => (j : Int) := by
  constructor
  · rintro ⟨_, h⟩; exact List.mem_of_getElem? h
  · intro h
    have hm : n ∈ cset N S := by
      obtain ⟨j, h1, h2⟩ := List.mem_map.1 h
      have : j = n := by omega
      exact this ▸ h1
    have hS := (cset_mem.1 hm).2
    have e : cset N S = cset n S ++ [n] := by
      subst hn
      unfold cset
      rw [List.range_succ, List.filter_append]
      simp [hS]
    rw [e]
    simp
end Go.Hk
