import Derived.Test.YtdimacffjdpkfaaHkQ20
import Derived.Test.YtdimacffjdpkfaaHkQ19
import Derived.Test.YtdimacffjdpkfaaHkQ17
/- Layer 5, the plain law of the document's answer: lists of truths. -/
set_option linter.unusedSimpArgs false
set_option linter.unusedVariables false
namespace Go.Hk
open Classical in
noncomputable def bset (n : Nat) (S : Nat → Prop) : List Bool := (List.range n).map fun j => decide (S j)
def isT (L : List Bool) (j : Nat) : Prop := L[j]? = some true
def ImP (r : Pl) (S : Nat → Prop) (j : Nat) : Prop := ∃ i, S i ∧ r i j
theorem bset_len {n : Nat} {S : Nat → Prop} : (bset n S).length = n := by simp [bset]
theorem bset_get {n j : Nat} {S : Nat → Prop} (h : j < n) : (bset n S)[j]? = some (@decide (S j) (Classical.propDecidable _)) := by simp [bset, h]
theorem isT_bset {n j : Nat} {S : Nat → Prop} : isT (bset n S) j ↔ j < n ∧ S j := by
  unfold isT
  by_cases h : j < n
  · rw [bset_get h]; simp [h]
  · rw [List.getElem?_eq_none (by rw [bset_len]; omega)]; simp [h]
theorem isT_lt {L : List Bool} {j : Nat} (h : isT L j) : j < L.length := (List.getElem?_eq_some_iff.1 h).1
theorem isT_get {L : List Bool} {j : Nat} (h : j < L.length) : isT L j ↔ L[j] = true := by simp [isT, h]
theorem bool_ext {a b : List Bool} (hl : a.length = b.length) (h : ∀ j, j < a.length → (isT a j ↔ isT b j)) : a = b := by
  apply List.ext_getElem hl
  intro j h1 h2
  have := h j h1
  rw [isT_get h1, isT_get h2] at this
  cases ha : a[j] <;> cases hb : b[j] <;> simp_all
theorem bset_isT {L : List Bool} {n : Nat} (h : L.length = n) : bset n (isT L) = L := bool_ext (by rw [bset_len, h]) fun j hj => by
  rw [bset_len] at hj
  rw [isT_bset]
  exact ⟨fun h => h.2, fun h => ⟨hj, h⟩⟩
theorem bset_congr {n : Nat} {S S' : Nat → Prop} (h : ∀ j, j < n → (S j ↔ S' j)) : bset n S = bset n S' := by
  unfold bset
  refine List.map_congr_left fun j hj => ?_
  simp only [List.mem_range] at hj
  exact decide_eq_decide.2 (h j hj)
/-- Both of them. -/
def orB (a b : List Bool) : List Bool := (a.zip b).map fun p => p.1 || p.2
theorem orB_len {a b : List Bool} (h : a.length = b.length) : (orB a b).length = a.length := by simp [orB, h]
theorem orB_get {a b : List Bool} {j : Nat} (ha : j < a.length) (hb : j < b.length) : (orB a b)[j]? = some (a[j] || b[j]) := by
  have e : (a.zip b)[j]? = some (a[j], b[j]) := by rw [List.getElem?_eq_getElem (by simp; omega)]; simp
  simp only [orB, List.getElem?_map, e, Option.map_some]
theorem orB_isT {a b : List Bool} (h : a.length = b.length) {j : Nat} : isT (orB a b) j ↔ isT a j ∨ isT b j := by
  by_cases hj : j < a.length
  · rw [isT_get (L := a) hj, isT_get (L := b) (by omega)]
    unfold isT
    rw [orB_get hj (by omega)]
    simp
  · have h1 : ¬ isT (orB a b) j := fun h' => by have := isT_lt h'; rw [orB_len h] at this; omega
    have h2 : ¬ isT a j := fun h' => hj (isT_lt h')
    have h3 : ¬ isT b j := fun h' => by have := isT_lt h'; omega
    simp [h1, h2, h3]
theorem orB_bset {n : Nat} {S S' : Nat → Prop} : orB (bset n S) (bset n S') = bset n fun j => S j ∨ S' j := bool_ext (by rw [orB_len (by simp [bset_len]), bset_len, bset_len]) fun j _ => by
  rw [orB_isT (by simp [bset_len]), isT_bset, isT_bset, isT_bset]
  constructor
  · rintro (h | h)
    · exact ⟨h.1, .inl h.2⟩
    · exact ⟨h.1, .inr h.2⟩
  · rintro ⟨h, h1 | h1⟩
    · exact .inl ⟨h, h1⟩
    · exact .inr ⟨h, h1⟩
/-- One among the other. -/
def inB (a b : List Bool) : Bool := (a.zip b).all fun p => !p.1 || p.2
theorem inB_iff {a b : List Bool} (h : a.length = b.length) : inB a b = true ↔ ∀ j, isT a j → isT b j := by
  unfold inB
  rw [List.all_eq_true]
  constructor
  · intro hh j hj
    have hja := isT_lt hj
    have hjb : j < b.length := by omega
    have := hh (a[j], b[j]) (List.mem_iff_getElem.2 ⟨j, by simp; omega, by simp⟩)
    rw [isT_get hja] at hj
    rw [isT_get hjb]
    simpa [hj] using this
  · rintro hh ⟨p, q⟩ hp
    obtain ⟨j, hj, e⟩ := List.mem_iff_getElem.1 hp
    simp only [List.length_zip] at hj
    have hja : j < a.length := by omega
    have hjb : j < b.length := by omega
    simp only [List.getElem_zip, Prod.mk.injEq] at e
    obtain ⟨e1, e2⟩ := e
    have := hh j
    rw [isT_get hja, isT_get hjb] at this
    rw [← e1, ← e2]
    cases ha : a[j] <;> simp_all
theorem fl_cB_map : ∀ l : List Bool, fl cB l = l.map fun n => .bool n
  | [] => rfl
  | x :: l => by rw [fl_cons, fl_cB_map l]; rfl
theorem fl_cB_get {l : List Bool} {i : Nat} {x : Bool} (h : l[i]? = some x) : (fl cB l)[i]? = some (.bool x) := by
  rw [fl_cB_map, List.getElem?_map, h]; rfl
theorem orB_next {a b : List Bool} {i : Nat} (ha : i < a.length) (hb : i < b.length) : orB (a.take (i + 1)) (b.take (i + 1)) = orB (a.take i) (b.take i) ++ [a[i] || b[i]] := by
  unfold orB
  rw [List.take_succ_eq_append_getElem ha, List.take_succ_eq_append_getElem hb, List.zip_append (by simp; omega)]
  simp
theorem inB_next {a b : List Bool} {i : Nat} (ha : i < a.length) (hb : i < b.length) : inB (a.take (i + 1)) (b.take (i + 1)) = (inB (a.take i) (b.take i) && (!a[i] || b[i])) := by
  unfold inB
  rw [List.take_succ_eq_append_getElem ha, List.take_succ_eq_append_getElem hb, List.zip_append (by simp; omega)]
  simp
end Go.Hk
namespace Go.Hk
theorem isT_take {a : List Bool} {n j : Nat} : isT (a.take n) j ↔ j < n ∧ isT a j := by
  unfold isT
  rw [List.getElem?_take]
  split <;> simp [*]
theorem inB_take {a b : List Bool} {n : Nat} (h : a.length = b.length) (hf : inB (a.take n) (b.take n) = false) : inB a b = false := by
  cases hb : inB a b
  · rfl
  · rw [← hf]
    rw [inB_iff h] at hb
    rw [eq_comm, inB_iff (by simp [h])]
    intro j hj
    rw [isT_take] at hj ⊢
    exact ⟨hj.1, hb j hj.2⟩
end Go.Hk
namespace Go.Hk
theorem bset_false {N : Nat} {S : Nat → Prop} (h : ∀ j, j < N → ¬ S j) : bset N S = List.replicate N false := by
  apply bool_ext (by simp [bset_len])
  intro j hj
  rw [bset_len] at hj
  rw [isT_bset]
  simp only [isT]
  constructor
  · exact fun h' => absurd h'.2 (h j hj)
  · intro h'; simp [hj] at h'
theorem fl_cB_set {l : List Bool} {k : Nat} {v : Bool} : (fl cB l).set k (.bool v) = fl cB (l.set k v) := by
  rw [fl_cB_map, fl_cB_map, List.map_set]
theorem bset_set {N k : Nat} {S S' : Nat → Prop} {v : Bool} (hk : k < N) (hv : v = true ↔ S' k) (h : ∀ j, j < N → j ≠ k → (S' j ↔ S j)) : (bset N S).set k v = bset N S' := by
  apply bool_ext (by simp [bset_len])
  intro j hj
  simp only [List.length_set, bset_len] at hj
  rw [isT_bset]
  unfold isT
  rw [List.getElem?_set]
  by_cases e : k = j
  · subst e
    rw [if_pos rfl, if_pos (by rw [bset_len]; exact hj)]
    simp only [Option.some.injEq]
    rw [hv]
    exact ⟨fun h => ⟨hj, h⟩, fun h => h.2⟩
  · rw [if_neg e]
    have := isT_bset (n := N) (j := j) (S := S)
    unfold isT at this
    rw [this, h j hj (fun e' => e e'.symm)]
section
variable {r : Pl} {S : Nat → Prop} {N : Nat}
theorem ImP_lt (hr : ∀ i j, r i j → i < N → j < N) (hS : ∀ i, S i → i < N) {j : Nat} (h : ImP r S j) : j < N := by
  obtain ⟨i, h1, h2⟩ := h
  exact hr i j h2 (hS i h1)
theorem isT_bset' (hS : ∀ i, S i → i < N) {j : Nat} : isT (bset N S) j ↔ S j := by
  rw [isT_bset]
  exact ⟨fun h => h.2, fun h => ⟨hS j h, h⟩⟩
theorem iter_lt (hr : ∀ i j, r i j → i < N → j < N) : ∀ (n i j : Nat), iter r n i j → i < N → j < N
  | 0, i, j, e, hi => by simp only [iter] at e; omega
  | n + 1, i, j, ⟨k, h1, h2⟩, hi => hr k j h2 (iter_lt hr n i k h1 hi)
/-- Behind so many rounds, and behind some more. -/
def DS (r : Pl) (S : Nat → Prop) (m n j : Nat) : Prop := ∃ k, k ≤ n ∧ ImP (iter r (m + k)) S j
theorem ImP_iter {n j : Nat} : ImP r (ImP (iter r n) S) j ↔ ImP (iter r (n + 1)) S j := by
  constructor
  · rintro ⟨k, ⟨i, h1, h2⟩, h3⟩; exact ⟨i, h1, k, h2, h3⟩
  · rintro ⟨i, h1, k, h2, h3⟩; exact ⟨k, ⟨i, h1, h2⟩, h3⟩
theorem DS_succ {m n j : Nat} : DS r S m (n + 1) j ↔ DS r S m n j ∨ ImP (iter r (m + (n + 1))) S j := by
  constructor
  · rintro ⟨k, h1, h2⟩
    by_cases h : k ≤ n
    · exact .inl ⟨k, h, h2⟩
    · obtain rfl : k = n + 1 := by omega
      exact .inr h2
  · rintro (⟨k, h1, h2⟩ | h)
    · exact ⟨k, by omega, h2⟩
    · exact ⟨n + 1, Nat.le_refl _, h⟩
theorem DS_zero {m j : Nat} : DS r S m 0 j ↔ ImP (iter r m) S j := by
  constructor
  · rintro ⟨k, h1, h2⟩
    obtain rfl : k = 0 := by omega
    exact h2
  · exact fun h => ⟨0, Nat.le_refl _, h⟩
theorem DS_done {m n : Nat} (h : ∀ j, ImP (iter r (m + (n + 1))) S j → DS r S m n j) : ∀ k j, ImP (iter r (m + k)) S j → DS r S m n j := by
  have step : ∀ j, (∃ k, DS r S m n k ∧ r k j) → DS r S m n j := by
    rintro j ⟨k, ⟨q, h1, h2⟩, h3⟩
    have h4 : ImP (iter r (m + (q + 1))) S j := ImP_iter.1 ⟨k, h2, h3⟩
    by_cases hq : q + 1 ≤ n
    · exact ⟨q + 1, hq, h4⟩
    · obtain rfl : q = n := by omega
      exact h j h4
  intro k
  induction k with
  | zero => exact fun j h => ⟨0, Nat.zero_le _, h⟩
  | succ k ih =>
    intro j h
    obtain ⟨i, h1, h2⟩ := ImP_iter.2 (show ImP (iter r ((m + k) + 1)) S j from h)
    exact step j ⟨i, ih i h1, h2⟩
end
theorem sub_len {l l' : List Nat} (h : l.Nodup) (h' : l'.Nodup) (hs : ∀ x ∈ l, x ∈ l') : l.length ≤ l'.length := by
  have hp : l.Perm (l'.filter fun x => decide (x ∈ l)) := perm_of_mem h (List.Nodup.sublist List.filter_sublist h') fun j => by
    rw [List.mem_filter, decide_eq_true_eq]
    exact ⟨fun hj => ⟨hs j hj, hj⟩, fun hj => hj.2⟩
  rw [hp.length_eq]
  exact List.length_filter_le _ _
theorem cset_grow {N j : Nat} {S S' : Nat → Prop} (h : ∀ j, S j → S' j) (hj : j < N) (h1 : S' j) (h2 : ¬ S j) : (cset N S).length + 1 ≤ (cset N S').length := by
  have := sub_len (l := j :: cset N S) (l' := cset N S') (List.nodup_cons.2 ⟨fun hm => h2 (cset_mem.1 hm).2, cset_nodup⟩) cset_nodup fun x hx => by
    rcases List.mem_cons.1 hx with rfl | hx
    · exact cset_mem.2 ⟨hj, h1⟩
    · exact cset_mem.2 ⟨(cset_mem.1 hx).1, h x (cset_mem.1 hx).2⟩
  simpa using this
theorem cset_full {N j : Nat} {S : Nat → Prop} (h : N ≤ (cset N S).length) (hj : j < N) : S j := by
  by_cases hS : S j
  · exact hS
  · have := nodup_len (l := j :: cset N S) (n := N) (List.nodup_cons.2 ⟨fun hm => hS (cset_mem.1 hm).2, cset_nodup⟩) fun x hx => by
      rcases List.mem_cons.1 hx with rfl | hx
      · exact hj
      · exact (cset_mem.1 hx).1
    simp only [List.length_cons] at this
    omega
end Go.Hk
namespace Go.Hk
/-- or, where the first list may lie in memory. -/
noncomputable def iOrM : List AVal → AMem → Option (AVal × AMem) := rimp fun xs m v m' => ∃ (A B : List Bool) (u : AVal), (A.length = B.length ∧ A.length < 100000000) ∧ xs = [u, slc cB B] ∧
  (u = slc cB A ∨ ∃ b, u = .msl b 1 0 A.length A.length ∧ m.H[b]? = some (.cells 1 (fl cB A)) ∧ m.T = [] ∧ shut m = true) ∧ v = slc cB (orB A B) ∧ m' = m
theorem fl_cB_inj {a b : List Bool} (h : fl cB a = fl cB b) : a = b := by
  rw [fl_cB_map, fl_cB_map] at h
  exact List.map_inj_right (fun x y e => AVal.bool.inj e) |>.1 h
theorem iOrM_at {m : AMem} {A B : List Bool} {u : AVal} (h : A.length = B.length ∧ A.length < 100000000) (hu : u = slc cB A ∨ ∃ b, u = .msl b 1 0 A.length A.length ∧ m.H[b]? = some (.cells 1 (fl cB A)) ∧ m.T = [] ∧ shut m = true) :
    iOrM [u, slc cB B] m = some (slc cB (orB A B), m) :=
  rimp_eq ⟨A, B, u, h, rfl, hu, rfl, rfl⟩ (by
    rintro _ _ ⟨A', B', u', h', e, hu', rfl, rfl⟩
    simp only [List.cons.injEq, and_true] at e
    obtain ⟨rfl, e2⟩ := e
    have hB := slc_inj cB_len (fun _ _ _ _ => cB_inj) e2
    subst hB
    have hA : A' = A := by
      rcases hu with rfl | ⟨b, rfl, hb, _, _⟩ <;> rcases hu' with e1 | ⟨b', e1, hb', _, _⟩
      · exact (slc_inj cB_len (fun _ _ _ _ => cB_inj) e1).symm
      · simp [slc] at e1
      · simp [slc] at e1
      · simp only [AVal.msl.injEq, true_and] at e1
        obtain ⟨rfl, _⟩ := e1
        rw [hb] at hb'
        simp only [Option.some.injEq, ABlk.cells.injEq, true_and] at hb'
        exact (fl_cB_inj hb').symm
    subst hA
    exact ⟨rfl, rfl⟩)
theorem iOrM_told {m : AMem} {A B : List Bool} (h : A.length = B.length ∧ A.length < 100000000) : iOrM [slc cB A, slc cB B] m = some (slc cB (orB A B), m) := iOrM_at h (.inl rfl)
end Go.Hk
namespace Go.Hk
section
variable {r : Pl} {S : Nat → Prop} {m : Nat}
theorem DS_ex {n j : Nat} : DS r S m n j ↔ ImP (fun i j => ∃ k, k ≤ n ∧ iter r (m + k) i j) S j := by
  constructor
  · rintro ⟨k, h1, i, h2, h3⟩; exact ⟨i, h2, k, h1, h3⟩
  · rintro ⟨i, h2, k, h1, h3⟩; exact ⟨k, h1, i, h2, h3⟩
theorem DS_bound {n j : Nat} : DS r S m n j ↔ ImP (fun i j => ∃ k, upTo (some n) k ∧ iter r (m + k) i j) S j := DS_ex
theorem DS_stand {o : Option Nat} {n : Nat} (hn : upTo o n) (h : ∀ j, ImP (iter r (m + (n + 1))) S j → DS r S m n j) {j : Nat} : DS r S m n j ↔ ImP (fun i j => ∃ k, upTo o k ∧ iter r (m + k) i j) S j := by
  constructor
  · rintro ⟨k, h1, i, h2, h3⟩
    refine ⟨i, h2, k, ?_, h3⟩
    cases o with
    | none => trivial
    | some M => simp only [upTo] at hn ⊢; omega
  · rintro ⟨i, h2, k, _, h3⟩
    exact DS_done h k j ⟨i, h2, h3⟩
theorem DS_any {n j : Nat} (h : DS r S m n j) : ImP (fun i j => ∃ k, upTo none k ∧ iter r (m + k) i j) S j := by
  obtain ⟨k, _, i, h2, h3⟩ := h
  exact ⟨i, h2, k, trivial, h3⟩
end
end Go.Hk
namespace Go.Hk
theorem cB_clo1 {h t e : Nat} {l : List Bool} : cloB h t (.cells e (fl cB l)) = true := cloL_strip _ _ l_s_cB
end Go.Hk
namespace Go.Hk
/-- The places that a list of truths names. -/
def plT (L : List Bool) (i : Nat) : List Int := ((List.range i).filter fun j => L[j]? == some true).map fun j : Nat => (j : Int)
theorem plT_next {L : List Bool} {i : Nat} (h : i < L.length) : plT L (i + 1) = if L[i] = true then plT L i ++ [(i : Int)] else plT L i := by
  unfold plT
  rw [List.range_succ, List.filter_append, List.map_append]
  cases hb : L[i] <;> simp [h, hb]
theorem plT_len {L : List Bool} {i : Nat} : (plT L i).length ≤ i := by
  have := List.length_filter_le (fun j => L[j]? == some true) (List.range i)
  simpa [plT] using this
theorem plT_bset {N : Nat} {S : Nat → Prop} : plT (bset N S) N = (cset N S).map fun j : Nat => (j : Int) := by
  unfold plT cset
  congr 1
  refine List.filter_congr fun j hj => ?_
  simp only [List.mem_range] at hj
  rw [bset_get hj]
  cases h : @decide (S j) (Classical.propDecidable _) <;> rfl
theorem cset_last {N : Nat} {S : Nat → Prop} {n : Nat} (hn : N = n + 1) : (0 < ((cset N S).map fun j : Nat => (j : Int)).length ∧ ((cset N S).map fun j : Nat => (j : Int))[((cset N S).map fun j : Nat => (j : Int)).length - 1]? = some (n : Int)) ↔ (n : Int) ∈ (cset N S).map fun j : Nat => (j : Int) := by
  constructor
  · rintro ⟨_, h⟩; exact List.mem_of_getElem? h
  · intro h
    have hm : n ∈ cset N S := by
      obtain ⟨j, h1, h2⟩ := List.mem_map.1 h
      have : j = n := by omega
      exact this ▸ h1
    have hS := (cset_mem.1 hm).2
    have e : cset N S = cset n S ++ [n] := by
      subst hn
      unfold cset
      rw [List.range_succ, List.filter_append]
      simp [hS]
    rw [e]
    simp
end Go.Hk
/- A body walked in two parts: between them what may be written is given up, and told. -/
namespace Go.Hk
def isSeqs : Nat → Code → Bool
  | 0, _ => true
  | k + 1, .seq _ b => isSeqs k b
  | _ + 1, _ => false
def preC : Nat → Code → Code
  | 0, _ => .skip
  | k + 1, .seq a b => .seq a (preC k b)
  | _ + 1, c => c
def postC : Nat → Code → Code
  | 0, c => c
  | k + 1, .seq _ b => postC k b
  | _ + 1, c => c
def cutQ (k : St → Prop) (Q : Exit → St → Prop) : Exit → St → Prop := fun e s => match e with | .normal => k s | e => Q e s
section
variable {P : Program} {Γ : Gam} {mu : Bool} {n hk tk : Nat}
theorem AWp.cut (hΓ : Sound P Γ) (hm : P.follows .mixedOrders = true) : ∀ (k : Nat) (c : Code) (Q : Exit → St → Prop) (s : St), isSeqs k c = true → codeOKx Γ mu n (preC k c) = true → W P Γ mu hk tk (preC k c) (cutQ (AWp P n hk tk (postC k c) Q) Q) s → AWp P n hk tk c Q s
  | 0, c, Q, s, _, _, h => by
    obtain ⟨h⟩ := h
    exact h
  | k + 1, .seq a b, Q, s, hs, hok, h => by
    simp only [preC, codeOKx, Bool.and_eq_true] at hok
    refine AWp.seq (AWp.mono (AWp.w (mu := mu) hΓ hm a (seqQ (W P Γ mu hk tk (preC k b) (cutQ (AWp P n hk tk (postC k b) Q) Q)) (cutQ (AWp P n hk tk (postC k b) Q) Q)) s hok.1 ?_) fun e s' hq => ?_)
    · obtain ⟨e, m⟩ := s
      simp only [preC, e_w_seq] at h
      exact h
    · cases e
      case normal => exact AWp.cut hΓ hm k b Q s' hs hok.2 hq
      all_goals exact hq
/-- What is told of the environment, the memory given up. -/
def dropOK (s : St) (e' : List (Nat × AVal)) : Prop := ∀ p ∈ e', view 8 s.m (lk s.env p.1) = some p.2
theorem lk_mem : ∀ {l : List (Nat × AVal)} {t : Nat}, lk l t = .dead ∨ (t, lk l t) ∈ l
  | [], t => .inl rfl
  | (k, v) :: l, t => by
    simp only [lk]
    split
    · rename_i h; subst h; exact .inr (by simp)
    · rcases lk_mem (l := l) (t := t) with h | h
      · exact .inl h
      · exact .inr (by simp [h])
theorem ext_drop0 {γ : Ghost} : ExtN 0 0 γ γ.drop where
  bad := rfl
  lo := rfl
  size := Nat.le_refl _
  os := rfl
  tape := rfl
  output := rfl
  cell := fun _ _ _ h => drop_cell h
  blk := fun b _ _ _ h => absurd h (Nat.not_lt_zero b)
  tip := fun t _ _ _ h => absurd h (Nat.not_lt_zero t)
  own := fun _ _ _ h => h
  frame := fun _ _ _ => .inl rfl
  owns := fun k h => by
    rcases h with ⟨b, hb⟩ | ⟨t, ht⟩
    · exact absurd hb drop_noblk
    · exact absurd ht drop_notok
theorem AWp.drop {c : Code} {Q : Exit → St → Prop} {s : St} {e' : List (Nat × AVal)} (hd : dropOK s e') (h : AWp P n 0 0 c Q ⟨e', ⟨[], []⟩⟩) : AWp P n 0 0 c Q s := fun ro z γ a hro hh hmk => by
  have hh' : Holds n γ.drop ⟨e', ⟨[], []⟩⟩ a := ⟨rl_drop hh.rl, rfl, fun t => by
    rcases lk_mem (l := e') (t := t) with h | h
    · rw [show lk (St.mk e' ⟨[], []⟩).env t = .dead from h]; exact .dead _
    · exact view_sound hh.rl _ _ _ _ (by rw [hh.m]; exact hd _ h) (hh.er t), hh.size⟩
  exact wpIn_mono (h ro z γ.drop a hro hh' (hmk.ext ext_drop0)) fun _ _ _ k => AQ.trans ext_drop0 k
theorem PCall.of_cut {Γ' : Gam} {mu' : Bool} {f : FuncId} {fn : Func} {c : Code} {args : List AVal} {r : AVal} (k : Nat) (hΓ : Sound P Γ) (hΓ' : Sound P Γ') (hm : P.follows .mixedOrders = true) (hf : P.funcs[f]? = some fn) (hb : fn.body = some c) (hen : enterable P f = true) (hn : args.length ≤ fn.ntmps)
    (hs : isSeqs k c = true) (hok : codeOKx Γ mu fn.ntmps (preC k c) = true) (hok' : codeOKx Γ' mu' fn.ntmps (postC k c) = true)
    (h : ∀ K : St → Prop, (∀ s e', dropOK s e' → W P Γ' mu' 0 0 (postC k c) (FnQ P fn.results.toList fun r0 s => view 8 s.m r0 = some r) ⟨e', ⟨[], []⟩⟩ → K s) → W P Γ mu 0 0 (preC k c) (cutQ K (FnQ P fn.results.toList fun r0 s => view 8 s.m r0 = some r)) ⟨envFrom 0 args, ⟨[], []⟩⟩) : PCall P f args r :=
  PCall.of_body hf hb hen hn (AWp.cut hΓ hm k c _ _ hs hok ((h (fun s => ∃ e', dropOK s e' ∧ W P Γ' mu' 0 0 (postC k c) (FnQ P fn.results.toList fun r0 s => view 8 s.m r0 = some r) ⟨e', ⟨[], []⟩⟩) fun _ e' h1 h2 => ⟨e', h1, h2⟩).mono fun e s hq => by
    cases e
    case normal =>
      obtain ⟨e', h1, h2⟩ := hq
      exact AWp.drop h1 (AWp.w hΓ' hm _ _ _ hok' h2)
    all_goals exact hq))
end
theorem e_cutQ {k : St → Prop} {Q : Exit → St → Prop} {s : St} : cutQ k Q .normal s = k s := rfl
theorem e_cutQ_ret {k : St → Prop} {Q : Exit → St → Prop} {s : St} : cutQ k Q .ret s = Q .ret s := rfl
theorem e_preC {k : Nat} {a b : Code} : preC (k + 1) (.seq a b) = .seq a (preC k b) := rfl
theorem e_postC {k : Nat} {a b : Code} : postC (k + 1) (.seq a b) = postC k b := rfl
attribute [go_sem] e_cutQ e_cutQ_ret
end Go.Hk
namespace Go.Hk
theorem e_preC0 {c : Code} : preC 0 c = .skip := rfl
theorem e_postC0 {c : Code} : postC 0 c = c := rfl
end Go.Hk
/- Layer 5, the plain law: what is told at the beginning; texts by numbers. -/
namespace Go.Hk
def stK : Rx := .mk 3 0 0 0 [chX 97, chX 98]
theorem stK_ok : okX stK := .mk (by omega) (by omega) (by omega) (by omega) (by simp) (fun y hy => by
  rcases List.mem_cons.1 hy with rfl | hy
  · exact chX_ok _
  · rcases List.mem_cons.1 hy with rfl | hy
    · exact chX_ok _
    · cases hy)
theorem R_chX {t : List UInt8} {b i j : Nat} (hb : b < 256) : R t (chX (b : Int)) i j ↔ i < t.length ∧ (t.getD i 0).toNat = b ∧ j = i + 1 := by
  have hc := (t.getD i 0).toNat_lt
  rw [R_k2 (x := chX (b : Int)) rfl]
  have e : (chX (b : Int)).s = ofN (b : Int) (b : Int) := rfl
  rw [e]
  have : (ofN (b : Int) (b : Int)).testBit (t.getD i 0).toNat = decide ((t.getD i 0).toNat = b) := by
    unfold ofN
    rw [mk_bit]
    simp only [inOf]
    rw [Bool.eq_iff_iff]
    simp only [Bool.and_eq_true, decide_eq_true_eq]
    omega
  rw [this, decide_eq_true_eq]
theorem R_stK {t : List UInt8} {i j : Nat} : R t stK i j ↔ i + 1 < t.length ∧ (t.getD i 0).toNat = 97 ∧ (t.getD (i + 1) 0).toNat = 98 ∧ j = i + 2 := by
  rw [R_k3 (x := stK) rfl]
  have e : stK.l = [chX ((97 : Nat) : Int), chX ((98 : Nat) : Int)] := rfl
  rw [e]
  simp only [Rall, R_chX (show 97 < 256 by decide), R_chX (show 98 < 256 by decide)]
  constructor
  · rintro ⟨k, ⟨h1, h2, rfl⟩, k', ⟨h3, h4, rfl⟩, rfl⟩; exact ⟨h3, h2, h4, rfl⟩
  · rintro ⟨h1, h2, h3, rfl⟩; exact ⟨i + 1, ⟨by omega, h2, rfl⟩, i + 2, ⟨h1, h3, rfl⟩, rfl⟩
theorem cset_of {n : Nat} {S : Nat → Prop} {A : List Nat} (h : ∀ j, j < n → (S j ↔ j ∈ A)) : cset n S = (List.range n).filter fun j => decide (j ∈ A) := by
  unfold cset
  refine List.filter_congr fun j hj => ?_
  simp only [List.mem_range] at hj
  exact decide_eq_decide.2 (h j hj)
/-! ### Texts by numbers -/
def alph : List UInt8 := [97, 97, 98, 98, 99, 99, 45, 90, 10, 48, 0, 255]
def textT (l : List UInt8) : List UInt8 := (l.take 12).map fun b => alph.getD (b.toNat % 12) 0
theorem textT_len (l : List UInt8) : (textT l).length ≤ 12 := by simp [textT]; omega
end Go.Hk
namespace Go.Hk
theorem textT_next {l : List UInt8} {i : Nat} (h : i < l.length) (h2 : i < 12) : textT (l.take (i + 1)) = textT (l.take i) ++ [alph.getD (l[i].toNat % 12) 0] := by
  have e1 : (l.take (i + 1)).take 12 = l.take i ++ [l[i]] := by rw [List.take_of_length_le (by simp; omega), List.take_succ_eq_append_getElem h]
  have e2 : (l.take i).take 12 = l.take i := List.take_of_length_le (by simp; omega)
  unfold textT
  rw [e1, e2, List.map_append]
  rfl
theorem textT_all {l : List UInt8} {i : Nat} (h : l.length ≤ i ∨ 12 ≤ i) : textT (l.take i) = textT l := by
  unfold textT
  rcases h with h | h
  · rw [List.take_of_length_le h]
  · rw [List.take_take, Nat.min_eq_left h]
theorem alph_at : ∀ k, k < 12 → (alph.drop k).take 1 = [alph.getD k 0] := by decide
end Go.Hk
/- Layer 6, the plain law: rules, and their text. -/
namespace Go.Hk
/-- A rule. -/
structure Ru where
  conds : List Int
  all : Bool
  bol : Bool
  rx : Rx
  trail : Rx
  eof : Bool
  act : Int
  to : Int
/-- A condition. -/
structure Cd where
  name : List UInt8
  ex : Bool
  deriving DecidableEq
/-- Rules. -/
structure Sp where
  conds : List Cd
  deft : Bool
  rules : List Ru
def cCd (c : Cd) : List AVal := [.str c.name, .bool c.ex]
def cRu (r : Ru) : List AVal := .sl .no r.conds.length (fl cI r.conds) :: .bool r.all :: .bool r.bol :: (cR r.rx ++ (cR r.trail ++ [.bool r.eof, .int .i64 r.act, .int .i64 r.to]))
def cSp (s : Sp) : List AVal := [.sl .no s.conds.length (fl cCd s.conds), .bool s.deft, .sl .no s.rules.length (fl cRu s.rules)]
def sV (s : Sp) : AVal := .agg (cSp s)
theorem cCd_len (c : Cd) : (cCd c).length = 2 := rfl
theorem cCd_strip (c : Cd) : stripL (cCd c) = some (cCd c) := rfl
theorem cRu_len (r : Ru) : (cRu r).length = 22 := by simp [cRu, cR_len]
theorem cRu_strip (r : Ru) : stripL (cRu r) = some (cRu r) := by
  have h : stripL (fl cI r.conds) = some (fl cI r.conds) := fl_strip cI_strip _
  have h2 := s_append (cR_strip r.rx) (s_append (cR_strip r.trail) (show stripL [.bool r.eof, .int .i64 r.act, .int .i64 r.to] = some [.bool r.eof, .int .i64 r.act, .int .i64 r.to] from rfl))
  unfold cRu
  simp only [stripL, strip, h, h2]
/-! ### Names -/
def letterB (b : UInt8) : Bool := decide (97 ≤ b.toNat) && decide (b.toNat ≤ 122) || decide (65 ≤ b.toNat) && decide (b.toNat ≤ 90) || decide (b.toNat = 95)
def digitB (b : UInt8) : Bool := decide (48 ≤ b.toNat) && decide (b.toNat ≤ 57)
def nameB (s : List UInt8) : Bool := decide (0 < s.length) && decide (s.length ≤ 12) && letterB (s.getD 0 0) && s.all (fun b => letterB b || digitB b)
/-- A byte of a name. -/
def nb (b : UInt8) : Bool := letterB b || digitB b
/-! ### What may be -/
def noneX (x : Rx) : Bool := decide (x.k = 0) && decide (x.s = 0) && decide (x.lo = 0) && decide (x.hi = 0) && decide (x.l.length = 0)
theorem noneX_eq {x : Rx} (h : noneX x = true) : x = .mk 0 0 0 0 [] := by
  simp only [noneX, Bool.and_eq_true, decide_eq_true_eq] at h
  exact Rx.ext' h.1.1.1.1 h.1.1.1.2 h.1.1.2 h.1.2 (List.eq_nil_of_length_eq_zero h.2)
/-- Numbers that rise, from one on, below another one. -/
def rise (n : Int) : Int → List Int → Bool
  | _, [] => true
  | a, c :: l => decide (a < c) && decide (c < n) && rise n c l
def holdsB (n : Int) (r : Ru) : Bool := rise n (-1) r.conds && (!r.all || decide (r.conds.length = 0))
def doesB (n : Int) (r : Ru) : Bool := if r.act = 3 then decide (0 ≤ r.to) && decide (r.to < n) else (decide (r.act = 1) || decide (r.act = 2)) && decide (r.to = 0)
def matchB (r : Ru) : Bool := if r.eof then !r.bol && noneX r.rx && noneX r.trail else rightT r.rx && (noneX r.trail || rightT r.trail)
def ruleB (n : Int) (r : Ru) : Bool := holdsB n r && doesB n r && matchB r
def initial : List UInt8 := [73, 78, 73, 84, 73, 65, 76]
def diff : List (List UInt8) → Bool
  | [] => true
  | x :: l => !l.contains x && diff l
def rightS (s : Sp) : Bool := decide (1 ≤ s.conds.length) && decide (s.conds.length ≤ 8) && decide (s.rules.length ≤ 40) && decide ((s.conds.getD 0 ⟨[], false⟩).name = initial) && !(s.conds.getD 0 ⟨[], false⟩).ex &&
  s.conds.all (fun c => nameB c.name) && diff (s.conds.map Cd.name) && s.rules.all (ruleB s.conds.length)
/-! ### The text -/
def nameAt (l : List Cd) (c : Int) : List UInt8 := (l.getD c.toNat ⟨[], false⟩).name
theorem rise_bd {n : Int} : ∀ (l : List Int) (a : Int), -1 ≤ a → rise n a l = true → ∀ c ∈ l, 0 ≤ c ∧ c < n
  | [], _, _, _, c, hc => by cases hc
  | x :: l, a, ha, h, c, hc => by
    simp only [rise, Bool.and_eq_true, decide_eq_true_eq] at h
    rcases List.mem_cons.1 hc with rfl | hc
    · omega
    · exact rise_bd l x (by omega) h.2 c hc
end Go.Hk
/- Layer 6, the plain law: what is asked of rules, step by step. -/
namespace Go.Hk
/-! ### Names that are not the same -/
def insN (l : List (List UInt8)) (x : List UInt8) : List (List UInt8) := if x ∈ l then l else l ++ [x]
theorem insN_le : ∀ (xs l : List (List UInt8)), (xs.foldl insN l).length ≤ l.length + xs.length
  | [], l => by simp
  | x :: xs, l => by
    have h := insN_le xs (insN l x)
    have h2 : (insN l x).length ≤ l.length + 1 := by unfold insN; split <;> simp
    simp only [List.foldl_cons, List.length_cons]
    omega
theorem insN_all : ∀ (xs l : List (List UInt8)), (xs.foldl insN l).length = l.length + xs.length ↔ diff xs = true ∧ ∀ x ∈ xs, x ∉ l
  | [], l => by simp [diff]
  | x :: xs, l => by
    simp only [List.foldl_cons, List.length_cons, diff, Bool.and_eq_true, Bool.not_eq_true']
    by_cases hx : x ∈ l
    · have e : insN l x = l := if_pos hx
      have h := insN_le xs l
      rw [e]
      constructor
      · intro h'; omega
      · rintro ⟨_, h'⟩; exact absurd hx (h' x (by simp))
    · have e : insN l x = l ++ [x] := if_neg hx
      have h := insN_all xs (l ++ [x])
      rw [e]
      simp only [List.length_append, List.length_cons, List.length_nil] at h
      have e2 : l.length + (xs.length + 1) = l.length + (0 + 1) + xs.length := by omega
      rw [e2, h]
      constructor
      · rintro ⟨h1, h2⟩
        refine ⟨⟨?_, h1⟩, fun y hy hl => ?_⟩
        · rw [Bool.eq_false_iff]
          intro hc
          have hm : x ∈ xs := by simpa using hc
          exact h2 x hm (by simp)
        · rcases List.mem_cons.1 hy with rfl | hy
          · exact hx hl
          · exact h2 y hy (by simp [hl])
      · rintro ⟨⟨h1, h2⟩, h3⟩
        refine ⟨h2, fun y hy hl => ?_⟩
        rcases List.mem_append.1 hl with hl | hl
        · exact h3 y (by simp [hy]) hl
        · have hl := List.mem_singleton.1 hl
          subst hl
          rw [Bool.eq_false_iff] at h1
          exact h1 (by simpa using hy)
theorem insN_diff (xs : List (List UInt8)) : decide ((xs.foldl insN []).length = xs.length) = diff xs := by
  have h := insN_all xs []
  simp only [List.length_nil, Nat.zero_add, List.not_mem_nil, not_false_eq_true, implies_true, and_true] at h
  rw [Bool.eq_iff_iff, decide_eq_true_eq, h]
/-! ### Numbers that rise -/
theorem rise_snoc (n c : Int) : ∀ (l : List Int) (a : Int), rise n a (l ++ [c]) = (rise n a l && decide (l.getLastD a < c) && decide (c < n))
  | [], a => by simp [rise]
  | x :: l, a => by
    have h := rise_snoc n c l x
    simp only [List.cons_append, rise, h, List.getLastD_cons]
    cases decide (a < x) <;> cases decide (x < n) <;> simp
theorem rise_next {n a c : Int} {l : List Int} {i : Nat} (h : l[i]? = some c) : rise n a (l.take (i + 1)) = (rise n a (l.take i) && decide ((l.take i).getLastD a < c) && decide (c < n)) := by
  obtain ⟨hi, rfl⟩ := List.getElem?_eq_some_iff.1 h
  rw [List.take_succ_eq_append_getElem hi, rise_snoc]
theorem rise_last {a c : Int} {l : List Int} {i : Nat} (h : l[i]? = some c) : (l.take (i + 1)).getLastD a = c := by
  obtain ⟨hi, rfl⟩ := List.getElem?_eq_some_iff.1 h
  rw [List.take_succ_eq_append_getElem hi]
  exact List.getLastD_concat ..
theorem rise_pre {n a : Int} {l : List Int} {i : Nat} (h : rise n a (l.take i) = false) : rise n a l = false := by
  cases hd : rise n a l
  · rfl
  · have key : ∀ (x y : List Int) (a : Int), rise n a (x ++ y) = true → rise n a x = true := by
      intro x
      induction x with
      | nil => intro y a _; rfl
      | cons z x ih =>
        intro y a hb
        simp only [List.cons_append, rise, Bool.and_eq_true] at hb ⊢
        exact ⟨hb.1, ih y z hb.2⟩
    have := key (l.take i) (l.drop i) a (by rw [List.take_append_drop]; exact hd)
    rw [h] at this
    cases this
/-! ### Names, byte by byte -/
def nmTo (s : List UInt8) (i : Nat) : Bool := (i == 0 || letterB (s.getD 0 0)) && (s.take i).all nb
theorem nmTo_next {s : List UInt8} {i : Nat} {b : UInt8} (h : s[i]? = some b) : nmTo s (i + 1) = (nmTo s i && (letterB b || !(i == 0) && digitB b)) := by
  obtain ⟨hi, rfl⟩ := List.getElem?_eq_some_iff.1 h
  unfold nmTo
  rw [List.take_succ_eq_append_getElem hi, List.all_append]
  cases i with
  | zero =>
    have e : s.getD 0 0 = s[0] := by simp [List.getD_eq_getElem?_getD, List.getElem?_eq_getElem hi]
    simp only [e, List.take_zero, List.all_nil, List.all_cons, nb]
    cases letterB s[0] <;> simp
  | succ i =>
    simp only [List.all_cons, List.all_nil, nb]
    cases letterB (s.getD 0 0) <;> cases (s.take (i + 1)).all (fun b => letterB b || digitB b) <;> simp [nb]
theorem nmTo_pre {s : List UInt8} {i : Nat} (hi : 0 < i ∧ i ≤ s.length) (h : nmTo s i = false) : nameB s = false := by
  have e : (i == 0) = false := beq_eq_false_iff_ne.2 (by omega)
  unfold nmTo at h
  rw [e, Bool.false_or] at h
  unfold nameB
  cases hl : letterB (s.getD 0 0)
  · simp
  · rw [hl, Bool.true_and] at h
    have : s.all (fun b => letterB b || digitB b) = false := by
      rw [Bool.eq_false_iff] at h ⊢
      intro ha
      apply h
      rw [List.all_eq_true] at ha ⊢
      intro b hb
      exact ha b (List.mem_of_mem_take hb)
    rw [this]; simp
theorem nmTo_all {s : List UInt8} (hs : 0 < s.length) : nmTo s s.length = (letterB (s.getD 0 0) && s.all (fun b => letterB b || digitB b)) := by
  have e : (s.length == 0) = false := beq_eq_false_iff_ne.2 (by omega)
  unfold nmTo
  rw [e, Bool.false_or, List.take_length]
  rfl
end Go.Hk
