import Derived.Test.YtdimacffjdpkfaaGreatHkQ18
import Derived.Test.YtdimacffjdpkfaaGreatHkQ17
set_option linter.unusedSimpArgs false
set_option linter.unusedVariables false
namespace Go.Hk
def sput (ks : List Nat) (k : Nat) : List Nat := if k ∈ ks then ks else ks ++ [k]
def uni : List Nat → List Nat → List Nat
  | os, [] => os
  | os, k :: ks => uni (sput os k) ks
theorem sput_mem {ks : List Nat} {k j : Nat} : j ∈ sput ks k ↔ j ∈ ks ∨ j = k := by
  unfold sput
  split
  · rename_i h
    constructor
    · exact .inl
    · rintro (h1 | rfl)
      · exact h1
      · exact h
  · simp
theorem sput_nodup {ks : List Nat} {k : Nat} (h : ks.Nodup) : (sput ks k).Nodup := by
  unfold sput
  split
  · exact h
  · rename_i hk
    rw [List.nodup_append]
    refine ⟨h, by simp, ?_⟩
    intro a ha b hb
    simp only [List.mem_singleton] at hb
    subst hb
    exact fun e => hk (e ▸ ha)
theorem uni_mem : ∀ {ks os : List Nat} {j : Nat}, j ∈ uni os ks ↔ j ∈ os ∨ j ∈ ks
  | [], os, j => by simp [uni]
  | k :: ks, os, j => by
    simp only [uni]
    rw [uni_mem, sput_mem, List.mem_cons, or_assoc]
theorem uni_nodup : ∀ {ks os : List Nat}, os.Nodup → (uni os ks).Nodup
  | [], os, h => h
  | k :: ks, os, h => by simp only [uni]; exact uni_nodup (sput_nodup h)
theorem perm_of_mem : ∀ {a b : List Nat}, a.Nodup → b.Nodup → (∀ j, j ∈ a ↔ j ∈ b) → a.Perm b
  | a, b, ha, hb, h => (List.perm_ext_iff_of_nodup ha hb).2 h
open Classical in
noncomputable def cset (n : Nat) (S : Nat → Prop) : List Nat := (List.range n).filter fun j => decide (S j)
theorem cset_mem {n : Nat} {S : Nat → Prop} {j : Nat} : j ∈ cset n S ↔ j < n ∧ S j := by
  simp [cset]
theorem cset_nodup {n : Nat} {S : Nat → Prop} : (cset n S).Nodup := List.Nodup.sublist List.filter_sublist List.nodup_range
theorem cset_congr {n : Nat} {S S' : Nat → Prop} (h : ∀ j, j < n → (S j ↔ S' j)) : cset n S = cset n S' := by
  unfold cset
  refine List.filter_congr fun j hj => ?_
  simp only [List.mem_range] at hj
  exact decide_eq_decide.2 (h j hj)
theorem cset_len {n : Nat} {S : Nat → Prop} : (cset n S).length ≤ n := by
  have := List.length_filter_le (fun j => @decide (S j) (Classical.propDecidable _)) (List.range n)
  simpa [cset] using this
theorem nodup_len {l : List Nat} {n : Nat} (h : l.Nodup) (hb : ∀ j ∈ l, j < n) : l.length ≤ n := by
  have hp : l.Perm (cset n fun j => j ∈ l) := perm_of_mem h cset_nodup fun j => by
    rw [cset_mem]
    exact ⟨fun hj => ⟨hb j hj, hj⟩, fun hj => hj.2⟩
  rw [hp.length_eq]
  exact cset_len
theorem sents_inj : ∀ {a b : List Nat}, sents a = sents b → a = b
  | [], [], _ => rfl
  | [], _ :: _, h => by simp [sents] at h
  | _ :: _, [], h => by simp [sents] at h
  | x :: a, y :: b, h => by
    simp only [sents, List.map_cons, List.cons.injEq, Prod.mk.injEq, AVal.int.injEq, true_and, and_true] at h
    have h2 := sents_inj (a := a) (b := b) h.2
    have h1 : x = y := by omega
    rw [h1, h2]
theorem sents_len {ks : List Nat} : (sents ks).length = ks.length := by simp [sents]
theorem sents_get {ks : List Nat} {i : Nat} (h : i < (sents ks).length) : (sents ks)[i] = (.int .i64 ((ks[i]'(by simpa [sents] using h) : Nat) : Int), .agg []) := by simp [sents]
theorem sents_erase {ks : List Nat} {i : Nat} : (sents ks).eraseIdx i = sents (ks.eraseIdx i) := by
  induction ks generalizing i with
  | nil => simp [sents]
  | cons k ks ih =>
    cases i with
    | zero => simp [sents]
    | succ i => simp only [sents, List.map_cons, List.eraseIdx_cons_succ] at ih ⊢; rw [ih]
theorem perm_eraseIdx {ks : List Nat} {i : Nat} (h : i < ks.length) : ks.Perm (ks[i] :: ks.eraseIdx i) := by
  induction ks generalizing i with
  | nil => simp at h
  | cons k ks ih =>
    cases i with
    | zero => simp
    | succ i =>
      simp only [List.getElem_cons_succ, List.eraseIdx_cons_succ]
      exact ((ih (by simpa using h)).cons k).trans (.swap _ _ _)
theorem noIt_shut {G : List ABlk} {T : List (Nat × (Nat × Nat))} {b : Nat} (h : shut ⟨G, T⟩ = true) (hb : G.length ≤ b) : noIt b G = true := by
  simp only [shut, noIt, List.all_eq_true] at h ⊢
  intro x hx
  have := h x hx
  cases x <;> simp only [noIt1]
  simp only [cloB, Bool.and_eq_true, decide_eq_true_eq] at this
  simp only [bne_iff_ne, ne_eq]
  omega
theorem noIt_app {b : Nat} {G L : List ABlk} : noIt b (G ++ L) = (noIt b G && noIt b L) := List.all_append
theorem dcur_noIt {b : Nat} : ∀ {G : List ABlk}, noIt b G = true → G.map (dcur1 b) = G
  | [], _ => rfl
  | x :: G, h => by
    simp only [noIt, List.all_cons, Bool.and_eq_true] at h
    rw [List.map_cons, dcur_noIt (G := G) h.2]
    congr 1
    cases x <;> simp only [dcur1]
    simp only [noIt1, bne_iff_ne, ne_eq] at h
    rw [if_neg h.1]
theorem del_noIt {P : Program} {kt : TypeId} {b : Nat} {k : AVal} : ∀ {G : List ABlk}, noIt b G = true → G.all (delOK1 P kt b k) = true
  | [], _ => rfl
  | x :: G, h => by
    simp only [noIt, List.all_cons, Bool.and_eq_true] at h ⊢
    refine ⟨?_, del_noIt (G := G) h.2⟩
    cases x <;> simp only [delOK1]
    simp only [noIt1] at h
    simp [h.1]
section
variable {P : Program} {t kt et : TypeId} {I K E : TI}
def kN (k : Nat) : AVal := .int .i64 (k : Int)
def vU (_ : Unit) : AVal := .agg []
theorem sents_ment (ks : List Nat) : sents ks = ment kN vU (ks.map fun k => (k, ())) := by
  simp [sents, ment, kN, vU, Function.comp_def]
theorem ndk_set {ks : List Nat} (h : ks.Nodup) : ndk (ks.map fun k => (k, ())) := by
  simpa [ndk, Function.comp_def] using h
theorem mget_set {ks : List Nat} {k : Nat} : mget (ks.map fun k => (k, ())) k = if k ∈ ks then some () else none := by
  induction ks with
  | nil => simp [mget]
  | cons a ks ih =>
    simp only [List.map_cons, mget, ih, List.mem_cons]
    by_cases h : k = a <;> simp [h]
theorem mput_set {ks : List Nat} {k : Nat} : mput (ks.map fun k => (k, ())) k () = (sput ks k).map fun k => (k, ()) := by
  induction ks with
  | nil => simp [mput, sput]
  | cons a ks ih =>
    simp only [List.map_cons, mput]
    by_cases h : k = a
    · subst h
      simp [sput]
    · rw [if_neg h, ih]
      by_cases hm : k ∈ ks
      · simp [sput, hm]
      · simp [sput, hm, h]
theorem key_int {k : Int} (hK : tiOf P kt = some K) (hk : K.k = .int .i64) : akey P 20 kt (.int .i64 k) = true := by
  simp [akey, hK, hk]
theorem eq_int {a b : Int} (hK : tiOf P kt = some K) (hk : K.k = .int .i64) : aeq P 20 kt (.int .i64 a) (.int .i64 b) = some (decide (a = b)) := by
  simp only [aeq, hK, hk, if_true]
  congr 1
theorem kN_eq (hK : tiOf P kt = some K) (hk : K.k = .int .i64) (a b : Nat) : aeq P 20 kt (kN a) (kN b) = some (decide (a = b)) := by
  rw [kN, kN, eq_int hK hk]
  congr 1
  exact decide_eq_decide.2 (by omega)
theorem set_put (hI : tiOf P t = some I) (hk : I.k = .map kt et) (hK : tiOf P kt = some K) (hKk : K.k = .int .i64) {H : List ABlk} {T : List (Nat × (Nat × Nat))} {b : Nat} {ks : List Nat} {k : Nat}
    (hb : H[b]? = some (.amap (sents ks))) (hn : ks.Nodup) (hi : noIt b H = true) :
    amput P t ⟨H, T⟩ (.map b) (.int .i64 (k : Int)) (.agg []) = some (.undef, ⟨H.set b (.amap (sents (sput ks k))), T⟩) := by
  have := amput_ment (P := P) (t := t) (kV := kN) (vV := vU) (T := T) hI hk (fun a => key_int hK hKk) (kN_eq hK hKk) (fun a => by simp [abits, abit1, kN]) (es := ks.map fun k => (k, ())) (by rw [hb, sents_ment]) (ndk_set hn) hi (k := k) (v := ())
  rw [mput_set, ← sents_ment] at this
  exact this
theorem set_look (hI : tiOf P t = some I) (hk : I.k = .map kt et) (hK : tiOf P kt = some K) (hKk : K.k = .int .i64) (hE : tiOf P et = some E) (hz : E.zero = some (.agg [])) {m : AMem} {b : Nat} {ks : List Nat} {k : Nat}
    (hb : m.H[b]? = some (.amap (sents ks))) (hn : ks.Nodup) : alookup P t m (.map b) (.int .i64 (k : Int)) true = some (.tup (.agg []) [.bool (decide (k ∈ ks))]) := by
  have := alookup_ment (P := P) (t := t) (kV := kN) (vV := vU) hI hk hE hz (fun a => key_int hK hKk) (kN_eq hK hKk) (m := m) (es := ks.map fun k => (k, ())) (by rw [hb, sents_ment]) (ndk_set hn) (k := k) (ok := true)
  rw [mget_set] at this
  rw [kN] at this
  rw [this]
  by_cases h : k ∈ ks <;> simp [h, mapR, afound, vU]
theorem find_set (hK : tiOf P kt = some K) (hKk : K.k = .int .i64) {k : Nat} : ∀ (ks : List Nat) (i : Nat), ks.Nodup → afind P kt (.int .i64 (k : Int)) (sents ks) i = some (if k ∈ ks then some (i + ks.idxOf k) else none)
  | [], i, _ => by simp [sents, afind]
  | a :: ks, i, h => by
    have hn := List.nodup_cons.1 h
    have ih := find_set hK hKk (k := k) ks (i + 1) hn.2
    have he : aeq P 20 kt (.int .i64 (k : Int)) (.int .i64 (a : Int)) = some (decide (k = a)) := by
      rw [eq_int hK hKk]; congr 1; exact decide_eq_decide.2 (by omega)
    by_cases hka : k = a
    · subst hka
      have hall : (sents ks).all (fun e' => aeq P 20 kt (.int .i64 (k : Int)) e'.1 == some false) = true := by
        simp only [sents, List.all_map, List.all_eq_true, Function.comp_apply]
        intro x hx
        rw [eq_int hK hKk]
        have hne : ¬ ((k : Int) = (x : Int)) := fun e => hn.1 (Int.ofNat.inj e ▸ hx)
        rw [decide_eq_false hne]
        rfl
      have hs : sents (k :: ks) = (.int .i64 (k : Int), .agg []) :: sents ks := rfl
      rw [hs]
      simp only [afind, he, decide_true, hall, if_true]
      simp
    · have hs : sents (a :: ks) = (.int .i64 (a : Int), .agg []) :: sents ks := rfl
      rw [hs]
      simp only [afind, he, hka, decide_false, ih]
      by_cases hm : k ∈ ks
      · have hm2 : k ∈ a :: ks := List.mem_cons_of_mem _ hm
        rw [if_pos hm, if_pos hm2, List.idxOf_cons]
        have : (a == k) = false := by simp; exact fun e => hka e.symm
        rw [this]
        simp only [cond_false, Bool.false_eq_true, if_false, Option.some.injEq]
        omega
      · have hm2 : ¬ k ∈ a :: ks := by simp [hka, hm]
        rw [if_neg hm, if_neg hm2]
theorem set_del (hI : tiOf P t = some I) (hk : I.k = .map kt et) (hK : tiOf P kt = some K) (hKk : K.k = .int .i64) {H : List ABlk} {T : List (Nat × (Nat × Nat))} {b : Nat} {ks : List Nat} {k : Nat}
    (hb : H[b]? = some (.amap (sents ks))) (hn : ks.Nodup) (hm : k ∈ ks) (hd : H.all (delOK1 P kt b (.int .i64 (k : Int))) = true) :
    adelete P t ⟨H, T⟩ (.map b) (.int .i64 (k : Int)) = some (.undef, ⟨(H.map (dcur1 b)).set b (.amap (sents (ks.eraseIdx (ks.idxOf k)))), T⟩) := by
  simp only [adelete, hI, hk, hb, key_int hK hKk, hd, and_self, if_true, find_set hK hKk ks 0 hn, if_pos hm, sents_erase, Nat.zero_add]
end
section
variable {P : Program} {mu : Bool} {hk tk : Nat} {Q : Exit → St → Prop} {e : List (Nat × AVal)} {m : AMem}
theorem w_next {ks : List Nat} {dy : Bool} {yl : Nat → List AVal → AMem → Option (AVal × AMem)} {n : Nat} {L : List (FuncId × Con)} {l : List Oper} {id : Nat} {d : Bool} {dst : Option Nat} {it : Operand} {rest : List Oper} {b mb : Nat} {left : List Nat} {cur : Option (AVal × AVal)}
    (hx : (gamg ks dy yl n L).nx id = true) (hn : isNext l = some (dst, it, rest)) (hi : ev e it = .ptr b 0 0) (hb : m.H[b]? = some (.iter mb (sents left) cur))
    (h0 : left = [] → regW (opsO P (gamg ks dy yl n L) mu (prep l rest) (some ⟨put e dst (.tup (.bool false) []), m⟩)) Q)
    (h1 : ∀ k left', left.Perm (k :: left') → regW (opsO P (gamg ks dy yl n L) mu (prep l rest) (some ⟨put e dst (.tup (.bool true) [.int .i64 ((k : Nat) : Int), .agg []]), ⟨m.H.set b (.iter mb (sents left') (some (.int .i64 ((k : Nat) : Int), .agg []))), m.T⟩⟩)) Q) :
    W P (gamg ks dy yl n L) mu hk tk (.region id l.toArray d) Q ⟨e, m⟩ := by
  rw [W_eq]
  have hl : isNext l.toArray.toList = some (dst, it, rest) := hn
  simp only [W0, hx, if_true, hl]
  have key : ∀ s : St, regW (opsO P (gamg ks dy yl n L) mu (prep l rest) (some s)) Q → ∃ s', aops P (gamg ks dy yl n L) mu l.toArray rest s = some s' ∧ Q .normal s' := fun s h => by
    rw [← aops_opsO] at h
    cases hs : aops P (gamg ks dy yl n L) mu l.toArray rest s with
    | none => rw [hs] at h; exact h.elim
    | some s' => rw [hs] at h; exact ⟨s', rfl, h⟩
  refine ⟨b, mb, sents left, cur, hi, hb, fun h => ?_, fun i hi2 => ?_⟩
  · refine key _ (h0 ?_)
    cases left with
    | nil => rfl
    | cons a l => simp [sents] at h
  · have hil : i < left.length := by simpa [sents] using hi2
    have := key _ (h1 left[i] (left.eraseIdx i) (perm_eraseIdx hil))
    rw [sents_get hi2, sents_erase]
    exact this
end
end Go.Hk
namespace Go.Hk
section
variable {P : Program} {t kt et : TypeId} {I K E : TI} {G l : List ABlk} {T : List (Nat × (Nat × Nat))} {d b mb : Nat} {os : List Nat}
theorem range_at {m : AMem} {es : List (AVal × AVal)} (hI : tiOf P t = some I) (hk : I.k = .map kt et) (h : m.H[b]? = some (.amap es)) : arange P t m (.map b) = some (.ptr m.H.length 0 0, ⟨m.H ++ [.iter b es none], m.T⟩) := by
  simp [arange, hI, hk, h]
theorem noIt_set {x : ABlk} (h : noIt b G = true) (hx : noIt1 b x = true) : noIt b (G.set d x) = true := by
  simp only [noIt, List.all_eq_true] at h ⊢
  intro y hy
  rcases List.mem_or_eq_of_mem_set hy with h1 | rfl
  · exact h y h1
  · exact hx
theorem set_putS (hI : tiOf P t = some I) (hk : I.k = .map kt et) (hK : tiOf P kt = some K) (hKk : K.k = .int .i64) (hd : d < G.length) (hG : noIt d G = true) (hl : noIt d l = true) (hn : os.Nodup) (k : Nat) :
    amput P t ⟨G.set d (.amap (sents os)) ++ l, T⟩ (.map d) (.int .i64 (k : Int)) (.agg []) = some (.undef, ⟨G.set d (.amap (sents (sput os k))) ++ l, T⟩) := by
  rw [set_put hI hk hK hKk (ks := os) (by rw [m_atS hd]; simp [hd]) hn (by rw [noIt_app, noIt_set hG rfl, hl]; rfl), m_setS hd, List.set_set]
theorem set_putO (hI : tiOf P t = some I) (hk : I.k = .map kt et) (hK : tiOf P kt = some K) (hKk : K.k = .int .i64) {j : Nat} (hj : l[j]? = some (.amap (sents os))) (hG : noIt (G.length + j) G = true) (hl : noIt (G.length + j) l = true) (hn : os.Nodup) (k : Nat) :
    amput P t ⟨G ++ l, T⟩ (.map (G.length + j)) (.int .i64 (k : Int)) (.agg []) = some (.undef, ⟨G ++ l.set j (.amap (sents (sput os k))), T⟩) := by
  rw [set_put hI hk hK hKk (ks := os) (by rw [m_own]; exact hj) hn (by rw [noIt_app, hG, hl]; rfl), m_put]
theorem set_delS (hI : tiOf P t = some I) (hk : I.k = .map kt et) (hK : tiOf P kt = some K) (hKk : K.k = .int .i64) (hd : d < G.length) (hG : noIt d G = true) (hn : os.Nodup) {k : Nat} (hm : k ∈ os) (hl : l.all (delOK1 P kt d (.int .i64 (k : Int))) = true) :
    adelete P t ⟨G.set d (.amap (sents os)) ++ l, T⟩ (.map d) (.int .i64 (k : Int)) = some (.undef, ⟨G.set d (.amap (sents (os.eraseIdx (os.idxOf k)))) ++ l.map (dcur1 d), T⟩) := by
  have hG2 : noIt d (G.set d (.amap (sents os))) = true := noIt_set hG rfl
  rw [set_del hI hk hK hKk (ks := os) (by rw [m_atS hd]; simp [hd]) hn hm (by rw [List.all_append, hl, del_noIt hG2]; rfl), List.map_append, dcur_noIt hG2, m_setS hd, List.set_set]
end
def curN (c : Option Nat) : Option (AVal × AVal) := c.map fun k => (.int .i64 ((k : Nat) : Int), .agg [])
theorem curN_clo {c : Option Nat} {h t : Nat} : (curN c).all (fun p => clo h t p.1 && clo h t p.2) = true := by
  cases c <;> simp [curN, clo, cloL]
theorem iter_clo {h t mb : Nat} {l : List Nat} {c : Option Nat} (hm : mb < h) : cloB h t (.iter mb (sents l) (curN c)) = true := by
  simp [cloB, sents_clo, curN_clo, hm]
end Go.Hk
namespace Go.Hk
theorem set_same {α : Type} {l : List α} {i : Nat} {x : α} (h : l[i]? = some x) : l.set i x = l := by
  obtain ⟨hi, rfl⟩ := List.getElem?_eq_some_iff.1 h
  exact List.set_getElem_self _
end Go.Hk
namespace Go.Hk
def entO : Option ABlk → Option AVal
  | some (.iter _ _ (some p)) => some (.tup p.1 [p.2])
  | _ => none
theorem q_entry {H : List ABlk} {T : List (Nat × (Nat × Nat))} {b : Nat} : aentry ⟨H, T⟩ (.ptr b 0 0) = entO H[b]? := by
  cases hh : H[b]? with
  | none => simp [aentry, entO, hh]
  | some x =>
    cases x with
    | iter mb l c => cases c <;> simp [aentry, entO, hh]
    | _ => simp [aentry, entO, hh]
theorem q_entO {mb : Nat} {l : List (AVal × AVal)} {p : AVal × AVal} : entO (some (.iter mb l (some p))) = some (.tup p.1 [p.2]) := rfl
attribute [go_sem] q_entry q_entO
theorem shut_setl {G l : List ABlk} {T : List (Nat × (Nat × Nat))} {d : Nat} {os : List Nat} (hs : shut ⟨G, T⟩ = true) (hl : l.all (cloB (G.length + l.length) T.length) = true) :
    (G.set d (.amap (sents os)) ++ l).all (cloB (G.set d (.amap (sents os)) ++ l).length T.length) = true :=
  shut_two hs sents_cloB fun h hh => by
    rw [List.all_eq_true] at hl ⊢
    exact fun x hx => cloB_mono hh (Nat.le_refl _) (hl x hx)
end Go.Hk
namespace Go.Hk
theorem cells0_clo {h t : Nat} : cloB h t (.cells 0 []) = true := rfl
theorem idx_erase {q : List Nat} {k : Nat} : q.eraseIdx (q.idxOf k) = q.erase k := (List.erase_eq_eraseIdx_of_idxOf rfl).symm
theorem del_left {P : Program} {kt : TypeId} {K : TI} (hK : tiOf P kt = some K) (hKk : K.k = .int .i64) {d k : Nat} {left : List Nat} {c : Option (AVal × AVal)} (h : k ∉ left) : delOK1 P kt d (.int .i64 (k : Int)) (.iter d (sents left) c) = true := by
  simp only [delOK1, bne_self_eq_false, Bool.false_or, sents, List.all_map, List.all_eq_true, Function.comp_apply]
  intro x hx
  rw [eq_int hK hKk]
  have hne : ¬ ((k : Int) = (x : Int)) := fun e => h (Int.ofNat.inj e ▸ hx)
  rw [decide_eq_false hne]
  rfl
end Go.Hk
namespace Go.Hk
def clR (t : TypeId) (H : List ABlk) (T : List (Nat × (Nat × Nat))) : Option ABlk → Option (AVal × AMem)
  | some (.amap es) => some (.ifc t (.map H.length), ⟨H ++ [.amap es], T⟩)
  | _ => none
def iCl (xs : List AVal) (m : AMem) : Option (AVal × AMem) :=
  match xs with
  | [.ifc t (.map b)] => clR t m.H m.T m.H[b]?
  | _ => none
theorem iCl_eq {t b : Nat} {H : List ABlk} {T : List (Nat × (Nat × Nat))} : iCl [.ifc t (.map b)] ⟨H, T⟩ = clR t H T H[b]? := rfl
theorem iCl_spec {xs : List AVal} {m m' : AMem} {v : AVal} (h : iCl xs m = some (v, m')) : ∃ t b es, xs = [.ifc t (.map b)] ∧ m.H[b]? = some (.amap es) ∧ v = .ifc t (.map m.H.length) ∧ m' = ⟨m.H ++ [.amap es], m.T⟩ := by
  unfold iCl at h
  split at h
  · rename_i t b
    unfold clR at h
    split at h
    · rename_i es hb
      cases h
      exact ⟨t, b, es, rfl, hb, rfl, rfl⟩
    · cases h
  · cases h
theorem q_clR {t : Nat} {H : List ABlk} {T : List (Nat × (Nat × Nat))} {es : List (AVal × AVal)} : clR t H T (some (.amap es)) = some (.ifc t (.map H.length), ⟨H ++ [.amap es], T⟩) := rfl
attribute [go_sem] q_clR
end Go.Hk
namespace Go.Hk
theorem one_step {ks left left' o : List Nat} {k : Nat} (Q : Nat → Prop) (hp : left.Perm (k :: left')) (hkl : k ∉ left') (hkk : k ∈ ks) (h : ∀ j, j ∈ o ↔ ∃ i, (i ∈ ks ∧ i ∉ left) ∧ Q i ∧ j = i + 1) :
    (Q k → ∀ j, j ∈ sput o (k + 1) ↔ ∃ i, (i ∈ ks ∧ i ∉ left') ∧ Q i ∧ j = i + 1) ∧ (¬ Q k → ∀ j, j ∈ o ↔ ∃ i, (i ∈ ks ∧ i ∉ left') ∧ Q i ∧ j = i + 1) := by
  have hj := fun j => hp.mem_iff (a := j)
  simp only [List.mem_cons] at hj
  have key : ∀ j, (∃ i, (i ∈ ks ∧ i ∉ left') ∧ Q i ∧ j = i + 1) ↔ (j ∈ o ∨ (Q k ∧ j = k + 1)) := fun j => by
    rw [h j]
    constructor
    · rintro ⟨i, ⟨h1, h2⟩, h3, h4⟩
      by_cases e : i = k
      · subst e; exact .inr ⟨h3, h4⟩
      · exact .inl ⟨i, ⟨h1, fun hl => by rcases (hj i).1 hl with a | a; exact e a; exact h2 a⟩, h3, h4⟩
    · rintro (⟨i, ⟨h1, h2⟩, h3, h4⟩ | ⟨h3, h4⟩)
      · exact ⟨i, ⟨h1, fun hl => h2 ((hj i).2 (.inr hl))⟩, h3, h4⟩
      · exact ⟨k, ⟨hkk, hkl⟩, h3, h4⟩
  refine ⟨fun hq j => ?_, fun hq j => ?_⟩
  · rw [sput_mem, key j]
    constructor
    · rintro (a | a)
      · exact .inl a
      · exact .inr ⟨hq, a⟩
    · rintro (a | ⟨_, a⟩)
      · exact .inl a
      · exact .inr a
  · rw [key j]
    exact ⟨.inl, fun a => by rcases a with a | ⟨a, _⟩; exact a; exact absurd a hq⟩
end Go.Hk
namespace Go.Hk
abbrev Pl := Nat → Nat → Prop
def iter (r : Pl) : Nat → Pl
  | 0 => fun i j => i = j
  | n + 1 => fun i j => ∃ k, iter r n i k ∧ r k j
theorem iter_add (r : Pl) (m : Nat) : ∀ (n : Nat) (i j : Nat), (∃ k, iter r m i k ∧ iter r n k j) ↔ iter r (m + n) i j
  | 0, i, j => by simp [iter]
  | n + 1, i, j => by
    have ih := iter_add r m n
    constructor
    · rintro ⟨k, h1, l, h2, h3⟩
      exact ⟨l, (ih i l).1 ⟨k, h1, h2⟩, h3⟩
    · rintro ⟨l, h2, h3⟩
      obtain ⟨k, h1, h4⟩ := (ih i l).2 h2
      exact ⟨k, h1, l, h4, h3⟩
def loopy (y : Rx) : Bool := decide (y.k = 5) && decide (y.hi < 0) && decide (y.lo ≤ 1)
def more (lo hi : Int) (y : Rx) : Option Nat := if 0 ≤ hi then some (hi - lo).toNat else if loopy y then some (1 - lo).toNat else none
def upTo (o : Option Nat) (n : Nat) : Prop := match o with | some m => n ≤ m | none => True
mutual
def R (t : List UInt8) : Rx → Pl
  | .mk k s lo hi l => fun i j =>
    if k = 2 then i < t.length ∧ s.testBit (t.getD i 0).toNat = true ∧ j = i + 1
    else if k = 3 then Rall t l i j
    else if k = 4 then Rany t l i j
    else if k = 5 then (if size (.mk k s lo hi l) = 0 then i = j else (match l with | y :: _ => ∃ n, upTo (more lo hi y) n ∧ iter (R t y) (lo.toNat + n) i j | [] => i = j))
    else i = j
def Rall (t : List UInt8) : List Rx → Pl
  | [] => fun i j => i = j
  | x :: l => fun i j => ∃ k, R t x i k ∧ Rall t l k j
def Rany (t : List UInt8) : List Rx → Pl
  | [] => fun _ _ => False
  | x :: l => fun i j => R t x i j ∨ Rany t l i j
end
theorem iter_mono {r : Pl} (h : ∀ i j, r i j → i ≤ j) : ∀ (n i j : Nat), iter r n i j → i ≤ j
  | 0, i, j, e => by simp only [iter] at e; omega
  | n + 1, i, j, ⟨k, h1, h2⟩ => Nat.le_trans (iter_mono h n i k h1) (h k j h2)
theorem Rall_mono {t : List UInt8} : ∀ (l : List Rx), (∀ x ∈ l, ∀ i j, R t x i j → i ≤ j) → ∀ i j, Rall t l i j → i ≤ j
  | [], _, i, j, e => by simp only [Rall] at e; omega
  | x :: l, h, i, j, e => by
    simp only [Rall] at e
    obtain ⟨k, h1, h2⟩ := e
    exact Nat.le_trans (h x (by simp) i k h1) (Rall_mono l (fun y hy => h y (by simp [hy])) k j h2)
theorem Rany_mono {t : List UInt8} : ∀ (l : List Rx), (∀ x ∈ l, ∀ i j, R t x i j → i ≤ j) → ∀ i j, Rany t l i j → i ≤ j
  | [], _, i, j, e => by simp only [Rany] at e
  | x :: l, h, i, j, e => by
    simp only [Rany] at e
    rcases e with e | e
    · exact h x (by simp) i j e
    · exact Rany_mono l (fun y hy => h y (by simp [hy])) i j e
theorem R_mono (t : List UInt8) (x : Rx) : ∀ i j, R t x i j → i ≤ j := by
  induction x using Rx.ind with
  | h x ih =>
    obtain ⟨k, s, lo, hi, l⟩ := x
    intro i j h
    rw [R] at h
    have ih : ∀ y ∈ l, ∀ i j, R t y i j → i ≤ j := ih
    split at h
    · omega
    · split at h
      · exact Rall_mono l ih i j h
      · split at h
        · exact Rany_mono l ih i j h
        · split at h
          · split at h
            · omega
            · split at h
              · obtain ⟨n, _, hn⟩ := h
                exact iter_mono (ih _ List.mem_cons_self) _ i j hn
              · omega
          · omega
theorem iter_cut {r q : Pl} {a b : Nat} (hq : ∀ i j, q i j → i ≤ j) (hr : ∀ i j, r i j → i ≤ j) (h : ∀ i j, j ≤ b → (r i j ↔ q (a + i) (a + j))) : ∀ (n i j : Nat), j ≤ b → (iter r n i j ↔ iter q n (a + i) (a + j))
  | 0, i, j, _ => by simp only [iter]; omega
  | n + 1, i, j, hj => by
    simp only [iter]
    constructor
    · rintro ⟨k, h1, h2⟩
      have := hr k j h2
      exact ⟨a + k, (iter_cut hq hr h n i k (by omega)).1 h1, (h k j hj).1 h2⟩
    · rintro ⟨k, h1, h2⟩
      have e1 := iter_mono hq n (a + i) k h1
      have e2 := hq k (a + j) h2
      obtain ⟨k, rfl⟩ : ∃ k', k = a + k' := ⟨k - a, by omega⟩
      exact ⟨k, (iter_cut hq hr h n i k (by omega)).2 h1, (h k j hj).2 h2⟩
theorem Rall_cut {t u : List UInt8} {a b : Nat} : ∀ (l : List Rx), (∀ x ∈ l, ∀ i j, j ≤ b → (R u x i j ↔ R t x (a + i) (a + j))) → ∀ i j, j ≤ b → (Rall u l i j ↔ Rall t l (a + i) (a + j))
  | [], _, i, j, _ => by simp only [Rall]; omega
  | x :: l, h, i, j, hj => by
    simp only [Rall]
    have ih := Rall_cut l (fun y hy => h y (by simp [hy]))
    constructor
    · rintro ⟨k, h1, h2⟩
      have := Rall_mono l (fun y _ => R_mono u y) k j h2
      exact ⟨a + k, (h x (by simp) i k (by omega)).1 h1, (ih k j hj).1 h2⟩
    · rintro ⟨k, h1, h2⟩
      have e1 := R_mono t x (a + i) k h1
      have e2 := Rall_mono l (fun y _ => R_mono t y) k (a + j) h2
      obtain ⟨k, rfl⟩ : ∃ k', k = a + k' := ⟨k - a, by omega⟩
      exact ⟨k, (h x (by simp) i k (by omega)).2 h1, (ih k j hj).2 h2⟩
theorem Rany_cut {t u : List UInt8} {a b : Nat} : ∀ (l : List Rx), (∀ x ∈ l, ∀ i j, j ≤ b → (R u x i j ↔ R t x (a + i) (a + j))) → ∀ i j, j ≤ b → (Rany u l i j ↔ Rany t l (a + i) (a + j))
  | [], _, i, j, _ => by simp only [Rany]
  | x :: l, h, i, j, hj => by
    simp only [Rany]
    rw [h x (by simp) i j hj, Rany_cut l (fun y hy => h y (by simp [hy])) i j hj]
theorem R_cut {t : List UInt8} {a b : Nat} (hb : a + b ≤ t.length) (x : Rx) : ∀ i j, j ≤ b → (R ((t.drop a).take b) x i j ↔ R t x (a + i) (a + j)) := by
  induction x using Rx.ind with
  | h x ih =>
    obtain ⟨k, s, lo, hi, l⟩ := x
    intro i j hj
    have ih : ∀ y ∈ l, ∀ i j, j ≤ b → (R ((t.drop a).take b) y i j ↔ R t y (a + i) (a + j)) := ih
    have hlen : ((t.drop a).take b).length = b := by simp; omega
    rw [R, R]
    split
    · rw [hlen]
      constructor
      · rintro ⟨h1, h2, h3⟩
        refine ⟨by omega, ?_, by omega⟩
        rw [List.getD_eq_getElem?_getD, List.getElem?_take, if_pos h1, List.getElem?_drop, ← List.getD_eq_getElem?_getD] at h2
        exact h2
      · rintro ⟨h1, h2, h3⟩
        have h4 : i < b := by omega
        refine ⟨h4, ?_, by omega⟩
        rw [List.getD_eq_getElem?_getD, List.getElem?_take, if_pos h4, List.getElem?_drop, ← List.getD_eq_getElem?_getD]
        exact h2
    · split
      · exact Rall_cut l ih i j hj
      · split
        · exact Rany_cut l ih i j hj
        · split
          · split
            · omega
            · split
              · constructor
                · rintro ⟨n, h1, h2⟩
                  exact ⟨n, h1, (iter_cut (R_mono _ _) (R_mono _ _) (ih _ List.mem_cons_self) _ i j hj).1 h2⟩
                · rintro ⟨n, h1, h2⟩
                  exact ⟨n, h1, (iter_cut (R_mono _ _) (R_mono _ _) (ih _ List.mem_cons_self) _ i j hj).2 h2⟩
              · omega
          · omega
end Go.Hk
