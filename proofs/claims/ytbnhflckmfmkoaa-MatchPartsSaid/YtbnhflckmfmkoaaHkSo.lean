/- A set's places, sorted: by the library's contracts. -/
import Derived.Test.YtbnhflckmfmkoaaHkMb
import Derived.Shelf.SlIterI.Sorted
import Derived.Shelf.SlIterI.Keys
import Derived.Maps.Range
set_option linter.unusedSimpArgs false
set_option linter.unusedVariables false
namespace Go.Hk
open Go.Maps Go.WideElems Go.WideShapes Go.RowKit
def unitR : Value → Option (DataW Unit × List MemPlace) := fun _ => some (.nil, [])
theorem set_keys {κ : Cx} {ks : List Nat} {l : List MapEntry} (h : AL κ (sents ks) l) : l.map (·.key) = ks.map fun k : Nat => encZ (k : Int) := by
  obtain ⟨h1, h2⟩ := h
  rw [sents_len] at h1
  apply List.ext_getElem (by simp [h1])
  intro j hj hj'
  simp only [List.length_map] at hj hj'
  have := (h2 j (by rw [sents_len]; exact hj') hj).1
  rw [sents_get] at this
  simp only [List.getElem_map]
  generalize l[j].key = u at this ⊢
  cases this
  rfl
theorem set_owned {P : Program} {kt : TypeId} (hk : P.underlying kt = some (.int .i64)) {γ : Ghost} (hr : Rl γ) {b : Nat} {ks : List Nat} (hb : γ.S.H[b]? = some (.amap (sents ks))) (hn : ks.Nodup) (hl : ks.length < 1000000) (hlt : ∀ k ∈ ks, k < 1000000) :
    ∃ D0 : DataW Unit, γ.w.ownsMap P kt unitR (γ.ι.h b) ks.length D0 ∧ (intKeys D0).Perm (ks.map fun k : Nat => (k : Int)) ∧ Maps.size D0 = ks.length := by
  obtain ⟨en, clk, h1, h2⟩ := hr.maps b _ hb
  have hsz := h2.size
  rw [sents_len] at hsz
  obtain ⟨l, hp, ha⟩ := h2.perm
  have hkeys := set_keys ha
  have hkm : ∀ x ∈ en.toList, ∃ k, k ∈ ks ∧ x.key = encZ ((k : Nat) : Int) := fun x hx => by
    have : x.key ∈ l.map (·.key) := List.mem_map.2 ⟨x, hp.mem_iff.2 hx, rfl⟩
    rw [hkeys, List.mem_map] at this
    obtain ⟨k, h1, h2⟩ := this
    exact ⟨k, h1, h2.symm⟩
  have wfb : ∀ k : Nat, k < 1000000 → IntKind.i64.min ≤ (k : Int) ∧ (k : Int) ≤ IntKind.i64.max := fun k hk => by
    have e1 : IntKind.i64.min = -9223372036854775808 := by rfl
    have e2 : IntKind.i64.max = 9223372036854775807 := by rfl
    rw [e1, e2]
    omega
  have hml : 1000000 ≤ maxLen := by decide
  have hrd : ∀ x ∈ en.toList, ∀ k : Nat, k < 1000000 → x.key = encZ (k : Int) → WideElems.rd P kt unitR x = some (.int .i64 (k : Int), .nil) := fun x _ k hk2 he => by
    have hw : (Lit.int .i64 (k : Int)).wf = true := by simp only [Lit.wf, Bool.and_eq_true, decide_eq_true_eq]; exact wfb k hk2
    simp only [WideElems.rd, he, unitR]
    rw [show encZ (k : Int) = .int .i64 (k : Int) from rfl, keyOf_int_mk hk hw]
    rfl
  have hF : Fit P kt unitR en clk := ⟨by rw [hsz]; omega, ⟨h2.lt, h2.born, by
      refine ((hp.map _).nodup_iff).1 ?_
      rw [hkeys]
      exact List.Pairwise.map _ (fun a b hab e => hab (by have := encZ_inj e; omega)) hn⟩, fun x hx => by
      obtain ⟨k, k1, k2⟩ := hkm x hx
      exact ⟨_, hrd x hx k (hlt k k1) k2⟩⟩
  refine ⟨.map ((en.toList.map (rg P kt unitR)).foldr DataW.insert []), ⟨en, clk, h1, hF, by omega, rfl⟩, ?_, ?_⟩
  · show (((en.toList.map (rg P kt unitR)).foldr DataW.insert []).map fun p => intOf p.1).Perm _
    refine ((sorted_perm _).map _).trans ?_
    rw [List.map_map]
    have e : l.map (fun x => intOf (rg P kt unitR x).1) = ks.map fun k : Nat => (k : Int) := by
      have e2 : l.map (fun x => intOf (rg P kt unitR x).1) = (l.map (·.key)).map fun v => match v with | .int _ a => a | _ => 0 := by
        rw [List.map_map]
        refine List.map_congr_left fun x hx => ?_
        obtain ⟨k, k1, k2⟩ := hkm x (hp.mem_iff.1 hx)
        have := hrd x (hp.mem_iff.1 hx) k (hlt k k1) k2
        simp only [rg, this, Option.getD_some, intOf, Function.comp_apply, k2]
      rw [e2, hkeys, List.map_map]
      rfl
    rw [← e]
    exact (hp.map _).symm
  · show ((en.toList.map (rg P kt unitR)).foldr DataW.insert []).length = _
    rw [(sorted_perm _).length_eq, List.length_map]
    simpa using hsz
theorem told_row {γ : Ghost} (hr : Rl γ) {w' : World} (hb : Below γ.w.heap.size γ.w w') {e : TypeId} {v : Value} {n : Nat} {L : List Int} (h : w'.ownsRow γ.w.heap.size e 1 v n (L.map encZ)) :
    Rl { γ with w := w' } ∧ Ext γ { γ with w := w' } ∧ VR ({ γ with w := w' } : Ghost).cx (slc cI L) v := by
  have hg : Grow γ.w w' := ⟨hb.os, hb.tape, hb.output, hb.size, hb.block⟩
  refine ⟨rl_grow hr hg, ext_grow hg, ?_⟩
  obtain ⟨hn, h⟩ := h
  rw [List.length_map, Nat.mul_one] at hn
  rcases h with ⟨rfl, hz⟩ | ⟨g, cap, cur, rfl, hbase, hgb, r1, r2, r3, r4⟩
  · have : L = [] := List.eq_nil_of_length_eq_zero (by omega)
    subst this
    exact .slnil .no trivial
  · rw [Nat.mul_one] at r4
    subst hn
    have hcl : (fl cI L).length = L.length := by rw [fl_len cI_len, Nat.mul_one]
    have hcur : ∀ j (hj : j < L.length), cur[j]? = some (encZ L[j]) := fun j hj => by
      have := congrArg (·[j]?) r4
      simp only [List.getElem?_take, hj, if_true, List.getElem?_map, Array.getElem?_toList] at this
      rw [this]
      simp [hj]
    have hfl : ∀ j (hj : j < (fl cI L).length), (fl cI L)[j] = .int .i64 (L[j]'(by omega)) := fun j hj => by
      have hj' : j < L.length := by omega
      have : (fl cI L)[j]? = some (.int .i64 L[j]) := by
        have key : ∀ (M : List Int) (q : Nat) (hq : q < M.length), (fl cI M)[q]? = some (.int .i64 M[q]) := by
          intro M
          induction M with
          | nil => intro q hq; simp at hq
          | cons a M ih =>
            intro q hq
            rw [fl_cons]
            cases q with
            | zero => rfl
            | succ q => exact ih q (by simpa using hq)
        exact key L j hj'
      rw [List.getElem?_eq_getElem hj] at this
      exact Option.some.inj this
    refine .sl .no L.length (fl cI L) g 0 cap (fun j => cur.getD j undef) (by omega) (fun j hj => ?_) (fun j hj => ?_) trivial
    · have hj' : j < L.length := by omega
      have hc := hcur j hj'
      have hd : cur.getD j undef = encZ L[j] := by
        rw [Array.getD_eq_getD_getElem?, hc]; rfl
      refine ⟨?_, by rw [hd]; rfl, fun hbad => ?_, fun b hbo => ?_, fun t ht => ?_⟩
      · show w'.cell? _ = _
        simp only [World.cell?, hgb, Nat.zero_add]
        rw [hd]
        simpa using hc
      · have := hr.bad _ _ hbad
        have := hr.lo
        omega
      · have := (hr.own g (.inl ⟨b, hbo⟩)).2
        omega
      · have := (hr.own g (.inr ⟨t, ht⟩)).2
        omega
    · have hj' : j < L.length := by omega
      have hd : cur.getD j undef = encZ L[j] := by
        rw [Array.getD_eq_getD_getElem?, hcur j hj']; rfl
      simp only [hd, hfl j hj]
      exact .int _ _
end Go.Hk
