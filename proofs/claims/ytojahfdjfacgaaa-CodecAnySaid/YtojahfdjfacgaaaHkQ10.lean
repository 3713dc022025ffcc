/- Bytes that are frozen under a string. -/
import Derived.Test.YtojahfdjfacgaaaHkQ09
namespace Go.Hk

section
variable {γ : Ghost} {g n : Nat} {arr : Array Value} {ty : TypeId} {fz : Nat × Nat}

theorem heap_fz (hg : γ.w.heap[g]? = some (.cells arr ty fz)) (hn : n ≠ 0) : ∃ fz', (γ.w.freeze ⟨g, 0, none⟩ n).heap[g]? = some (.cells arr ty fz') ∧ fz'.2 ≤ max fz.2 n := by
  obtain ⟨lo, hi⟩ := fz
  refine ⟨if lo == hi then (0, 0 + n) else (min lo 0, max hi (0 + n)), ?_, ?_⟩
  · simp [World.freeze, hn, Array.getElem?_modify, hg]
  · by_cases h : (lo == hi) = true
    · rw [if_pos h]; simp only; omega
    · rw [if_neg h]; simp only; omega
theorem heap_fz_other {k : Nat} (hk : k ≠ g) : (γ.w.freeze ⟨g, 0, none⟩ n).heap[k]? = γ.w.heap[k]? := by
  unfold World.freeze
  split
  · rfl
  · simp [Array.getElem?_modify, Ne.symm hk]
theorem size_fz : (γ.w.freeze ⟨g, 0, none⟩ n).heap.size = γ.w.heap.size := by
  unfold World.freeze
  split <;> simp
theorem cell_fz (hg : γ.w.heap[g]? = some (.cells arr ty fz)) (hn : n ≠ 0) (q o : Nat) : (γ.w.freeze ⟨g, 0, none⟩ n).cell? ⟨q, o, none⟩ = γ.w.cell? ⟨q, o, none⟩ := by
  by_cases hq : q = g
  · subst hq
    obtain ⟨fz', h1, _⟩ := heap_fz hg hn
    simp only [World.cell?, h1, hg]
  · exact World.cell?_of_block (w := γ.w) (heap_fz_other hq)
theorem own_fz (hg : γ.w.heap[g]? = some (.cells arr ty fz)) (hn : n ≠ 0) {q : Nat} {t : TypeId} {m : Nat} (ho : γ.own q t m) : ({ γ with w := γ.w.freeze ⟨g, 0, none⟩ n } : Ghost).own q t m :=
  own_of (γ := γ) (γ' := { γ with w := γ.w.freeze ⟨g, 0, none⟩ n }) rfl (fun q a t f h => by
    by_cases hq : q = g
    · subst hq
      obtain ⟨fz', h1, _⟩ := heap_fz hg hn
      rw [hg] at h
      cases h
      exact ⟨arr, fz', h1, Nat.le_refl _⟩
    · exact ⟨a, f, (heap_fz_other hq).trans h, Nat.le_refl _⟩) ho
theorem ext_fz (hg : γ.w.heap[g]? = some (.cells arr ty fz)) (hn : n ≠ 0) (hl : γ.lo ≤ g) : Ext γ { γ with w := γ.w.freeze ⟨g, 0, none⟩ n } where
  bad := rfl
  lo := rfl
  size := Nat.le_of_eq (size_fz (γ := γ)).symm
  os := by simp only [World.freeze]; split <;> rfl
  tape := by simp only [World.freeze]; split <;> rfl
  output := by simp only [World.freeze]; split <;> rfl
  cell := fun q o v h => ⟨by rw [show ({ γ with w := γ.w.freeze ⟨g, 0, none⟩ n } : Ghost).w.cell? ⟨q, o, none⟩ = γ.w.cell? ⟨q, o, none⟩ from cell_fz hg hn q o]; exact h.1, h.2⟩
  blk := fun _ _ _ _ h => h
  tip := fun _ _ _ _ h => tip_of (γ := γ) (γ' := { γ with w := γ.w.freeze ⟨g, 0, none⟩ n }) rfl rfl rfl (fun _ _ => own_fz hg hn) h
  own := fun _ _ _ => own_fz hg hn
  frame := fun k _ _ => by
    by_cases hk : k = g
    · subst hk
      obtain ⟨fz', h1, _⟩ := heap_fz hg hn
      exact .inr ⟨hl, arr, ty, fz, fz', hg, h1⟩
    · exact .inl (heap_fz_other hk)
  owns := fun _ h => .inl h
theorem rl_fz (hr : Rl γ) (hg : γ.w.heap[g]? = some (.cells arr ty fz)) (hn : n ≠ 0) (hl : γ.lo ≤ g) (hc : ∃ v, γ.cell g (n - 1) v) : Rl { γ with w := γ.w.freeze ⟨g, 0, none⟩ n } where
  lo := by show γ.lo ≤ (γ.w.freeze ⟨g, 0, none⟩ n).heap.size; rw [size_fz]; exact hr.lo
  bad := hr.bad
  objs := fun b x hb => by
    obtain ⟨v, hv⟩ := hc
    have hlt : b < γ.S.H.length := (List.getElem?_eq_some_iff.1 hb).1
    obtain ⟨o, h1, h2⟩ := hr.objs b x hb
    exact ⟨o, (heap_fz_other fun he => hv.2.2.2.1 b ⟨hlt, he⟩).trans h1, h2.mono (ext_fz hg hn hl).le⟩
  its := fun b mb left cur hb => by
    obtain ⟨v, hv⟩ := hc
    obtain ⟨es, en, clk, since, seen, c0, g1, g2, g3, g4⟩ := hr.its b mb left cur hb
    have hlt : b < γ.S.H.length := (List.getElem?_eq_some_iff.1 hb).1
    have hlm : mb < γ.S.H.length := (List.getElem?_eq_some_iff.1 g1).1
    exact ⟨es, en, clk, since, seen, c0, g1, (heap_fz_other fun he => hv.2.2.2.1 b ⟨hlt, he⟩).trans g2, (heap_fz_other fun he => hv.2.2.2.1 mb ⟨hlm, he⟩).trans g3, g4.mono (ext_fz hg hn hl).le⟩
  toks := fun t q ht => by
    obtain ⟨v, hv⟩ := hc
    obtain ⟨a, lo, hi, tp, sz, h1, h2, h3, h4⟩ := hr.toks t q ht
    by_cases hq : q = g
    · subst hq
      obtain ⟨fz', k1, k2⟩ := heap_fz hg hn
      rw [hg] at h1
      cases h1
      obtain ⟨tp2, sz2, e1, e2⟩ := hv.2.2.2.2 t ht
      rw [h2] at e1
      cases e1
      exact ⟨arr, fz'.1, fz'.2, tp, sz, k1, h2, h3, by simp only at k2; omega⟩
    · exact ⟨a, lo, hi, tp, sz, (heap_fz_other hq).trans h1, h2, h3, h4⟩
  own := fun q h => by
    have := hr.own q h
    exact ⟨this.1, by show q < (γ.w.freeze ⟨g, 0, none⟩ n).heap.size; rw [size_fz]; exact this.2⟩
  hh := hr.hh
  ht := hr.ht
  tt := hr.tt
end

/-- What unsafe.SliceData gives. -/
def adata (m : AMem) (x : AVal) : Option AVal :=
  match x with
  | .sl .nil _ _ => some (.dpt 0 [])
  | .sl (.tok t) n cs => if 0 < n ∧ 0 < cs.length then (match m.T[t]? with | some (_, (_, e)) => some (.dpt e cs) | none => none) else none
  | _ => none
/-- A type of pointers to this one, of one cell. -/
def ptTo (P : Program) (pt e : TypeId) : Bool :=
  decide (P.cellsOf e = 1) && match P.underlying pt with
  | some (.pointer e') => decide (e' = e)
  | _ => false
theorem ptTo_spec {P : Program} {pt e : TypeId} (h : ptTo P pt e = true) : P.cellsOf e = 1 ∧ P.underlying pt = some (.pointer e) := by
  unfold ptTo at h
  simp only [Bool.and_eq_true, decide_eq_true_eq] at h
  refine ⟨h.1, ?_⟩
  have h2 := h.2
  split at h2
  · rename_i e' he
    simp only [decide_eq_true_eq] at h2
    rw [he, h2]
  · cases h2
/-- What unsafe.String gives. -/
def austr (P : Program) (pt : TypeId) (x n : AVal) : Option AVal :=
  match n with
  | .int .i64 n => if n = 0 then (match x with | .dpt _ _ => some (.str []) | _ => none) else (match x with
    | .dpt e cs => if n = cs.length ∧ n ≤ 9223372036854775807 ∧ ptTo P pt e = true then (match bytesOf cs with | some bs => some (.str bs) | none => none) else none
    | _ => none)
  | _ => none

theorem adata_sound {P : Program} {γ : Ghost} {x v : AVal} {u : Value} {ts : Array TypeId} {ty : TypeId} (h : adata γ.S x = some v) (hx : VR γ.cx x u) : ∃ v', (Builtin.unsafeSliceData_ ts ty #[u]).run P γ.w = .ok v' γ.w ∧ VR γ.cx v v' := by
  unfold adata at h
  split at h
  · cases h
    cases hx with
    | slnil => exact ⟨_, Lib.run_unsafeSliceData_nil γ.w ts ty 0 0, .dpz _ _⟩
    | sl _ _ _ g k cap f hn hc hv hr => exact absurd hr.1 (by simp)
  · rename_i t n cs
    split at h
    case isFalse => cases h
    rename_i hn0
    split at h
    · rename_i tp sz e hT
      cases h
      cases hx with
      | slnil => omega
      | sl _ _ _ g k cap f hn hc hv hr =>
        obtain ⟨⟨tp', sz', h1, h2, h3, h4⟩, h5⟩ := hr
        rw [hT] at h1
        cases h1
        have hk : k = 0 := by rcases h5 with h | h <;> omega
        subst hk
        refine ⟨_, Lib.run_unsafeSliceData_row γ.w ts ty _ _ _ (by omega), ?_⟩
        exact .dpt _ _ g f (fun j hj => by simpa using hc j hj) hv (h4 hn0.2 g rfl)
    · cases h
  · cases h

theorem austr_sound {P : Program} {γ : Ghost} (hr : Rl γ) {pt it ty : TypeId} {x n v : AVal} {u k : Value} (h : austr P pt x n = some v) (hx : VR γ.cx x u) (hn : VR γ.cx n k) :
    ∃ v' γ', (Builtin.unsafeString_ #[pt, it] ty #[u, k]).run P γ.w = .ok v' γ'.w ∧ Ext γ γ' ∧ Rl γ' ∧ γ'.S = γ.S ∧ VR γ'.cx v v' := by
  unfold austr at h
  split at h
  case h_2 => cases h
  rename_i n
  cases hn
  split at h
  · rename_i h0
    subst h0
    split at h
    · cases h
      cases hx with
      | dpz => exact ⟨_, γ, Lib.run_unsafeString_none γ.w pt it ty _, Ext.refl γ, hr, rfl, .str []⟩
      | dpt => exact ⟨_, γ, Lib.run_unsafeString_none γ.w pt it ty _, Ext.refl γ, hr, rfl, .str []⟩
    · cases h
  · rename_i h0
    split at h
    case h_2 => cases h
    rename_i e cs
    split at h
    case isFalse => cases h
    rename_i hc
    obtain ⟨hn, h63, hpt⟩ := hc
    obtain ⟨hc1, hpt⟩ := ptTo_spec hpt
    subst hn
    split at h
    case h_2 => cases h
    rename_i bs hbs
    cases h
    have hcs := bytesOf_spec _ _ hbs
    have hlen : cs.length = bs.length := by rw [hcs]; simp
    cases hx with
    | dpz => simp at h0
    | dpt _ _ g f hcell hv ho =>
      obtain ⟨hlo, arr, fz, hg, _⟩ := ho
      have hpos : cs.length ≠ 0 := by omega
      have harr : ∀ j, j < cs.length → j < arr.size := by
        intro j hj
        have h1 := (hcell j hj).1
        simp only [World.cell?, hg] at h1
        rcases Nat.lt_or_ge j arr.size with h | h
        · exact h
        · simp [Array.getElem?_eq_none h] at h1
      have hle : bs.length ≤ arr.size := by
        have := harr (cs.length - 1) (by omega)
        omega
      have hrun := Lib.run_unsafeString_row (P := P) γ.w pt it ty e hpt hc1 g arr.size (by simp [World.shape?, hg]) bs (by intro hb; rw [hb] at hlen; exact hpos hlen) hle (by omega) (fun j x hjx => by
        have hj : j < bs.length := (List.getElem?_eq_some_iff.1 hjx).1
        have hj' : j < cs.length := by omega
        have h1 := (hcell j hj').1
        have h2 := hv j hj'
        have h3 : cs[j] = .int .u8 x.toNat := by
          have : cs[j]? = some (.int .u8 x.toNat) := by rw [hcs]; simp [hjx]
          rw [List.getElem?_eq_getElem hj'] at this
          exact Option.some.inj this
        rw [h3] at h2
        rw [Addr.add_lit, Nat.zero_add, h1]
        cases hf : f j <;> rw [hf] at h2 <;> cases h2
        rfl)
      rw [← hlen] at hrun
      exact ⟨_, { γ with w := γ.w.freeze ⟨g, 0, none⟩ cs.length }, hrun, ext_fz hg hpos hlo, rl_fz hr hg hpos hlo ⟨_, hcell (cs.length - 1) (by omega)⟩, rfl, .str bs⟩
end Go.Hk
