/- How memory goes on: new blocks, stores. -/
import Derived.Test.YtojahfdjfacgaaaHkQ05
namespace Go.Hk
open Go.RowKit

/-- Nothing that was there has turned. -/
structure Grow (w w' : World) : Prop where
  os : w'.os = w.os
  tape : w'.tape = w.tape
  output : w'.output = w.output
  size : w.heap.size ≤ w'.heap.size
  block : ∀ k, k < w.heap.size → w'.heap[k]? = w.heap[k]?

theorem Grow.refl (w : World) : Grow w w := ⟨rfl, rfl, rfl, Nat.le_refl _, fun _ _ => rfl⟩
theorem Grow.trans {a b c : World} (h : Grow a b) (k : Grow b c) : Grow a c :=
  ⟨k.os.trans h.os, k.tape.trans h.tape, k.output.trans h.output, Nat.le_trans h.size k.size, fun i hi => (k.block i (Nat.lt_of_lt_of_le hi h.size)).trans (h.block i hi)⟩
theorem Grow.alloc (w : World) (o : Obj) : Grow w (w.alloc o) := ⟨rfl, rfl, rfl, by simp, fun k hk => heap_alloc_old w o k hk⟩
theorem Grow.drew (w : World) : Grow w w.drew := ⟨rfl, rfl, rfl, Nat.le_refl _, fun _ _ => rfl⟩
theorem Grow.below {w w' : World} (h : Below w.heap.size w w') : Grow w w' := ⟨h.os, h.tape, h.output, h.size, h.block⟩
theorem Grow.toBelow {w w' : World} (h : Grow w w') : Below w.heap.size w w' := ⟨h.os, h.tape, h.output, h.size, h.block⟩

theorem cell_lt {w : World} {a : Addr} {v : Value} (h : w.cell? a = some v) : a.block < w.heap.size := block_lt_of_cell h

theorem own_of {γ γ' : Ghost} (hl : γ'.lo = γ.lo) (h : ∀ (g : Nat) (arr : Array Value) (ty : TypeId) (fz : Nat × Nat), γ.w.heap[g]? = some (Obj.cells arr ty fz) → ∃ arr' fz', γ'.w.heap[g]? = some (Obj.cells arr' ty fz') ∧ arr.size ≤ arr'.size) {g : Nat} {t : TypeId} {n : Nat} (ho : γ.own g t n) : γ'.own g t n := by
  obtain ⟨h1, arr, fz, h2, h4⟩ := ho
  obtain ⟨arr', fz', h3, h5⟩ := h g arr t fz h2
  exact ⟨by rw [hl]; exact h1, arr', fz', h3, by omega⟩
theorem tip_of {γ γ' : Ghost} (hT : γ'.S.T = γ.S.T) (hb : γ'.ι.tb = γ.ι.tb) (hc : γ'.ι.tc = γ.ι.tc) (ho : ∀ g t, γ.own g t 0 → γ'.own g t 0) {t len : Nat} {base : Option Nat} {cap : Nat} (h : γ.cx.tip t len base cap) : γ'.cx.tip t len base cap := by
  obtain ⟨tp, sz, h1, h2, h3, h4⟩ := h
  exact ⟨tp, sz, by rw [hT]; exact h1, h2, fun he => by rw [hb, hc]; exact h3 he, fun hl g hg => ho g _ (h4 hl g hg)⟩
theorem heap_lt {w : World} {g : Nat} {o : Obj} (h : w.heap[g]? = some o) : g < w.heap.size := (Array.getElem?_eq_some_iff.1 h).1
theorem own_grow {γ : Ghost} {w' : World} (hg : Grow γ.w w') {g : Nat} {t : TypeId} {n : Nat} (ho : γ.own g t n) : ({ γ with w := w' } : Ghost).own g t n :=
  own_of (γ := γ) (γ' := { γ with w := w' }) rfl (fun g arr ty fz h => ⟨arr, fz, (hg.block g (heap_lt h)).trans h, Nat.le_refl _⟩) ho
theorem ext_grow {γ : Ghost} {w' : World} (hg : Grow γ.w w') : Ext γ { γ with w := w' } where
  bad := rfl
  lo := rfl
  size := hg.size
  os := hg.os
  tape := hg.tape
  output := hg.output
  cell := fun g o v h => ⟨by rw [show ({ γ with w := w' } : Ghost).w.cell? ⟨g, o, none⟩ = γ.w.cell? ⟨g, o, none⟩ from World.cell?_of_block (w := γ.w) (hg.block g (cell_lt h.1))]; exact h.1, h.2⟩
  blk := fun _ _ _ _ h => h
  tip := fun _ _ _ _ h => tip_of (γ := γ) (γ' := { γ with w := w' }) rfl rfl rfl (fun _ _ => own_grow hg) h
  own := fun _ _ _ => own_grow hg
  frame := fun k hk _ => .inl (hg.block k hk)
  owns := fun _ h => .inl h

theorem Rl.inw {γ : Ghost} (hr : Rl γ) {b : Nat} {x : ABlk} (hb : γ.S.H[b]? = some x) : γ.lo ≤ γ.ι.h b ∧ γ.ι.h b < γ.w.heap.size := hr.own _ (.inl ⟨b, (List.getElem?_eq_some_iff.1 hb).1, rfl⟩)
theorem Rl.ne {γ : Ghost} (hr : Rl γ) {b b' : Nat} {x x' : ABlk} (hb : γ.S.H[b]? = some x) (hb' : γ.S.H[b']? = some x') (h : b' ≠ b) : γ.ι.h b' ≠ γ.ι.h b := fun he =>
  h (hr.hh b' b _ ⟨(List.getElem?_eq_some_iff.1 hb').1, rfl⟩ ⟨(List.getElem?_eq_some_iff.1 hb).1, he.symm⟩)
theorem Rl.net {γ : Ghost} (hr : Rl γ) {b t : Nat} {x : ABlk} (hb : γ.S.H[b]? = some x) : ¬ γ.tokOwns t (γ.ι.h b) := fun he => hr.ht b t _ ⟨(List.getElem?_eq_some_iff.1 hb).1, rfl⟩ he
theorem rl_grow {γ : Ghost} (hr : Rl γ) {w' : World} (hg : Grow γ.w w') : Rl { γ with w := w' } where
  lo := Nat.le_trans hr.lo hg.size
  bad := hr.bad
  objs := fun b x hb => by
    obtain ⟨o, h1, h2⟩ := hr.objs b x hb
    exact ⟨o, by rw [show ({ γ with w := w' } : Ghost).w.heap[γ.ι.h b]? = γ.w.heap[γ.ι.h b]? from hg.block _ (hr.inw hb).2]; exact h1, h2.mono (ext_grow hg).le⟩
  its := fun b mb left cur hb => by
    obtain ⟨es, en, clk, since, seen, c0, h1, h2, h3, h4⟩ := hr.its b mb left cur hb
    exact ⟨es, en, clk, since, seen, c0, h1, (hg.block _ (hr.inw hb).2).trans h2, (hg.block _ (hr.inw h1).2).trans h3, h4.mono (ext_grow hg).le⟩
  toks := fun t g ht => by
    obtain ⟨arr, lo, hi, tp, sz, h1, h2⟩ := hr.toks t g ht
    exact ⟨arr, lo, hi, tp, sz, by rw [show ({ γ with w := w' } : Ghost).w.heap[g]? = γ.w.heap[g]? from hg.block _ (hr.own _ (.inr ⟨t, ht⟩)).2]; exact h1, h2⟩
  own := fun g hg' => ⟨(hr.own g hg').1, Nat.lt_of_lt_of_le (hr.own g hg').2 hg.size⟩
  hh := hr.hh
  ht := hr.ht
  tt := hr.tt

/-- A new block of cells that nobody will write is cells that stay. -/
theorem cell_new {γ : Ghost} (hr : Rl γ) {w' : World} {g j : Nat} {arr : Array Value} {ty : TypeId} {fr : Nat × Nat} (hlt : γ.w.heap.size ≤ g) (hb : w'.heap[g]? = some (.cells arr ty fr)) (hj : j < arr.size)
    (ho : (arr.getD j undef).oneCell' = true) : ({ γ with w := w' } : Ghost).cell g j (arr.getD j undef) := by
  refine ⟨?_, ho, fun hbad => ?_, fun b hb' => ?_, fun t ht => ?_⟩
  · show w'.cell? ⟨g, j, none⟩ = _
    rw [cell_of_row w' g j arr ty fr hb]
    simp [Array.getD, hj]
  · have := hr.bad _ _ hbad; have := hr.lo; omega
  · have := (hr.own g (.inl ⟨b, hb'⟩)).2; omega
  · have := (hr.own g (.inr ⟨t, ht⟩)).2; omega

/-- A new block that may be written. -/
def Ghost.push (γ : Ghost) (x : ABlk) (c z : Nat) (o : Obj) : Ghost :=
  { γ with S := { γ.S with H := γ.S.H ++ [x] }, ι := { γ.ι with h := fun b => if b = γ.S.H.length then γ.w.heap.size else γ.ι.h b, c := fun b => if b = γ.S.H.length then c else γ.ι.c b, z := fun b => if b = γ.S.H.length then z else γ.ι.z b }, w := γ.w.alloc o }

section push
variable {γ : Ghost} {x : ABlk} {c z : Nat} {o : Obj}

theorem push_blkOwns {b g : Nat} : (γ.push x c z o).blkOwns b g ↔ γ.blkOwns b g ∨ (b = γ.S.H.length ∧ g = γ.w.heap.size) := by
  simp only [Ghost.blkOwns, Ghost.push, List.length_append, List.length_cons, List.length_nil]
  constructor
  · rintro ⟨h1, h2⟩
    by_cases hb : b = γ.S.H.length
    · rw [if_pos hb] at h2; exact .inr ⟨hb, h2.symm⟩
    · rw [if_neg hb] at h2; exact .inl ⟨by omega, h2⟩
  · rintro (⟨h1, h2⟩ | ⟨h1, h2⟩)
    · exact ⟨by omega, by rw [if_neg (by omega)]; exact h2⟩
    · exact ⟨by omega, by rw [if_pos h1]; exact h2.symm⟩

theorem own_push {g : Nat} {t : TypeId} {n : Nat} (ho : γ.own g t n) : (γ.push x c z o).own g t n :=
  own_of (γ := γ) (γ' := γ.push x c z o) rfl (fun g arr ty fz h => ⟨arr, fz, (heap_alloc_old _ _ g (heap_lt h)).trans h, Nat.le_refl _⟩) ho
theorem ext_push : Ext γ (γ.push x c z o) where
  bad := rfl
  lo := rfl
  size := by simp [Ghost.push]
  os := rfl
  tape := rfl
  output := rfl
  cell := fun g o' v h => by
    refine ⟨?_, h.2.1, h.2.2.1, fun b hb => ?_, h.2.2.2.2⟩
    · rw [show (γ.push x c z o).w.cell? ⟨g, o', none⟩ = γ.w.cell? ⟨g, o', none⟩ from World.cell?_alloc_lt _ _ _ (cell_lt h.1)]; exact h.1
    · rcases push_blkOwns.1 hb with h1 | ⟨_, h1⟩
      · exact h.2.2.2.1 b h1
      · have := cell_lt h.1; simp only at this; omega
  blk := fun b e g c' ⟨y, h1, h2, h3⟩ => by
    have hlt : b < γ.S.H.length := (List.getElem?_eq_some_iff.1 h1).1
    refine ⟨y, by show (γ.S.H ++ [x])[b]? = _; rw [List.getElem?_append_left hlt]; exact h1, h2, fun he => ?_⟩
    obtain ⟨a1, a2⟩ := h3 he
    exact ⟨by show (if b = γ.S.H.length then _ else _) = _; rw [if_neg (by omega)]; exact a1, by show (if b = γ.S.H.length then _ else _) = _; rw [if_neg (by omega)]; exact a2⟩
  tip := fun _ _ _ _ h => tip_of (γ := γ) (γ' := γ.push x c z o) rfl rfl rfl (fun _ _ => own_push) h
  own := fun _ _ _ => own_push
  frame := fun k hk _ => .inl (heap_alloc_old _ _ k hk)
  owns := fun k h => by
    rcases h with ⟨b, hb⟩ | h
    · rcases push_blkOwns.1 hb with h1 | ⟨_, h1⟩
      · exact .inl (.inl ⟨b, h1⟩)
      · exact .inr (by omega)
    · exact .inl (.inr h)

theorem push_get_lt {b : Nat} (hlt : b < γ.S.H.length) : (γ.push x c z o).S.H[b]? = γ.S.H[b]? := List.getElem?_append_left hlt
theorem push_new {b : Nat} {y : ABlk} (hb : (γ.push x c z o).S.H[b]? = some y) (hn : ¬ b < γ.S.H.length) : b = γ.S.H.length ∧ y = x := by
  have hb' : (γ.S.H ++ [x])[b]? = some y := hb
  have hbe : b = γ.S.H.length := by
    have := (List.getElem?_eq_some_iff.1 hb').1
    simp at this; omega
  subst hbe
  simp only [List.getElem?_concat_length, Option.some.injEq] at hb'
  exact ⟨rfl, hb'.symm⟩
theorem push_at {b : Nat} {y : ABlk} (hr : Rl γ) (hb : γ.S.H[b]? = some y) : (γ.push x c z o).w.heap[(γ.push x c z o).ι.h b]? = γ.w.heap[γ.ι.h b]? := by
  have hlt := (List.getElem?_eq_some_iff.1 hb).1
  show (γ.w.alloc o).heap[if b = γ.S.H.length then _ else _]? = _
  rw [if_neg (by omega), heap_alloc_old _ _ _ (hr.inw hb).2]
theorem push_at_new : (γ.push x c z o).w.heap[(γ.push x c z o).ι.h γ.S.H.length]? = some o := by
  show (γ.w.alloc o).heap[if γ.S.H.length = γ.S.H.length then _ else _]? = _
  rw [if_pos rfl, heap_alloc_new]
theorem rl_push' (hr : Rl γ) (hx : BR γ.cx c z x o)
    (hi : match x with
      | .iter mb left cur => ∃ es en clk since seen c0, γ.S.H[mb]? = some (.amap es) ∧ o = .mapIter (some (γ.ι.h mb)) since seen c0 ∧ γ.w.heap[γ.ι.h mb]? = some (.map en clk) ∧ IR γ.cx left cur en clk since seen c0
      | _ => True) : Rl (γ.push x c z o) where
  lo := by have := hr.lo; simp [Ghost.push]; omega
  bad := hr.bad
  objs := fun b y hb => by
    by_cases hlt : b < γ.S.H.length
    · rw [push_get_lt hlt] at hb
      obtain ⟨q, h1, h2⟩ := hr.objs b y hb
      refine ⟨q, (push_at hr hb).trans h1, ?_⟩
      show BR _ (if b = γ.S.H.length then _ else _) (if b = γ.S.H.length then _ else _) _ _
      rw [if_neg (by omega), if_neg (by omega)]
      exact h2.mono ext_push.le
    · obtain ⟨rfl, rfl⟩ := push_new hb hlt
      refine ⟨o, push_at_new, ?_⟩
      show BR _ (if γ.S.H.length = γ.S.H.length then _ else _) (if γ.S.H.length = γ.S.H.length then _ else _) _ _
      rw [if_pos rfl, if_pos rfl]
      exact hx.mono ext_push.le
  its := fun b mb left cur hb => by
    by_cases hlt : b < γ.S.H.length
    · rw [push_get_lt hlt] at hb
      obtain ⟨es, en, clk, since, seen, c0, h1, h2, h3, h4⟩ := hr.its b mb left cur hb
      have hml := (List.getElem?_eq_some_iff.1 h1).1
      refine ⟨es, en, clk, since, seen, c0, (push_get_lt hml).trans h1, (push_at hr hb).trans ?_, (push_at hr h1).trans h3, h4.mono ext_push.le⟩
      rw [h2]
      show _ = some (Obj.mapIter (some (if mb = γ.S.H.length then _ else _)) _ _ _)
      rw [if_neg (by omega)]
    · obtain ⟨rfl, rfl⟩ := push_new hb hlt
      obtain ⟨es, en, clk, since, seen, c0, h1, rfl, h3, h4⟩ := hi
      have hml := (List.getElem?_eq_some_iff.1 h1).1
      refine ⟨es, en, clk, since, seen, c0, (push_get_lt hml).trans h1, push_at_new.trans ?_, (push_at hr h1).trans h3, h4.mono ext_push.le⟩
      show _ = some (Obj.mapIter (some (if mb = γ.S.H.length then _ else _)) _ _ _)
      rw [if_neg (by omega)]
  toks := fun t g ht => by
    obtain ⟨arr, lo, hi, tp, sz, h1, h2⟩ := hr.toks t g ht
    exact ⟨arr, lo, hi, tp, sz, by rw [show (γ.push x c z o).w.heap[g]? = γ.w.heap[g]? from heap_alloc_old _ _ _ (hr.own _ (.inr ⟨t, ht⟩)).2]; exact h1, h2⟩
  own := fun g hg => by
    have hs : (γ.push x c z o).w.heap.size = γ.w.heap.size + 1 := by simp [Ghost.push]
    have hlo := hr.lo
    show γ.lo ≤ g ∧ _
    rcases hg with ⟨b, hb⟩ | ⟨t, ht⟩
    · rcases push_blkOwns.1 hb with h1 | ⟨_, h1⟩
      · have := hr.own g (.inl ⟨b, h1⟩); omega
      · omega
    · have := hr.own g (.inr ⟨t, ht⟩); omega
  hh := fun b b' g h h' => by
    rcases push_blkOwns.1 h with h1 | ⟨h1, h2⟩ <;> rcases push_blkOwns.1 h' with k1 | ⟨k1, k2⟩
    · exact hr.hh b b' g h1 k1
    · have := (hr.own g (.inl ⟨b, h1⟩)).2; omega
    · have := (hr.own g (.inl ⟨b', k1⟩)).2; omega
    · omega
  ht := fun b t g h ht => by
    rcases push_blkOwns.1 h with h1 | ⟨h1, h2⟩
    · exact hr.ht b t g h1 ht
    · have := (hr.own g (.inr ⟨t, ht⟩)).2; omega
  tt := hr.tt
theorem rl_push (hr : Rl γ) (hz : ∀ e cs, x = .cells e cs → e % 64 = 0 ∨ e % 64 = z)
    (hx : match x with
      | .cells _ cs => ∃ arr ty, o = .cells arr ty (0, 0) ∧ cs.length ≤ arr.size ∧ c * z ≤ arr.size ∧ (∀ (j : Nat) (h : j < cs.length), VR γ.cx (cs[j]) (arr.getD j undef)) ∧ ∀ j, j < cs.length → (arr.getD j undef).oneCell' = true
      | .amap es => es = [] ∧ o = .map #[] 0
      | _ => False) : Rl (γ.push x c z o) := by
  cases x with
  | cells e cs =>
    obtain ⟨arr, ty, h1, h2, h3, h4, h5⟩ := hx
    exact rl_push' hr ⟨arr, ty, h1, h2, h3, h4, h5, hz e cs rfl⟩ trivial
  | amap es =>
    obtain ⟨rfl, rfl⟩ := hx
    exact rl_push' hr ⟨#[], 0, rfl, by simp, by simp, [], by simp, rfl, fun j hj => absurd hj (Nat.not_lt_zero j)⟩ trivial
  | iter mb l q => exact hx.elim
  | loop st pend ps asg body env n => exact hx.elim

theorem push_blk (h0 : x.ep = 0) : (γ.push x c z o).cx.blk γ.S.H.length 0 γ.w.heap.size c :=
  ⟨x, by simp [Ghost.push], ⟨Nat.zero_le _, fun _ => h0⟩, fun _ => by simp [Ghost.push]⟩
theorem push_blk_ep : (γ.push x c z o).cx.blk γ.S.H.length x.ep γ.w.heap.size c :=
  ⟨x, by simp [Ghost.push], ⟨Nat.le_refl _, fun h => h⟩, fun _ => by simp [Ghost.push]⟩
end push

/-! ### A store -/

def Ghost.store (γ : Ghost) (b e : Nat) (cs : List AVal) (o : Nat) (a : AVal) (v : Value) : Ghost :=
  { γ with S := { γ.S with H := γ.S.H.set b (.cells e (cs.set o a)) }, w := γ.w.setCell ⟨γ.ι.h b, o, none⟩ v }

section store
variable {γ : Ghost} {b e o : Nat} {cs : List AVal} {a : AVal} {v : Value}

theorem store_blkOwns {b' g : Nat} : (γ.store b e cs o a v).blkOwns b' g ↔ γ.blkOwns b' g := by simp [Ghost.blkOwns, Ghost.store]

theorem store_heap {k : Nat} (h : k ≠ γ.ι.h b) : (γ.store b e cs o a v).w.heap[k]? = γ.w.heap[k]? := heap_setCell_other γ.w ⟨γ.ι.h b, o, none⟩ k v h

theorem own_store {g : Nat} {t : TypeId} {n : Nat} (ho : γ.own g t n) : (γ.store b e cs o a v).own g t n :=
  own_of (γ := γ) (γ' := γ.store b e cs o a v) rfl (fun g arr ty fz h => by
    by_cases hg : g = γ.ι.h b
    · subst hg
      refine ⟨arr.setIfInBounds o v, fz, ?_, by simp⟩
      show (γ.w.setCell ⟨γ.ι.h b, o, none⟩ v).heap[γ.ι.h b]? = _
      simp only [World.setCell, Array.getElem?_modify, if_true, h]
      simp
    · exact ⟨arr, fz, (store_heap hg).trans h, Nat.le_refl _⟩) ho
theorem ext_store (hb : γ.S.H[b]? = some (.cells e cs)) : Ext γ (γ.store b e cs o a v) where
  bad := rfl
  lo := rfl
  size := by simp [Ghost.store]
  os := rfl
  tape := rfl
  output := rfl
  cell := fun g o' u h => by
    have hlt : b < γ.S.H.length := (List.getElem?_eq_some_iff.1 hb).1
    refine ⟨?_, h.2.1, h.2.2.1, fun b' hb' => h.2.2.2.1 b' (store_blkOwns.1 hb'), h.2.2.2.2⟩
    have hne : g ≠ γ.ι.h b := fun he => h.2.2.2.1 b ⟨hlt, he.symm⟩
    rw [show (γ.store b e cs o a v).w.cell? ⟨g, o', none⟩ = γ.w.cell? ⟨g, o', none⟩ from World.cell?_of_block (w := γ.w) (store_heap hne)]
    exact h.1
  blk := fun b' e' g c ⟨y, h1, h2, h3⟩ => by
    by_cases hbb : b' = b
    · subst hbb
      rw [hb] at h1
      cases h1
      exact ⟨.cells e (cs.set o a), by simp [Ghost.store, (List.getElem?_eq_some_iff.1 hb).1], h2, h3⟩
    · exact ⟨y, by simp only [Ghost.store]; rw [List.getElem?_set_ne (Ne.symm hbb)]; exact h1, h2, h3⟩
  tip := fun _ _ _ _ h => tip_of (γ := γ) (γ' := γ.store b e cs o a v) rfl rfl rfl (fun _ _ => own_store) h
  own := fun _ _ _ => own_store
  frame := fun k _ ho => .inl (store_heap fun he => ho (.inl ⟨b, (List.getElem?_eq_some_iff.1 hb).1, he.symm⟩))
  owns := fun k h => by
    rcases h with ⟨b', hb'⟩ | h
    · exact .inl (.inl ⟨b', store_blkOwns.1 hb'⟩)
    · exact .inl (.inr h)

theorem rl_store (hr : Rl γ) (hb : γ.S.H[b]? = some (.cells e cs)) (hv : VR γ.cx a v) (h1 : v.oneCell' = true) : Rl (γ.store b e cs o a v) where
  lo := by simpa [Ghost.store] using hr.lo
  bad := hr.bad
  objs := fun b' x hb' => by
    have hlt : b < γ.S.H.length := (List.getElem?_eq_some_iff.1 hb).1
    have hb'' : (γ.S.H.set b (.cells e (cs.set o a)))[b']? = some x := hb'
    by_cases hbb : b' = b
    · subst hbb
      rw [List.getElem?_set_self hlt] at hb''
      cases hb''
      obtain ⟨arr, ty, k1, k2, k3, k4, k5⟩ := hr.cells b' e cs hb
      refine ⟨_, heap_setCell_same γ.w _ o arr ty v k1, arr.setIfInBounds o v, ty, rfl, by simpa using k2, by rw [Array.size_setIfInBounds]; exact k3, fun j hj => ?_, fun j hj => ?_, hr.zs b' e cs hb⟩
      · have hj' : j < cs.length := by simpa using hj
        refine VR.ext (ext_store hb) ?_
        by_cases he : o = j
        · subst he
          have : o < arr.size := by omega
          simp [Array.getD, this]; exact hv
        · have := k4 j hj'
          simp only [Array.getD_eq_getD_getElem?, Array.getElem?_setIfInBounds_ne he, List.getElem_set_ne he] at this ⊢
          exact this
      · have hj' : j < cs.length := by simpa using hj
        by_cases he : o = j
        · subst he
          have : o < arr.size := by omega
          simp [Array.getD, this]; exact h1
        · have := k5 j hj'
          simp only [Array.getD_eq_getD_getElem?, Array.getElem?_setIfInBounds_ne he] at this ⊢
          exact this
    · rw [List.getElem?_set_ne (Ne.symm hbb)] at hb''
      obtain ⟨q, k1, k2⟩ := hr.objs b' x hb''
      exact ⟨q, (store_heap (hr.ne hb hb'' hbb)).trans k1, k2.mono (ext_store hb).le⟩
  its := fun b' mb left cur hb' => by
    have hlt : b < γ.S.H.length := (List.getElem?_eq_some_iff.1 hb).1
    have hb'' : (γ.S.H.set b (.cells e (cs.set o a)))[b']? = some (.iter mb left cur) := hb'
    have hbb : b' ≠ b := fun h => by subst h; rw [List.getElem?_set_self hlt] at hb''; cases hb''
    rw [List.getElem?_set_ne (Ne.symm hbb)] at hb''
    obtain ⟨es, en, clk, since, seen, c0, g1, g2, g3, g4⟩ := hr.its b' mb left cur hb''
    have hmb : mb ≠ b := fun h => by subst h; rw [hb] at g1; cases g1
    exact ⟨es, en, clk, since, seen, c0, by show (γ.S.H.set b _)[mb]? = _; rw [List.getElem?_set_ne (Ne.symm hmb)]; exact g1, (store_heap (hr.ne hb hb'' hbb)).trans g2, (store_heap (hr.ne hb g1 hmb)).trans g3, g4.mono (ext_store hb).le⟩
  toks := fun t g ht => by
    have hlt : b < γ.S.H.length := (List.getElem?_eq_some_iff.1 hb).1
    obtain ⟨arr, lo, hi, tp, sz, k1, k2⟩ := hr.toks t g ht
    exact ⟨arr, lo, hi, tp, sz, by rw [store_heap fun he => hr.ht b t g ⟨hlt, he.symm⟩ ht]; exact k1, k2⟩
  own := fun g hg => by
    have : γ.owns g := by
      rcases hg with ⟨b', hb'⟩ | h
      · exact .inl ⟨b', store_blkOwns.1 hb'⟩
      · exact .inr h
    simpa [Ghost.store] using hr.own g this
  hh := fun x y g h h' => hr.hh x y g (store_blkOwns.1 h) (store_blkOwns.1 h')
  ht := fun x t g h ht => hr.ht x t g (store_blkOwns.1 h) ht
  tt := hr.tt

end store

theorem run_store_at {P : Program} {w : World} {g o : Nat} {arr : Array Value} {ty : TypeId} {v : Value} (hg : w.heap[g]? = some (.cells arr ty (0, 0))) (ho : o < arr.size) (h1 : v.oneCell' = true) :
    (Go.store ⟨g, o, none⟩ v).run P w = .ok () (w.setCell ⟨g, o, none⟩ v) := by
  rw [run_store P w _ v _ h1, cell_of_row w g o arr ty (0, 0) hg, Array.getElem?_eq_getElem ho]
  simp [frozen_of_row w g o arr ty hg]

/-- Cells stored one behind the other. -/
theorem run_stores {P : Program} : ∀ (vs : List Value) (ars : List AVal) (γ : Ghost) (b e o i : Nat) (cs : List AVal), Rl γ → γ.S.H[b]? = some (.cells e cs) → ars.length = vs.length → o + i + ars.length ≤ cs.length →
    (∀ (j : Nat) (h : j < ars.length), VR γ.cx (ars[j]) (vs.getD j undef)) → (∀ j, j < ars.length → (vs.getD j undef).oneCell' = true) →
    ∃ γ' : Ghost, (storeCells ⟨γ.ι.h b, o, none⟩ vs i).run P γ.w = .ok () γ'.w ∧ Ext γ γ' ∧ Rl γ' ∧ γ'.S = { γ.S with H := γ.S.H.set b (.cells e (setMany cs (o + i) ars)) }
  | [], ars, γ, b, e, o, i, cs, hr, hb, hl, _, _, _ => by
    cases ars with
    | cons => simp at hl
    | nil =>
      refine ⟨γ, rfl, Ext.refl γ, hr, ?_⟩
      have hlt : b < γ.S.H.length := (List.getElem?_eq_some_iff.1 hb).1
      have : γ.S.H.set b (.cells e cs) = γ.S.H := by
        apply List.ext_getElem?
        intro j
        by_cases hj : b = j
        · subst hj; rw [List.getElem?_set_self hlt, hb]
        · rw [List.getElem?_set_ne hj]
      simp only [setMany, this]
  | v :: vs, [], γ, b, e, o, i, cs, _, _, hl, _, _, _ => by simp at hl
  | v :: vs, a :: ars, γ, b, e, o, i, cs, hr, hb, hl, hle, hv, h1 => by
    obtain ⟨arr, ty, k1, k2, k3, k4, k5⟩ := hr.cells b e cs hb
    have hv0 : VR γ.cx a v := hv 0 (Nat.zero_lt_succ _)
    have h10 : v.oneCell' = true := h1 0 (Nat.zero_lt_succ _)
    simp only [List.length_cons] at hle hl
    have hs := run_store_at (P := P) (o := o + i) k1 (by omega) h10
    have hr' := rl_store (o := o + i) hr hb hv0 h10
    have he' := ext_store (γ := γ) (o := o + i) (a := a) (v := v) hb
    have hlt : b < γ.S.H.length := (List.getElem?_eq_some_iff.1 hb).1
    obtain ⟨γ', e1, e2, e3, e4⟩ := run_stores (P := P) vs ars (γ.store b e cs (o + i) a v) b e o (i + 1) (cs.set (o + i) a) hr' (by simp [Ghost.store, hlt]) (by omega) (by simp; omega)
      (fun j hj => (hv (j + 1) (Nat.succ_lt_succ hj)).ext he') (fun j hj => h1 (j + 1) (Nat.succ_lt_succ hj))
    refine ⟨γ', ?_, he'.trans e2, e3, ?_⟩
    · simp only [storeCells, Sem.run_bind, Addr.add_lit, hs, Result.andThen_ok]
      exact e1
    · rw [e4]
      simp [Ghost.store, setMany, Nat.add_assoc]

end Go.Hk
