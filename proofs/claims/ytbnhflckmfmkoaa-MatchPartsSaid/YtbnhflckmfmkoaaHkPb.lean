import Derived.Test.YtbnhflckmfmkoaaHkPa
import Derived.Maps.RangeRun
import Derived.IntWalk
/- Tokens: what may be appended to; the built-in append. -/
namespace Go.Hk
open Go.RowKit

theorem frozen_high {w : World} {g o : Nat} {arr : Array Value} {ty : TypeId} {lo hi : Nat} (hg : w.heap[g]? = some (.cells arr ty (lo, hi))) (h : hi ≤ o) : w.frozen? ⟨g, o, none⟩ = false := by
  simp only [World.frozen?, hg]
  simp; omega

theorem heap_setCell_fr (w : World) (g i : Nat) (cs : Array Value) (t : TypeId) (fr : Nat × Nat) (v : Value) (hg : w.heap[g]? = some (.cells cs t fr)) :
    (w.setCell ⟨g, i, none⟩ v).heap[g]? = some (.cells (cs.setIfInBounds i v) t fr) := by
  simp only [World.setCell, Array.getElem?_modify, if_true, hg]
  simp

/-- Cells stored into a row behind what a string shares. -/
theorem run_storeRow {P : Program} {g ty lo hi : Nat} {o : Nat} : ∀ (vs : List Value) (w : World) (i : Nat) (arr : Array Value), w.heap[g]? = some (.cells arr ty (lo, hi)) → hi ≤ o + i → o + i + vs.length ≤ arr.size → (∀ v ∈ vs, v.oneCell' = true) →
    ∃ w' arr', (storeCells ⟨g, o, none⟩ vs i).run P w = .ok () w' ∧ w'.heap[g]? = some (.cells arr' ty (lo, hi)) ∧ arr'.size = arr.size ∧ (∀ j, j < vs.length → arr'.getD (o + i + j) undef = vs.getD j undef) ∧
      (∀ j, j < o + i → arr'.getD j undef = arr.getD j undef) ∧ (∀ k, k ≠ g → w'.heap[k]? = w.heap[k]?) ∧ w'.heap.size = w.heap.size ∧ w'.os = w.os ∧ w'.tape = w.tape ∧ w'.output = w.output
  | [], w, i, arr, hg, _, _, _ => ⟨w, arr, rfl, hg, rfl, fun j hj => absurd hj (Nat.not_lt_zero j), fun _ _ => rfl, fun _ _ => rfl, rfl, rfl, rfl, rfl⟩
  | v :: vs, w, i, arr, hg, hhi, hle, h1 => by
    simp only [List.length_cons] at hle
    have h10 : v.oneCell' = true := h1 v (by simp)
    have hs : (Go.store ⟨g, o + i, none⟩ v).run P w = .ok () (w.setCell ⟨g, o + i, none⟩ v) := by
      rw [run_store P w _ v _ h10, cell_of_row w g _ arr ty (lo, hi) hg, Array.getElem?_eq_getElem (by omega)]
      simp [frozen_high hg hhi]
    obtain ⟨w', arr', e1, e2, e3, e4, e5, e6, e7, e8, e9, e10⟩ := run_storeRow (P := P) (o := o) vs (w.setCell ⟨g, o + i, none⟩ v) (i + 1) (arr.setIfInBounds (o + i) v) (heap_setCell_fr w g _ arr ty _ v hg) (by omega) (by simp; omega) (fun u hu => h1 u (by simp [hu]))
    refine ⟨w', arr', ?_, e2, by simpa using e3, fun j hj => ?_, fun j hj => ?_, fun k hk => (e6 k hk).trans (heap_setCell_other w ⟨g, o + i, none⟩ k v hk), by simpa using e7, e8, e9, e10⟩
    · simp only [storeCells, Sem.run_bind, Addr.add_lit, hs, Result.andThen_ok]
      exact e1
    · cases j with
      | zero =>
        have := e5 (o + i) (by omega)
        simp only [Nat.add_zero]
        rw [this]
        have hlt : o + i < arr.size := by omega
        simp [Array.getD, hlt]
      | succ j =>
        have := e4 j (by simpa using hj)
        rw [show o + i + (j + 1) = o + (i + 1) + j by omega, this]
        simp
    · rw [e5 j (by omega)]
      simp only [Array.getD_eq_getD_getElem?, Array.getElem?_setIfInBounds_ne (show o + i ≠ j by omega)]

/-- A token is laid, or goes on. -/
def Ghost.tok (γ : Ghost) (t : Nat) (T' : List (Nat × (Nat × Nat))) (base : Option Nat) (cap : Nat) (w' : World) : Ghost :=
  { γ with S := { γ.S with T := T' }, ι := { γ.ι with tb := fun x => if x = t then base else γ.ι.tb x, tc := fun x => if x = t then cap else γ.ι.tc x }, w := w' }

/-- What is asked of a step that turns token t alone. -/
structure TokStep (γ : Ghost) (t : Nat) (T' : List (Nat × (Nat × Nat))) (tp : Nat) (sz : Nat × Nat) (base : Option Nat) (cap : Nat) (w' : World) : Prop where
  os : w'.os = γ.w.os
  tape : w'.tape = γ.w.tape
  output : w'.output = γ.w.output
  size : γ.w.heap.size ≤ w'.heap.size
  at_ : T'[t]? = some (tp, sz)
  other : ∀ x, x ≠ t → T'[x]? = γ.S.T[x]?
  old : ∀ tp0 sz0, γ.S.T[t]? = some (tp0, sz0) → sz0 = sz ∧ tp0 ≤ tp ∧ (tp0 = tp → base = γ.ι.tb t ∧ cap = γ.ι.tc t)
  block : ∀ k, k < γ.w.heap.size → ¬ γ.tokOwns t k → w'.heap[k]? = γ.w.heap[k]?
  low : ∀ k tp0 sz0 o, γ.tokOwns t k → γ.S.T[t]? = some (tp0, sz0) → o < tp0 → w'.cell? ⟨k, o, none⟩ = γ.w.cell? ⟨k, o, none⟩
  new : ∀ g, base = some g → tp < cap * sz.1 → (γ.tokOwns t g ∨ γ.w.heap.size ≤ g) ∧ g < w'.heap.size ∧ ∃ arr lo hi, w'.heap[g]? = some (.cells arr sz.2 (lo, hi)) ∧ cap * sz.1 ≤ arr.size ∧ hi ≤ tp
  typed : 0 < tp → ∀ g, base = some g → γ.lo ≤ g ∧ ∃ arr fz, w'.heap[g]? = some (.cells arr sz.2 fz) ∧ 0 ≤ arr.size
  tys : ∀ k arr ty fz, γ.tokOwns t k → γ.w.heap[k]? = some (.cells arr ty fz) → ∃ arr' fz', w'.heap[k]? = some (.cells arr' ty fz') ∧ arr.size ≤ arr'.size

section tok
variable {γ : Ghost} {t : Nat} {T' : List (Nat × (Nat × Nat))} {tp : Nat} {sz : Nat × Nat} {base : Option Nat} {cap : Nat} {w' : World}

theorem tok_owns_other {x g : Nat} (h : TokStep γ t T' tp sz base cap w') (hx : x ≠ t) : (γ.tok t T' base cap w').tokOwns x g ↔ γ.tokOwns x g := by
  simp only [Ghost.tokOwns, Ghost.tok, h.other x hx, if_neg hx]

theorem tok_owns_self {g : Nat} (h : TokStep γ t T' tp sz base cap w') : (γ.tok t T' base cap w').tokOwns t g ↔ base = some g ∧ tp < cap * sz.1 := by
  simp only [Ghost.tokOwns, Ghost.tok, h.at_, if_pos]
  constructor
  · rintro ⟨a, b, h1, h2, h3⟩
    cases h1
    exact ⟨h2, h3⟩
  · rintro ⟨h1, h2⟩
    exact ⟨tp, sz, rfl, h1, h2⟩

theorem own_tok (h : TokStep γ t T' tp sz base cap w') {g : Nat} {ty : TypeId} {n : Nat} (ho : γ.own g ty n) : (γ.tok t T' base cap w').own g ty n :=
  own_of (γ := γ) (γ' := γ.tok t T' base cap w') rfl (fun g arr ty fz hg => by
    by_cases hk : γ.tokOwns t g
    · exact h.tys g arr ty fz hk hg
    · exact ⟨arr, fz, (h.block g (heap_lt hg) hk).trans hg, Nat.le_refl _⟩) ho
theorem ext_tok (h : TokStep γ t T' tp sz base cap w') : Ext γ (γ.tok t T' base cap w') where
  bad := rfl
  lo := rfl
  size := h.size
  os := h.os
  tape := h.tape
  output := h.output
  cell := fun g o v hc => by
    have hlt := cell_lt hc.1
    simp only at hlt
    refine ⟨?_, hc.2.1, hc.2.2.1, hc.2.2.2.1, fun x hx => ?_⟩
    · show w'.cell? _ = _
      by_cases ho : γ.tokOwns t g
      · obtain ⟨tp0, sz0, h1, h2⟩ := hc.2.2.2.2 t ho
        rw [h.low g tp0 sz0 o ho h1 h2]
        exact hc.1
      · rw [World.cell?_of_block (w := γ.w) (h.block g hlt ho)]
        exact hc.1
    · by_cases hxt : x = t
      · subst hxt
        obtain ⟨hb, hl⟩ := (tok_owns_self h).1 hx
        refine ⟨tp, sz, h.at_, ?_⟩
        rcases (h.new g hb hl).1 with ho | ho
        · obtain ⟨tp0, sz0, h1, h2⟩ := hc.2.2.2.2 x ho
          have := (h.old tp0 sz0 h1).2.1
          omega
        · omega
      · obtain ⟨tp0, sz0, h1, h2⟩ := hc.2.2.2.2 x ((tok_owns_other h hxt).1 hx)
        exact ⟨tp0, sz0, (h.other x hxt).trans h1, h2⟩
  blk := fun _ _ _ _ hb => hb
  tip := fun x len b c ⟨tp0, sz0, h1, h2, h3, h9⟩ => by
    by_cases hxt : x = t
    · subst hxt
      obtain ⟨rfl, h5, h6⟩ := h.old tp0 sz0 h1
      refine ⟨tp, sz0, h.at_, by omega, fun he => ?_, fun hl g hg => own_tok h (h9 hl g hg)⟩
      obtain ⟨k1, k2⟩ := h6 (by omega)
      obtain ⟨k3, k4⟩ := h3 (by omega)
      exact ⟨by show (if x = x then _ else _) = _; rw [if_pos rfl, k1, k3], by show (if x = x then _ else _) = _; rw [if_pos rfl, k2, k4]⟩
    · refine ⟨tp0, sz0, (h.other x hxt).trans h1, h2, fun he => ?_, fun hl g hg => own_tok h (h9 hl g hg)⟩
      obtain ⟨k3, k4⟩ := h3 he
      exact ⟨by show (if x = t then _ else _) = _; rw [if_neg hxt, k3], by show (if x = t then _ else _) = _; rw [if_neg hxt, k4]⟩
  own := fun _ _ _ => own_tok h
  frame := fun k hk ho => .inl (h.block k hk fun hx => ho (.inr ⟨t, hx⟩))
  owns := fun k hk => by
    rcases hk with hk | ⟨x, hx⟩
    · exact .inl (.inl hk)
    · by_cases hxt : x = t
      · subst hxt
        obtain ⟨hb, hl⟩ := (tok_owns_self h).1 hx
        rcases (h.new k hb hl).1 with ho | ho
        · exact .inl (.inr ⟨x, ho⟩)
        · exact .inr ho
      · exact .inl (.inr ⟨x, (tok_owns_other h hxt).1 hx⟩)

theorem rl_tok (hr : Rl γ) (h : TokStep γ t T' tp sz base cap w') : Rl (γ.tok t T' base cap w') where
  lo := Nat.le_trans hr.lo h.size
  bad := hr.bad
  objs := fun b x hb => by
    obtain ⟨o, k1, k2⟩ := hr.objs b x hb
    exact ⟨o, (h.block _ (hr.inw hb).2 (hr.net hb)).trans k1, k2.mono (ext_tok h).le⟩
  its := fun b mb left cur hb => by
    obtain ⟨es, en, clk, since, seen, c0, g1, g2, g3, g4⟩ := hr.its b mb left cur hb
    exact ⟨es, en, clk, since, seen, c0, g1, (h.block _ (hr.inw hb).2 (hr.net hb)).trans g2, (h.block _ (hr.inw g1).2 (hr.net g1)).trans g3, g4.mono (ext_tok h).le⟩
  toks := fun x g hx => by
    by_cases hxt : x = t
    · subst hxt
      obtain ⟨hb, hl⟩ := (tok_owns_self h).1 hx
      obtain ⟨_, _, arr, lo, hi, a1, a2, a3⟩ := h.new g hb hl
      refine ⟨arr, lo, hi, tp, sz, a1, h.at_, ?_, a3⟩
      show (if x = x then _ else _) * _ ≤ _
      rw [if_pos rfl]
      exact a2
    · have hx' := (tok_owns_other h hxt).1 hx
      obtain ⟨arr, lo, hi, tp0, sz0, a1, a2, a3, a4⟩ := hr.toks x g hx'
      refine ⟨arr, lo, hi, tp0, sz0, (h.block g (hr.own g (.inr ⟨x, hx'⟩)).2 fun ho => hxt (hr.tt x t g hx' ho)).trans a1, (h.other x hxt).trans a2, ?_, a4⟩
      show (if x = t then _ else _) * _ ≤ _
      rw [if_neg hxt]
      exact a3
  own := fun g hg => by
    rcases hg with ⟨b, hb⟩ | ⟨x, hx⟩
    · have := hr.own g (.inl ⟨b, hb⟩)
      exact ⟨this.1, Nat.lt_of_lt_of_le this.2 h.size⟩
    · by_cases hxt : x = t
      · subst hxt
        obtain ⟨hb, hl⟩ := (tok_owns_self h).1 hx
        obtain ⟨h1, h2, _⟩ := h.new g hb hl
        rcases h1 with h1 | h1
        · exact ⟨(hr.own g (.inr ⟨x, h1⟩)).1, h2⟩
        · exact ⟨Nat.le_trans hr.lo h1, h2⟩
      · have := hr.own g (.inr ⟨x, (tok_owns_other h hxt).1 hx⟩)
        exact ⟨this.1, Nat.lt_of_lt_of_le this.2 h.size⟩
  hh := hr.hh
  ht := fun b x g hb hx => by
    by_cases hxt : x = t
    · subst hxt
      obtain ⟨hb', hl⟩ := (tok_owns_self h).1 hx
      rcases (h.new g hb' hl).1 with h1 | h1
      · exact hr.ht b x g hb h1
      · have := (hr.own g (.inl ⟨b, hb⟩)).2; omega
    · exact hr.ht b x g hb ((tok_owns_other h hxt).1 hx)
  tt := fun x y g hx hy => by
    by_cases hxt : x = t
    · by_cases hyt : y = t
      · omega
      · subst hxt
        obtain ⟨hb', hl⟩ := (tok_owns_self h).1 hx
        have hy' := (tok_owns_other h hyt).1 hy
        rcases (h.new g hb' hl).1 with h1 | h1
        · exact hr.tt _ _ g h1 hy'
        · have := (hr.own g (.inr ⟨y, hy'⟩)).2; omega
    · have hx' := (tok_owns_other h hxt).1 hx
      by_cases hyt : y = t
      · subst hyt
        obtain ⟨hb', hl⟩ := (tok_owns_self h).1 hy
        rcases (h.new g hb' hl).1 with h1 | h1
        · exact hr.tt _ _ g hx' h1
        · have := (hr.own g (.inr ⟨x, hx'⟩)).2; omega
      · exact hr.tt _ _ g hx' ((tok_owns_other h hyt).1 hy)
end tok

/-! ### append -/

def okR (T : List (Nat × (Nat × Nat))) (r : Rt) (len : Nat) (sz : Nat × Nat) : Bool :=
  match r with
  | .no => false
  | .full => true
  | .nil => true
  | .tok t => T[t]? == some (len, sz)
def nxR (T : List (Nat × (Nat × Nat))) (r : Rt) : Rt :=
  match r with
  | .tok t => .tok t
  | _ => .tok T.length
def nxT (T : List (Nat × (Nat × Nat))) (r : Rt) (len : Nat) (sz : Nat × Nat) : List (Nat × (Nat × Nat)) :=
  match r with
  | .tok t => T.set t (len, sz)
  | _ => T ++ [(len, sz)]

/-- What a second operand of append bears: how many elements, and their cells. -/
def alist (m : AMem) : AVal → Option (Nat × List AVal)
  | .sl _ n cs => some (n, cs)
  | .str s => some (s.length, s.map fun c => .int .u8 c.toNat)
  | .msl b e o n k => (match m.H[b]? with
    | some (.cells e' cs) => if e = e' ∧ o + k ≤ cs.length then some (n, (cs.drop o).take k) else none
    | _ => none)
  | _ => none

structure AppT where
  e : TypeId
  size : Nat
  bytes : Nat

def appT (P : Program) (t t2 : TypeId) : Option AppT :=
  match tiOf P t, tiOf P t2 with
  | some I, some J => (match I.k, J.k with
    | .slice e, .slice _ => (match tiOf P e with
      | some E => (match E.zero.bind cellsOf with
        | some zs => if 0 < E.size ∧ zs.length = E.size then some ⟨e, E.size, E.bytes⟩ else none
        | none => none)
      | none => none)
    | .slice e, .str => (match tiOf P e with
      | some E => (match E.zero.bind cellsOf with
        | some zs => if 0 < E.size ∧ zs.length = E.size then some ⟨e, E.size, E.bytes⟩ else none
        | none => none)
      | none => none)
    | _, _ => none)
  | _, _ => none

def aappend (P : Program) (t t2 : TypeId) (m : AMem) (s x : AVal) : Option (AVal × AMem) :=
  match appT P t t2 with
  | some A => (match alist m x with
    | some (k, ds) => (match s with
      | .sl r n cs =>
        if ds.length = k * A.size ∧ cs.length = n * A.size ∧ (n + k) * A.bytes ≤ 140737488355328 ∧ n + k ≤ 4611686018427387903 ∧ okR m.T r cs.length (A.size, A.e) = true ∧ (r = .full → n = 0 ∨ 0 < k) then
          some (.sl (nxR m.T r) (n + k) (cs ++ ds), { m with T := nxT m.T r (cs.length + ds.length) (A.size, A.e) })
        else none
      | _ => none)
    | none => none)
  | none => none

def optStore (base : Option Addr) (n : Nat) (news : List Value) : Sem Unit :=
  match base with
  | some a => storeCells (a.add n) news
  | none => pure ()

/-- The machine's append: in the row, or into a new one. -/
theorem run_append_two {P : Program} {w : World} {t t2 ty e : TypeId} {i : TypeInfo} {d2 : TypeDesc} {z : Value} (ht : P.underlying t = some (.slice e)) (ht2 : P.underlying t2 = some d2) (hd2 : d2 = .string ∨ ∃ e2, d2 = .slice e2) (hi : P.info? e = some i) (hz : i.zero = some z)
    {base : Option Addr} {n cap k : Nat} {x : Value} {olds news : List Value}
    (hlen : ∀ w', (Builtin.lenOf x).run P w' = .ok k w')
    (hnew : ∀ w' : World, w'.heap = w.heap → (Builtin.firstCells i.size k x).run P w' = .ok news.toArray w')
    (hold : ∀ w' : World, w'.heap = w.heap → (Builtin.firstCells i.size n (.slice base n cap)).run P w' = .ok olds.toArray w')
    (hby : (n + k) * i.bytes ≤ 140737488355328) (hle : n + k ≤ 4611686018427387903) :
    (n + k ≤ cap → (Builtin.append_ #[t, t2] ty #[.slice base n cap, x]).run P w =
      ((optStore base (n * i.size) news).run P w).andThen fun _ w' => .ok (.slice base (n + k) cap) w') ∧
    (cap < n + k → (Builtin.append_ #[t, t2] ty #[.slice base n cap, x]).run P w =
      .ok (.slice (some ⟨w.heap.size, 0, none⟩) (n + k) (grownCap w (n + k) cap e)) (w.drew.alloc (.cells ((olds ++ news).toArray ++ Builtin.zeroCells z.cells (grownCap w (n + k) cap e - (n + k))) e))) := by
  refine ⟨fun h => ?_, fun h => ?_⟩
  · have e1 := hnew w rfl
    have e0 := hlen w
    rcases hd2 with rfl | ⟨e2, rfl⟩ <;> cases base <;> simp [Builtin.append_, run_underlying ht, run_underlying ht2, sizeOf, typeInfo, hi, e0, h, e1, optStore]
  · have h1 : ¬ (n + k ≤ cap) := by omega
    have h63 : ¬ (9223372036854775807 < ((n : Int) + (k : Int))) := by omega
    have h48 : ¬ (281474976710656 < Builtin.nextslicecap (n + k) cap * i.bytes) := by have := growslice_fits h hby; omega
    have e0 := hlen w
    have e1 := hnew w.drew rfl
    have e3 := hold w.drew rfl
    rcases hd2 with rfl | ⟨e2, rfl⟩ <;> simp [Builtin.append_, run_underlying ht, run_underlying ht2, sizeOf, typeInfo, zeroValue, hi, hz, e0, h1, h63, h48, Question.forced, e1, e3, newRow, grownCap] <;>
      (congr 2; apply Array.ext'; simp [List.append_assoc])

/-- What a slice bears, read off the machine's memory. -/
theorem read_alist {P : Program} {γ : Ghost} (hr : Rl γ) {x : AVal} {u : Value} {k size : Nat} {ds : List AVal} (hx : VR γ.cx x u) (h : alist γ.S x = some (k, ds)) (hl : ds.length = k * size) :
    ∃ news : List Value, news.length = ds.length ∧ (∀ (j : Nat) (h : j < ds.length), VR γ.cx (ds[j]) (news.getD j undef)) ∧ (∀ v ∈ news, v.oneCell' = true) ∧
      (∀ w', (Builtin.lenOf u).run P w' = .ok k w') ∧ ∀ w' : World, w'.heap = γ.w.heap → (Builtin.firstCells size k u).run P w' = .ok news.toArray w' := by
  have cells : ∀ (g o n cap : Nat) (f : Nat → Value) (cs : List AVal), cs.length = n * size → (∀ j, j < cs.length → γ.w.cell? ⟨g, o + j, none⟩ = some (f j) ∧ (f j).oneCell' = true) → (∀ (j : Nat) (h : j < cs.length), VR γ.cx (cs[j]) (f j)) →
      ∃ news : List Value, news.length = cs.length ∧ (∀ (j : Nat) (h : j < cs.length), VR γ.cx (cs[j]) (news.getD j undef)) ∧ (∀ v ∈ news, v.oneCell' = true) ∧
        ∀ w' : World, w'.heap = γ.w.heap → (Builtin.firstCells size n (.slice (some ⟨g, o, none⟩) n cap)).run P w' = .ok news.toArray w' := by
    intro g o n cap f cs hl hc hv
    refine ⟨(List.range cs.length).map f, by simp, fun j hj => by simpa [List.getD_eq_getElem?_getD, hj] using hv j hj, fun v hv' => ?_, fun w' hw' => ?_⟩
    · obtain ⟨j, hj, rfl⟩ := List.mem_map.1 hv'
      exact (hc j (by simpa using hj)).2
    · have := run_loadCells (P := P) w' ⟨g, o, none⟩ (n * size) f (fun j hj => by
        rw [Addr.add_lit]
        have := (hc j (by omega)).1
        simpa [World.cell?, hw'] using this)
      simp only [Builtin.firstCells, this, hl]
  cases x <;> simp only [alist, reduceCtorEq] at h
  case str s =>
    simp only [Option.some.injEq, Prod.mk.injEq] at h
    obtain ⟨rfl, rfl⟩ := h
    cases hx
    refine ⟨s.map fun c => .int .u8 c.toNat, by simp, fun j hj => ?_, fun v hv => ?_, fun w' => ?_, fun w' _ => ?_⟩
    · have hj' : j < s.length := by simpa using hj
      simp only [List.getElem_map, List.getD_eq_getElem?_getD, List.getElem?_map, List.getElem?_eq_getElem hj', Option.map_some, Option.getD_some]
      exact .int _ _
    · obtain ⟨c, _, rfl⟩ := List.mem_map.1 hv
      rfl
    · simp [Builtin.lenOf, ByteArray.size]
    · have : (ByteArray.mk s.toArray).extract 0 s.length = ByteArray.mk s.toArray := by rw [extract_str]; simp
      simp [Builtin.firstCells, this]
  case sl r n cs =>
    simp only [Option.some.injEq, Prod.mk.injEq] at h
    obtain ⟨rfl, rfl⟩ := h
    cases hx with
    | slnil => exact ⟨[], rfl, fun j hj => absurd hj (Nat.not_lt_zero j), fun v hv => absurd hv (by simp), fun w' => by simp [Builtin.lenOf], fun w' _ => by simp [Builtin.firstCells]⟩
    | slz => exact ⟨[], rfl, fun j hj => absurd hj (Nat.not_lt_zero j), fun v hv => absurd hv (by simp), fun w' => by simp [Builtin.lenOf], fun w' _ => by simp [Builtin.firstCells, loadCells, loadCellsFrom]⟩
    | sl _ _ _ g o cap f hn hc hv hrr =>
      obtain ⟨news, a1, a2, a3, a4⟩ := cells g o n cap f cs hl (fun j hj => ⟨(hc j hj).1, (hc j hj).2.1⟩) hv
      exact ⟨news, a1, a2, a3, fun w' => by simp [Builtin.lenOf], a4⟩
  case msl b e o n k' =>
    cases hb : γ.S.H[b]? with
    | none => simp [hb] at h
    | some y =>
      cases y with
      | amap es => simp [hb] at h
      | iter _ _ _ => simp [hb] at h
      | loop _ _ _ _ _ _ _ => simp [hb] at h
      | cells e' cs =>
        simp only [hb] at h
        split at h
        · rename_i hcond
          obtain ⟨rfl, hle⟩ := hcond
          simp only [Option.some.injEq, Prod.mk.injEq] at h
          obtain ⟨rfl, rfl⟩ := h
          obtain ⟨arr, ty, hh, hlen, _, hv, ho⟩ := hr.cells b e cs hb
          cases hx with
          | msl _ _ _ _ _ g c cap hblk hn hoo =>
            obtain ⟨y, hy, _, hy2⟩ := hblk
            rw [hb] at hy
            cases hy
            obtain ⟨rfl, _⟩ := hy2 rfl
            obtain ⟨news, a1, a2, a3, a4⟩ := cells (γ.ι.h b) o n cap (fun j => arr.getD (o + j) undef) ((cs.drop o).take k') hl (fun j hj => by
              simp only [List.length_take, List.length_drop] at hj
              rw [cell_of_row _ _ _ _ _ _ hh]
              have : o + j < arr.size := by omega
              exact ⟨by simp [Array.getD, this], ho _ (by omega)⟩) (fun j hj => by
              simp only [List.length_take, List.length_drop] at hj
              simp only [List.getElem_take, List.getElem_drop]
              exact hv _ (by omega))
            exact ⟨news, a1, a2, a3, fun w' => by simp [Builtin.lenOf], a4⟩
        · cases h

theorem appT_spec {P : Program} {t t2 : TypeId} {A : AppT} (h : appT P t t2 = some A) :
    ∃ d2 i z, P.underlying t = some (.slice A.e) ∧ P.underlying t2 = some d2 ∧ (d2 = .string ∨ ∃ e2, d2 = .slice e2) ∧ P.info? A.e = some i ∧ i.size = A.size ∧ i.bytes = A.bytes ∧ i.zero = some z ∧ z.cells.size = A.size ∧ 0 < A.size := by
  unfold appT at h
  cases hI : tiOf P t with
  | none => simp [hI] at h
  | some I =>
    cases hJ : tiOf P t2 with
    | none => simp [hI, hJ] at h
    | some J =>
      simp only [hI, hJ] at h
      obtain ⟨i1, d1, h1⟩ := tiOf_spec hI
      obtain ⟨i2, d2, h2⟩ := tiOf_spec hJ
      have k1 := h1.k
      have k2 := h2.k
      have fin : ∀ e, d1 = .slice e → (d2 = .string ∨ ∃ e2, d2 = .slice e2) → (match tiOf P e with
        | some E => (match E.zero.bind cellsOf with
          | some zs => if 0 < E.size ∧ zs.length = E.size then some (⟨e, E.size, E.bytes⟩ : AppT) else none
          | none => none)
        | none => none) = some A → ∃ d2 i z, P.underlying t = some (.slice A.e) ∧ P.underlying t2 = some d2 ∧ (d2 = .string ∨ ∃ e2, d2 = .slice e2) ∧ P.info? A.e = some i ∧ i.size = A.size ∧ i.bytes = A.bytes ∧ i.zero = some z ∧ z.cells.size = A.size ∧ 0 < A.size := by
        intro e hd1 hd2 h
        cases hE : tiOf P e with
        | none => simp [hE] at h
        | some E =>
          simp only [hE] at h
          obtain ⟨i, d, hi⟩ := tiOf_spec hE
          cases hz : E.zero with
          | none => simp [hz] at h
          | some z =>
            simp only [hz, Option.bind_some] at h
            cases hzc : cellsOf z with
            | none => simp [hzc] at h
            | some zs =>
              simp only [hzc] at h
              split at h
              · rename_i hc
                simp only [Option.some.injEq] at h; subst h
                obtain ⟨zv, _, hiz, rfl⟩ := hi.run_zero (default : World) hz
                have hzr := (VR.ofVal (⟨fun _ _ _ => False, fun _ _ _ _ => False, fun _ _ _ _ => False, fun _ _ _ => False⟩ : Cx) zv).cells hzc
                exact ⟨d2, i, zv, by rw [h1.under, hd1], h2.under, hd2, hi.info, hi.size.symm, hi.bytes.symm, hiz, by rw [hzr.size]; exact hc.2, hc.1⟩
              · cases h
      cases hk1 : I.k <;> cases hk2 : J.k <;> simp only [hk1, hk2, reduceCtorEq] at h
      · rw [hk1] at k1; rw [hk2] at k2
        exact fin _ (tk_slice k1) (.inl (tk_str k2)) h
      · rw [hk1] at k1; rw [hk2] at k2
        exact fin _ (tk_slice k1) (.inr ⟨_, tk_slice k2⟩) h

/-- The values of cells that are known. -/
theorem vr_list {κ : Cx} {cs : List AVal} {vs : List Value} (hl : vs.length = cs.length) {ds : List AVal} {us : List Value} 
    (h1 : ∀ (j : Nat) (h : j < cs.length), VR κ (cs[j]) (vs.getD j undef)) (h2 : ∀ (j : Nat) (h : j < ds.length), VR κ (ds[j]) (us.getD j undef)) :
    ∀ (j : Nat) (h : j < (cs ++ ds).length), VR κ ((cs ++ ds)[j]) ((vs ++ us).getD j undef) := by
  intro j h
  by_cases hj : j < cs.length
  · have := h1 j hj
    rw [List.getElem_append_left hj]
    simp only [List.getD_eq_getElem?_getD] at this ⊢
    rw [List.getElem?_append_left (by omega)]
    exact this
  · have hj2 : j - cs.length < ds.length := by simp at h; omega
    have := h2 _ hj2
    rw [List.getElem_append_right (by omega)]
    simp only [List.getD_eq_getElem?_getD] at this ⊢
    rw [List.getElem?_append_right (by omega), hl]
    exact this

theorem aappend_sound0 {P : Program} {γ : Ghost} (hr : Rl γ) {t t2 ty : TypeId} {s x v : AVal} {m' : AMem} {su xu : Value} (h : aappend P t t2 γ.S s x = some (v, m')) (hs : VR γ.cx s su) (hnn : ∀ n cs, s ≠ .sl .nil n cs) (hx : VR γ.cx x xu) :
    ∃ v' γ', (Builtin.append_ #[t, t2] ty #[su, xu]).run P γ.w = .ok v' γ'.w ∧ Ext γ γ' ∧ Rl γ' ∧ γ'.S = m' ∧ VR γ'.cx v v' := by
  unfold aappend at h
  cases hA : appT P t t2 with
  | none => simp [hA] at h
  | some A =>
    simp only [hA] at h
    obtain ⟨d2, i, z, ht, ht2, hd2, hi, hisz, hiby, hiz, hzsz, hpos⟩ := appT_spec hA
    cases hal : alist γ.S x with
    | none => simp [hal] at h
    | some kd =>
      obtain ⟨k, ds⟩ := kd
      simp only [hal] at h
      cases s <;> simp only [reduceCtorEq] at h
      rename_i r n cs
      split at h
      case isFalse => cases h
      rename_i hc
      obtain ⟨hdl, hcl, hby, hle, hok, hfull⟩ := hc
      simp only [Option.some.injEq, Prod.mk.injEq] at h
      obtain ⟨rfl, rfl⟩ := h
      obtain ⟨news, n1, n2, n3, n4, n5⟩ := read_alist (P := P) hr hx hal hdl
      obtain ⟨olds, o1, o2, o3, _, o5⟩ := read_alist (P := P) (size := A.size) hr hs (show alist γ.S (.sl r n cs) = some (n, cs) from rfl) hcl
      obtain ⟨base, cap, rfl, hncap⟩ : ∃ base cap, su = .slice base n cap ∧ n ≤ cap := by
        cases hs with
        | slnil => exact ⟨_, _, rfl, Nat.le_refl _⟩
        | slz => exact ⟨_, _, rfl, Nat.zero_le _⟩
        | sl _ _ _ g k cap f hn => exact ⟨_, _, rfl, hn⟩
      obtain ⟨hroom, hgrow⟩ := run_append_two (P := P) (w := γ.w) (t := t) (t2 := t2) (ty := ty) ht ht2 hd2 hi hiz n4 (by rw [hisz]; exact n5) (by rw [hisz]; exact o5) (by rw [hiby]; exact hby) hle
      -- the token
      obtain ⟨tk, htk⟩ : ∃ tk, nxR γ.S.T r = .tok tk := by cases r <;> exact ⟨_, rfl⟩
      have hT1 : (nxT γ.S.T r (cs.length + ds.length) (A.size, A.e))[tk]? = some (cs.length + ds.length, A.size, A.e) := by
        cases r with
        | no => simp [okR] at hok
        | nil => exact absurd rfl (hnn _ _)
        | full => simp only [nxR, Rt.tok.injEq] at htk; subst htk; simp [nxT]
        | tok q =>
          simp only [nxR, Rt.tok.injEq] at htk; subst htk
          simp only [okR, beq_iff_eq] at hok
          have := (List.getElem?_eq_some_iff.1 hok).1
          simp [nxT, this]
      have hT2 : ∀ y, y ≠ tk → (nxT γ.S.T r (cs.length + ds.length) (A.size, A.e))[y]? = γ.S.T[y]? := by
        intro y hy
        cases r with
        | no => simp [okR] at hok
        | nil => exact absurd rfl (hnn _ _)
        | full =>
          simp only [nxR, Rt.tok.injEq] at htk; subst htk
          simp only [nxT]
          rcases Nat.lt_or_gt_of_ne hy with h | h
          · rw [List.getElem?_append_left h]
          · rw [List.getElem?_eq_none (by simp; omega), List.getElem?_eq_none (by omega)]
        | tok q =>
          simp only [nxR, Rt.tok.injEq] at htk; subst htk
          simp only [nxT]
          rw [List.getElem?_set_ne (Ne.symm hy)]
      have hT3 : ∀ tp0 sz0, γ.S.T[tk]? = some (tp0, sz0) → r = .tok tk ∧ tp0 = cs.length ∧ sz0 = (A.size, A.e) := by
        intro tp0 sz0 h0
        cases r with
        | no => simp [okR] at hok
        | nil => exact absurd rfl (hnn _ _)
        | full =>
          simp only [nxR, Rt.tok.injEq] at htk; subst htk
          have := (List.getElem?_eq_some_iff.1 h0).1
          omega
        | tok q =>
          simp only [nxR, Rt.tok.injEq] at htk; subst htk
          simp only [okR, beq_iff_eq] at hok
          rw [hok] at h0
          cases h0
          exact ⟨rfl, rfl, rfl⟩
      have hlenall : (cs ++ ds).length = (n + k) * A.size := by rw [List.length_append, hcl, hdl, Nat.add_mul]
      rw [htk]
      by_cases hcase : n + k ≤ cap
      · -- there is room
        rw [hroom hcase]
        by_cases hk : k = 0
        · -- nothing is appended
          subst hk
          have hd0 : ds = [] := List.eq_nil_of_length_eq_zero (by omega)
          subst hd0
          have hn0 : news = [] := List.eq_nil_of_length_eq_zero (by simpa using n1)
          subst hn0
          -- where the slice lies
          obtain ⟨g0, off, hbase, hrt⟩ : ∃ g0 off, base = g0.map (fun g => (⟨g, off, none⟩ : Addr)) ∧ rtOK γ.cx r n cs.length g0 off cap := by
            cases hs with
            | slnil _ hr' => exact ⟨none, 0, rfl, hr'⟩
            | slz => simp [okR] at hok
            | sl _ _ _ g o _ f _ _ _ hr' => exact ⟨some g, o, rfl, hr'⟩
          have hrun : ((optStore base (n * i.size) []).run P γ.w).andThen (fun _ w' => (.ok (.slice base (n + 0) cap) w' : Result Value)) = .ok (.slice base n cap) γ.w := by
            cases base <;> rfl
          rw [hrun]
          have htok : ∀ q, r = .tok q → γ.ι.tb q = g0 ∧ γ.ι.tc q = cap ∧ (off = 0 ∨ cap = 0) ∧ (0 < cs.length → ∀ g, g0 = some g → γ.own g A.e 0) := by
            intro q hq
            subst hq
            obtain ⟨⟨tp, sz, h1, h2, h3, h9⟩, h4⟩ := hrt
            simp only [okR, beq_iff_eq] at hok
            rw [hok] at h1
            cases h1
            obtain ⟨a1, a2⟩ := h3 rfl
            exact ⟨a1, a2, h4, h9⟩
          have hn0' : r = .full → cs.length = 0 := fun hr0 => by
            rcases hfull hr0 with h | h
            · rw [hcl, h, Nat.zero_mul]
            · omega
          have hown : 0 < cs.length → ∀ g, g0 = some g → γ.own g A.e 0 := by
            intro hl g hg
            cases r with
            | no => simp [okR] at hok
            | nil => exact absurd rfl (hnn _ _)
            | full => have := hn0' rfl; omega
            | tok q => exact (htok q rfl).2.2.2 hl g hg
          have hstep : TokStep γ tk (nxT γ.S.T r (cs.length + ([] : List AVal).length) (A.size, A.e)) (cs.length + ([] : List AVal).length) (A.size, A.e) g0 cap γ.w :=
            { os := rfl, tape := rfl, output := rfl, size := Nat.le_refl _, at_ := hT1, other := hT2
              old := fun tp0 sz0 h0 => by
                obtain ⟨hrt', rfl, rfl⟩ := hT3 tp0 sz0 h0
                obtain ⟨a1, a2, _, _⟩ := htok tk hrt'
                exact ⟨rfl, by simp, fun _ => ⟨a1.symm, a2.symm⟩⟩
              block := fun _ _ _ => rfl
              typed := fun hl g hg => by
                have := hown (by simpa using hl) g hg
                exact this
              tys := fun k arr ty fz _ h => ⟨arr, fz, h, Nat.le_refl _⟩
              low := fun _ _ _ _ _ _ _ => rfl
              new := fun g hg hlt => by
                cases r with
                | no => simp [okR] at hok
                | nil => exact absurd rfl (hnn _ _)
                | full =>
                  have : cap = n := hrt
                  subst this
                  simp at hlt
                  omega
                | tok q =>
                  simp only [nxR, Rt.tok.injEq] at htk; subst htk
                  obtain ⟨a1, a2, _, _⟩ := htok q rfl
                  simp only [okR, beq_iff_eq] at hok
                  have hown : γ.tokOwns q g := ⟨cs.length, (A.size, A.e), hok, a1.trans hg, by rw [a2]; simpa using hlt⟩
                  obtain ⟨arr, lo, hi', tp, sz, b1, b2, b3, b4⟩ := hr.toks q g hown
                  rw [hok] at b2
                  cases b2
                  exact ⟨.inl hown, (hr.own g (.inr ⟨q, hown⟩)).2, arr, lo, hi', b1, by rw [← a2]; exact b3, by simpa using b4⟩ }
          have hext := ext_tok hstep
          refine ⟨_, γ.tok tk (nxT γ.S.T r (cs.length + ([] : List AVal).length) (A.size, A.e)) g0 cap γ.w, rfl, hext, rl_tok hr hstep, rfl, ?_⟩
          have hoff : off = 0 ∨ cap = 0 := by
            cases r with
            | no => simp [okR] at hok
            | nil => exact absurd rfl (hnn _ _)
            | full =>
              refine .inr ?_
              have h0 : n = 0 := by rcases hfull rfl with h | h <;> omega
              have : cap = n := hrt
              omega
            | tok q => exact (htok q rfl).2.2.1
          have htip : (γ.tok tk (nxT γ.S.T r (cs.length + ([] : List AVal).length) (A.size, A.e)) g0 cap γ.w).cx.tip tk cs.length g0 cap :=
            ⟨cs.length + ([] : List AVal).length, (A.size, A.e), hT1, by simp, fun _ => ⟨by show (if tk = tk then _ else _) = _; rw [if_pos rfl], by show (if tk = tk then _ else _) = _; rw [if_pos rfl]⟩, fun hl g hg => own_tok hstep (hown hl g hg)⟩
          simp only [List.append_nil, Nat.add_zero]
          cases hs with
          | slnil _ hr' =>
            have hg0 : g0 = none := by cases g0 with
              | none => rfl
              | some g => simp at hbase
            subst hg0
            exact .slnil _ ⟨htip, .inl rfl⟩
          | slz => simp [okR] at hok
          | sl _ _ _ g o _ f hn hc hv hr' =>
            cases g0 with
            | none => simp at hbase
            | some g1 =>
              simp only [Option.map_some, Option.some.injEq, Addr.mk.injEq] at hbase
              obtain ⟨rfl, rfl, _⟩ := hbase
              exact .sl _ _ _ g o cap f hn (fun j hj => hext.cell _ _ _ (hc j hj)) (fun j hj => (hv j hj).ext hext) ⟨htip, hoff⟩
        · -- stored behind the tip
          cases r with
          | no => simp [okR] at hok
          | nil => exact absurd rfl (hnn _ _)
          | full =>
            exfalso
            cases hs with
            | slnil => omega
            | sl _ _ _ g o _ f hn hc hv hr' => have : cap = n := hr'; omega
          | tok q =>
            simp only [nxR, Rt.tok.injEq] at htk; subst htk
            simp only [okR, beq_iff_eq] at hok
            cases hs with
            | slnil => omega
            | sl _ _ _ g o _ f hn hc hv hr' =>
              obtain ⟨⟨tp, sz, h1, h2, h3, h9⟩, h4⟩ := hr'
              rw [hok] at h1
              cases h1
              obtain ⟨a1, a2⟩ := h3 rfl
              have ho : o = 0 := by rcases h4 with h | h <;> omega
              subst ho
              have hmul : (n + k) * A.size ≤ cap * A.size := Nat.mul_le_mul_right _ hcase
              have hmul2 : n * A.size + A.size ≤ (n + k) * A.size := by
                rw [Nat.add_mul]
                have : 1 * A.size ≤ k * A.size := Nat.mul_le_mul_right _ (by omega)
                omega
              have hown : γ.tokOwns q g := ⟨cs.length, (A.size, A.e), hok, a1, by rw [a2, hcl]; simp only; omega⟩
              obtain ⟨arr, lo, hi', tp, sz, b1, b2, b3, b4⟩ := hr.toks q g hown
              rw [hok] at b2
              cases b2
              rw [a2] at b3
              simp only at b3
              have hlen2 : n * A.size + news.length ≤ arr.size := by rw [n1, hdl, ← Nat.add_mul]; omega
              obtain ⟨w', arr', e1, e2, e3, e4, e5, e6, e7, e8, e9, e10⟩ := run_storeRow (P := P) (o := n * A.size) news γ.w 0 arr b1 (by simp only [Nat.add_zero]; omega) (by simpa using hlen2) n3
              simp only [hisz, optStore, Addr.add_lit, Nat.zero_add]
              rw [e1]
              simp only [Nat.add_zero] at e4 e5
              have hstep : TokStep γ q (nxT γ.S.T (.tok q) (cs.length + ds.length) (A.size, A.e)) (cs.length + ds.length) (A.size, A.e) (some g) cap w' :=
                { os := e8, tape := e9, output := e10, size := Nat.le_of_eq e7.symm, at_ := hT1, other := hT2
                  old := fun tp0 sz0 h0 => by
                    rw [hok] at h0
                    cases h0
                    refine ⟨rfl, by omega, fun _ => ⟨a1.symm, a2.symm⟩⟩
                  block := fun x _ hx => e6 x fun he => hx (he ▸ hown)
                  typed := fun _ x hx => by
                    cases hx
                    exact ⟨(hr.own g (.inr ⟨q, hown⟩)).1, arr', _, e2, Nat.zero_le _⟩
                  tys := fun x ar ty fz hx h => by
                    have hxg : x = g := by
                      obtain ⟨_, _, _, c2, _⟩ := hx
                      rw [a1] at c2
                      exact (Option.some.inj c2).symm
                    subst hxg
                    rw [b1] at h
                    cases h
                    exact ⟨arr', _, e2, Nat.le_of_eq e3.symm⟩
                  low := fun x tp0 sz0 o hx h0 ho => by
                    rw [hok] at h0
                    cases h0
                    have hxg : x = g := by
                      obtain ⟨_, _, _, c2, _⟩ := hx
                      rw [a1] at c2
                      exact (Option.some.inj c2).symm
                    subst hxg
                    rw [cell_of_row _ _ _ _ _ _ e2, cell_of_row _ _ _ _ _ _ b1]
                    have := e5 o (by omega)
                    have l1 : o < arr'.size := by omega
                    have l2 : o < arr.size := by omega
                    simpa [Array.getD, l1, l2] using this
                  new := fun x hx _ => by
                    cases hx
                    exact ⟨.inl hown, by rw [e7]; exact (hr.own g (.inr ⟨q, hown⟩)).2, arr', lo, hi', e2, by simp only at b3 ⊢; omega, by omega⟩ }
              have hext := ext_tok hstep
              refine ⟨_, γ.tok q (nxT γ.S.T (.tok q) (cs.length + ds.length) (A.size, A.e)) (some g) cap w', rfl, hext, rl_tok hr hstep, rfl, ?_⟩
              refine .sl _ _ _ g 0 cap (fun j => if j < cs.length then f j else news.getD (j - cs.length) undef) hcase (fun j hj => ?_) (fun j hj => ?_) ⟨⟨cs.length + ds.length, (A.size, A.e), hT1, by simp, fun _ => ⟨?_, ?_⟩, fun hl g' hg' => hstep.typed (by simpa using hl) g' hg'⟩, .inl rfl⟩
              · by_cases hjc : j < cs.length
                · simp only [if_pos hjc]
                  exact hext.cell _ _ _ (hc j hjc)
                · simp only [if_neg hjc, Nat.zero_add]
                  have hj2 : j - cs.length < news.length := by simp at hj; omega
                  have hj3 : j = n * A.size + (j - cs.length) := by omega
                  have hget := e4 (j - cs.length) hj2
                  rw [← hj3] at hget
                  have l1 : j < arr'.size := by rw [e3]; omega
                  refine ⟨?_, ?_, fun hbad => ?_, fun b hb => hr.ht b q g hb hown, fun y hy => ?_⟩
                  · show w'.cell? _ = _
                    rw [cell_of_row _ _ _ _ _ _ e2, ← hget]
                    simp [Array.getD, l1]
                  · rw [List.getD_eq_getElem?_getD, List.getElem?_eq_getElem hj2, Option.getD_some]
                    exact n3 _ (List.getElem_mem _)
                  · have := hr.bad _ _ hbad; have := (hr.own g (.inr ⟨q, hown⟩)).1; omega
                  · by_cases hyt : y = q
                    · subst hyt; exact ⟨_, _, hT1, by simpa using hj⟩
                    · exact absurd (hr.tt y q g ((tok_owns_other hstep hyt).1 hy) hown) hyt
              · by_cases hjc : j < cs.length
                · simp only [if_pos hjc, List.getElem_append_left hjc]
                  exact (hv j hjc).ext hext
                · have hj2 : j - cs.length < ds.length := by simp at hj; omega
                  simp only [if_neg hjc, List.getElem_append_right (by omega : cs.length ≤ j)]
                  exact (n2 _ hj2).ext hext
              · show (if q = q then _ else _) = _
                rw [if_pos rfl]
              · show (if q = q then _ else _) = _
                rw [if_pos rfl]
      · -- a new row
        have hcap : cap < n + k := by omega
        rw [hgrow hcap]
        have hge := grownCap_ge γ.w (n + k) cap A.e
        generalize hcp : grownCap γ.w (n + k) cap A.e = c at *
        generalize harr : (olds ++ news).toArray ++ Builtin.zeroCells z.cells (c - (n + k)) = arr at *
        have hasz : arr.size = c * A.size := by
          rw [← harr]
          simp only [Array.size_append, List.size_toArray, List.length_append, size_zeroCells, hzsz, n1, o1, hcl, hdl, ← Nat.add_mul]
          congr 1
          omega
        have hgetD : ∀ j, j < (cs ++ ds).length → arr.getD j undef = (olds ++ news).getD j undef := by
          intro j hj
          have hj' : j < (olds ++ news).length := by simp at hj ⊢; omega
          rw [← harr]
          simp only [Array.getD_eq_getD_getElem?, List.getD_eq_getElem?_getD]
          rw [Array.getElem?_append_left (by simpa using hj')]
          simp
        have hgw : Grow γ.w (γ.w.drew.alloc (.cells arr A.e)) := (Grow.drew γ.w).trans (Grow.alloc _ _)
        have hstep : TokStep γ tk (nxT γ.S.T r (cs.length + ds.length) (A.size, A.e)) (cs.length + ds.length) (A.size, A.e) (some γ.w.heap.size) c (γ.w.drew.alloc (.cells arr A.e)) :=
          { os := rfl, tape := rfl, output := rfl, size := hgw.size, at_ := hT1, other := hT2
            old := fun tp0 sz0 h0 => by
              obtain ⟨hrt, rfl, rfl⟩ := hT3 tp0 sz0 h0
              refine ⟨rfl, by omega, fun he => ?_⟩
              exfalso
              have hd0 : ds.length = 0 := by omega
              have hk0 : k = 0 := by
                rw [hdl] at hd0
                rcases Nat.mul_eq_zero.1 hd0 with h | h
                · exact h
                · omega
              omega
            block := fun q hq _ => hgw.block q hq
            typed := fun _ g hg => by
              cases hg
              exact ⟨hr.lo, arr, (0, 0), heap_alloc_new _ _, Nat.zero_le _⟩
            tys := fun x ar ty fz hx h => ⟨ar, fz, (hgw.block x (hr.own x (.inr ⟨tk, hx⟩)).2).trans h, Nat.le_refl _⟩
            low := fun q _ _ o hown _ _ => World.cell?_of_block (w := γ.w) (hgw.block q (hr.own q (.inr ⟨tk, hown⟩)).2)
            new := fun g hg _ => by
              cases hg
              exact ⟨.inr (Nat.le_refl _), by simp, arr, 0, 0, heap_alloc_new _ _, by simp only; omega, Nat.zero_le _⟩ }
        have hext := ext_tok hstep
        refine ⟨_, γ.tok tk (nxT γ.S.T r (cs.length + ds.length) (A.size, A.e)) (some γ.w.heap.size) c (γ.w.drew.alloc (.cells arr A.e)), rfl, hext, rl_tok hr hstep, rfl, ?_⟩
        have hvl := vr_list o1 o2 n2
        refine .sl _ _ _ γ.w.heap.size 0 c (fun j => arr.getD j undef) hge (fun j hj => ?_) (fun j hj => ?_) ⟨⟨cs.length + ds.length, (A.size, A.e), hT1, by simp, fun _ => ⟨?_, ?_⟩, fun hl g' hg' => hstep.typed (by simpa using hl) g' hg'⟩, .inl rfl⟩
        · rw [Nat.zero_add]
          have hj' : j < arr.size := by rw [hasz]; have := Nat.mul_le_mul_right A.size hge; omega
          refine ⟨?_, ?_, fun hbad => ?_, fun b hb => ?_, fun y hy => ?_⟩
          · show (γ.w.drew.alloc (.cells arr A.e)).cell? _ = _
            rw [cell_of_row (γ.w.drew.alloc (.cells arr A.e)) γ.w.heap.size j arr A.e (0, 0) (heap_alloc_new γ.w.drew _)]
            simp [Array.getD, hj']
          · rw [hgetD j hj]
            have hj2 : j < (olds ++ news).length := by simp at hj ⊢; omega
            rw [List.getD_eq_getElem?_getD, List.getElem?_eq_getElem hj2, Option.getD_some]
            rcases List.mem_append.1 (List.getElem_mem hj2) with h | h
            · exact o3 _ h
            · exact n3 _ h
          · have := hr.bad _ _ hbad; have := hr.lo; omega
          · have := (hr.own _ (.inl ⟨b, hb⟩)).2; omega
          · by_cases hyt : y = tk
            · subst hyt; exact ⟨_, _, hT1, by simpa using hj⟩
            · have := (hr.own _ (.inr ⟨y, (tok_owns_other hstep hyt).1 hy⟩)).2; omega
        · rw [hgetD j hj]
          exact (hvl j hj).ext hext
        · show (if tk = tk then _ else _) = _
          rw [if_pos rfl]
        · show (if tk = tk then _ else _) = _
          rw [if_pos rfl]

/-! ### append to what may be written -/

theorem aappend_sound {P : Program} {γ : Ghost} (hr : Rl γ) {t t2 ty : TypeId} {s x v : AVal} {m' : AMem} {su xu : Value} (h : aappend P t t2 γ.S s x = some (v, m')) (hs : VR γ.cx s su) (hx : VR γ.cx x xu) :
    ∃ v' γ', (Builtin.append_ #[t, t2] ty #[su, xu]).run P γ.w = .ok v' γ'.w ∧ Ext γ γ' ∧ Rl γ' ∧ γ'.S = m' ∧ VR γ'.cx v v' := by
  by_cases hn : ∃ n cs, s = .sl .nil n cs
  · obtain ⟨n, cs, rfl⟩ := hn
    cases hs with
    | slnil _ _ =>
      refine aappend_sound0 hr (s := .sl .full 0 []) ?_ (.slnil .full rfl) (fun n cs h => by cases h) hx
      unfold aappend at h ⊢
      cases hA : appT P t t2 with
      | none => simp [hA] at h
      | some A =>
        cases hal : alist γ.S x with
        | none => simp [hA, hal] at h
        | some kd =>
          simp only [hA, hal] at h ⊢
          split at h
          · rename_i hc
            rw [if_pos ⟨hc.1, hc.2.1, hc.2.2.1, hc.2.2.2.1, rfl, fun _ => .inl (by first | rfl | trivial)⟩]
            exact h
          · cases h
    | sl _ _ _ g k cap f hn hc hv hr' => exact absurd hr'.1 (by simp)
  · exact aappend_sound0 hr h hs (fun n cs he => hn ⟨n, cs, he⟩) hx

def Ghost.bump (γ : Ghost) (b e : Nat) (cs : List AVal) (g c z : Nat) (w' : World) : Ghost :=
  { γ with S := { γ.S with H := γ.S.H.set b (.cells e cs) }, ι := { γ.ι with h := fun x => if x = b then g else γ.ι.h x, c := fun x => if x = b then c else γ.ι.c x, z := fun x => if x = b then z else γ.ι.z x }, w := w' }

structure BlkStep (γ : Ghost) (b e : Nat) (cs : List AVal) (e' : Nat) (cs' : List AVal) (g c z : Nat) (w' : World) : Prop where
  os : w'.os = γ.w.os
  tape : w'.tape = γ.w.tape
  output : w'.output = γ.w.output
  size : γ.w.heap.size ≤ w'.heap.size
  at_ : γ.S.H[b]? = some (.cells e cs)
  ep : e < e'
  nz : 0 < e
  zs : e' % 64 = 0 ∨ e' % 64 = z
  block : ∀ k, k < γ.w.heap.size → k ≠ γ.ι.h b → w'.heap[k]? = γ.w.heap[k]?
  place : g = γ.ι.h b ∨ γ.w.heap.size ≤ g
  inw : g < w'.heap.size
  tys : ∀ arr ty fz, γ.w.heap[γ.ι.h b]? = some (.cells arr ty fz) → ∃ arr' fz', w'.heap[γ.ι.h b]? = some (.cells arr' ty fz') ∧ arr.size ≤ arr'.size
  new : ∃ arr ty, w'.heap[g]? = some (.cells arr ty (0, 0)) ∧ cs'.length ≤ arr.size ∧ c * z ≤ arr.size ∧ (∀ (j : Nat) (h : j < cs'.length), VR γ.cx (cs'[j]) (arr.getD j undef)) ∧ ∀ j, j < cs'.length → (arr.getD j undef).oneCell' = true

section bump
variable {γ : Ghost} {b e : Nat} {cs : List AVal} {e' : Nat} {cs' : List AVal} {g c z : Nat} {w' : World}

theorem bump_lt (h : BlkStep γ b e cs e' cs' g c z w') : b < γ.S.H.length := (List.getElem?_eq_some_iff.1 h.at_).1

theorem bump_owns_other {x q : Nat} (hx : x ≠ b) : (γ.bump b e' cs' g c z w').blkOwns x q ↔ γ.blkOwns x q := by
  simp [Ghost.blkOwns, Ghost.bump, hx]
theorem bump_owns_self (h : BlkStep γ b e cs e' cs' g c z w') {q : Nat} : (γ.bump b e' cs' g c z w').blkOwns b q ↔ g = q := by
  have := bump_lt h
  simp [Ghost.blkOwns, Ghost.bump, this]
theorem bump_get_self (h : BlkStep γ b e cs e' cs' g c z w') : (γ.bump b e' cs' g c z w').S.H[b]? = some (.cells e' cs') := by
  have := bump_lt h
  simp [Ghost.bump, this]
theorem bump_get_other {x : Nat} (hx : x ≠ b) : (γ.bump b e' cs' g c z w').S.H[x]? = γ.S.H[x]? := by
  simp only [Ghost.bump]; rw [List.getElem?_set_ne (Ne.symm hx)]

theorem own_bump (h : BlkStep γ b e cs e' cs' g c z w') {q : Nat} {t : TypeId} {n : Nat} (ho : γ.own q t n) : (γ.bump b e' cs' g c z w').own q t n :=
  own_of (γ := γ) (γ' := γ.bump b e' cs' g c z w') rfl (fun q arr ty fz hq => by
    by_cases hk : q = γ.ι.h b
    · subst hk; exact h.tys arr ty fz hq
    · exact ⟨arr, fz, (h.block q (heap_lt hq) hk).trans hq, Nat.le_refl _⟩) ho
theorem ext_bump (h : BlkStep γ b e cs e' cs' g c z w') : Ext γ (γ.bump b e' cs' g c z w') where
  bad := rfl
  lo := rfl
  size := h.size
  os := h.os
  tape := h.tape
  output := h.output
  cell := fun q o v hc => by
    have hlt := cell_lt hc.1
    simp only at hlt
    have hne : q ≠ γ.ι.h b := fun he => hc.2.2.2.1 b ⟨bump_lt h, he.symm⟩
    refine ⟨?_, hc.2.1, hc.2.2.1, fun x hx => ?_, hc.2.2.2.2⟩
    · show w'.cell? _ = _
      rw [World.cell?_of_block (w := γ.w) (h.block q hlt hne)]
      exact hc.1
    · by_cases hxb : x = b
      · subst hxb
        have := (bump_owns_self h).1 hx
        rcases h.place with hp | hp
        · exact hne (by omega)
        · omega
      · exact hc.2.2.2.1 x ((bump_owns_other hxb).1 hx)
  blk := fun x ep q c' ⟨y, h1, h2, h3⟩ => by
    by_cases hxb : x = b
    · subst hxb
      rw [h.at_] at h1
      cases h1
      refine ⟨_, bump_get_self h, ?_, fun he => ?_⟩
      · have := h.ep; have := h.nz; simp only [ABlk.ep] at h2 ⊢; omega
      · have := h.ep; simp only [ABlk.ep] at h2 he; omega
    · refine ⟨y, (bump_get_other hxb).trans h1, h2, fun he => ?_⟩
      obtain ⟨a1, a2⟩ := h3 he
      exact ⟨by show (if x = b then _ else _) = _; rw [if_neg hxb]; exact a1, by show (if x = b then _ else _) = _; rw [if_neg hxb]; exact a2⟩
  tip := fun _ _ _ _ ht => tip_of (γ := γ) (γ' := γ.bump b e' cs' g c z w') rfl rfl rfl (fun _ _ => own_bump h) ht
  own := fun _ _ _ => own_bump h
  frame := fun k hk ho => .inl (h.block k hk fun he => ho (.inl ⟨b, bump_lt h, he.symm⟩))
  owns := fun k hk => by
    rcases hk with ⟨x, hx⟩ | hx
    · by_cases hxb : x = b
      · subst hxb
        have := (bump_owns_self h).1 hx
        rcases h.place with hp | hp
        · exact .inl (.inl ⟨x, bump_lt h, by omega⟩)
        · exact .inr (by omega)
      · exact .inl (.inl ⟨x, (bump_owns_other hxb).1 hx⟩)
    · exact .inl (.inr hx)

theorem rl_bump (hr : Rl γ) (h : BlkStep γ b e cs e' cs' g c z w') : Rl (γ.bump b e' cs' g c z w') where
  lo := Nat.le_trans hr.lo h.size
  bad := hr.bad
  objs := fun x y hb => by
    by_cases hxb : x = b
    · subst hxb
      rw [bump_get_self h] at hb
      cases hb
      obtain ⟨arr, ty, k1, k2, k3, k4, k5⟩ := h.new
      refine ⟨.cells arr ty (0, 0), ?_, ?_⟩
      · show w'.heap[if x = x then _ else _]? = _
        rw [if_pos rfl]; exact k1
      · show BR _ (if x = x then _ else _) (if x = x then _ else _) _ _
        rw [if_pos rfl, if_pos rfl]
        exact ⟨arr, ty, rfl, k2, k3, fun j hj => (k4 j hj).ext (ext_bump h), k5, h.zs⟩
    · rw [bump_get_other hxb] at hb
      obtain ⟨o, k1, k2⟩ := hr.objs x y hb
      have hlt : x < γ.S.H.length := (List.getElem?_eq_some_iff.1 hb).1
      refine ⟨o, ?_, ?_⟩
      · show w'.heap[if x = b then _ else _]? = _
        rw [if_neg hxb, h.block _ (hr.own _ (.inl ⟨x, hlt, rfl⟩)).2 fun he => hxb (hr.hh x b _ ⟨hlt, rfl⟩ ⟨bump_lt h, he.symm⟩)]
        exact k1
      · show BR _ (if x = b then _ else _) (if x = b then _ else _) _ _
        rw [if_neg hxb, if_neg hxb]; exact k2.mono (ext_bump h).le
  its := fun x mb left cur hb => by
    have hxb : x ≠ b := fun he => by subst he; rw [bump_get_self h] at hb; cases hb
    rw [bump_get_other hxb] at hb
    obtain ⟨es, en, clk, since, seen, c0, g1, g2, g3, g4⟩ := hr.its x mb left cur hb
    have hmb : mb ≠ b := fun he => by subst he; have := h.at_; rw [this] at g1; cases g1
    have hlt : x < γ.S.H.length := (List.getElem?_eq_some_iff.1 hb).1
    have hlm : mb < γ.S.H.length := (List.getElem?_eq_some_iff.1 g1).1
    refine ⟨es, en, clk, since, seen, c0, (bump_get_other hmb).trans g1, ?_, ?_, g4.mono (ext_bump h).le⟩
    · show w'.heap[if x = b then _ else _]? = some (Obj.mapIter (some (if mb = b then _ else _)) _ _ _)
      rw [if_neg hxb, if_neg hmb, h.block _ (hr.own _ (.inl ⟨x, hlt, rfl⟩)).2 fun he => hxb (hr.hh x b _ ⟨hlt, rfl⟩ ⟨bump_lt h, he.symm⟩)]
      exact g2
    · show w'.heap[if mb = b then _ else _]? = _
      rw [if_neg hmb, h.block _ (hr.own _ (.inl ⟨mb, hlm, rfl⟩)).2 fun he => hmb (hr.hh mb b _ ⟨hlm, rfl⟩ ⟨bump_lt h, he.symm⟩)]
      exact g3
  toks := fun t q ht => by
    obtain ⟨arr, lo, hi, tp, sz, k1, k2⟩ := hr.toks t q ht
    exact ⟨arr, lo, hi, tp, sz, (h.block q (hr.own q (.inr ⟨t, ht⟩)).2 fun he => hr.ht b t q ⟨bump_lt h, he.symm⟩ ht).trans k1, k2⟩
  own := fun q hq => by
    rcases hq with ⟨x, hx⟩ | ⟨t, ht⟩
    · by_cases hxb : x = b
      · subst hxb
        have hgq := (bump_owns_self h).1 hx
        have hi := h.inw
        refine ⟨?_, by show _ < w'.heap.size; omega⟩
        rcases h.place with hp | hp
        · have := (hr.own _ (.inl ⟨x, bump_lt h, rfl⟩)).1
          show γ.lo ≤ q
          omega
        · have := hr.lo
          show γ.lo ≤ q
          omega
      · have := hr.own q (.inl ⟨x, (bump_owns_other hxb).1 hx⟩)
        exact ⟨this.1, Nat.lt_of_lt_of_le this.2 h.size⟩
    · have := hr.own q (.inr ⟨t, ht⟩)
      exact ⟨this.1, Nat.lt_of_lt_of_le this.2 h.size⟩
  hh := fun x y q hx hy => by
    by_cases hxb : x = b
    · by_cases hyb : y = b
      · omega
      · subst hxb
        have hgq := (bump_owns_self h).1 hx
        have hy' := (bump_owns_other hyb).1 hy
        rcases h.place with hp | hp
        · exact hr.hh x y q ⟨bump_lt h, by omega⟩ hy'
        · have := (hr.own q (.inl ⟨y, hy'⟩)).2; omega
    · have hx' := (bump_owns_other hxb).1 hx
      by_cases hyb : y = b
      · subst hyb
        have hgq := (bump_owns_self h).1 hy
        rcases h.place with hp | hp
        · exact hr.hh x y q hx' ⟨bump_lt h, by omega⟩
        · have := (hr.own q (.inl ⟨x, hx'⟩)).2; omega
      · exact hr.hh x y q hx' ((bump_owns_other hyb).1 hy)
  ht := fun x t q hx ht => by
    by_cases hxb : x = b
    · subst hxb
      have hgq := (bump_owns_self h).1 hx
      rcases h.place with hp | hp
      · exact hr.ht x t q ⟨bump_lt h, by omega⟩ ht
      · have := (hr.own q (.inr ⟨t, ht⟩)).2; omega
    · exact hr.ht x t q ((bump_owns_other hxb).1 hx) ht
  tt := hr.tt
end bump

def amapp (P : Program) (t t2 : TypeId) (m : AMem) (s x : AVal) : Option (AVal × AMem) :=
  match appT P t t2 with
  | some A => (match alist m x with
    | some (k, ds) => (match s with
      | .msl b e o n l => (match m.H[b]? with
        | some (.cells e' cs) =>
          if (e = e' ∧ o = 0 ∧ e % 64 = A.size ∧ l = cs.length) ∧ ds.length = k * A.size ∧ cs.length = n * A.size ∧ (n + k) * A.bytes ≤ 140737488355328 ∧ n + k ≤ 4611686018427387903 then
            some (.msl b (e + 64) 0 (n + k) (cs.length + ds.length), { m with H := m.H.set b (.cells (e + 64) (cs ++ ds)) })
          else none
        | _ => none)
      | .sl r n cs =>
        if ((r = .full ∨ r = .nil) ∧ A.size < 64 ∧ 0 < k) ∧ ds.length = k * A.size ∧ cs.length = n * A.size ∧ (n + k) * A.bytes ≤ 140737488355328 ∧ n + k ≤ 4611686018427387903 then
          some (.msl m.H.length A.size 0 (n + k) (cs.length + ds.length), { m with H := m.H ++ [.cells A.size (cs ++ ds)] })
        else if (r = .nil ∧ n = 0 ∧ cs.length = 0) ∧ k = 0 ∧ ds.length = 0 then some (.sl .nil 0 [], m) else none
      | _ => none)
    | none => none)
  | none => none

theorem amapp_sound {P : Program} {γ : Ghost} (hr : Rl γ) {t t2 ty : TypeId} {s x v : AVal} {m' : AMem} {su xu : Value} (h : amapp P t t2 γ.S s x = some (v, m')) (hs : VR γ.cx s su) (hx : VR γ.cx x xu) :
    ∃ v' γ', (Builtin.append_ #[t, t2] ty #[su, xu]).run P γ.w = .ok v' γ'.w ∧ Ext γ γ' ∧ Rl γ' ∧ γ'.S = m' ∧ VR γ'.cx v v' := by
  unfold amapp at h
  cases hA : appT P t t2 with
  | none => simp [hA] at h
  | some A =>
    simp only [hA] at h
    obtain ⟨d2, i, z, ht, ht2, hd2, hi, hisz, hiby, hiz, hzsz, hpos⟩ := appT_spec hA
    cases hal : alist γ.S x with
    | none => simp [hal] at h
    | some kd =>
      obtain ⟨k, ds⟩ := kd
      simp only [hal] at h
      cases s <;> simp only [reduceCtorEq] at h
      case sl r n cs =>
        split at h
        case isFalse =>
          split at h
          case isFalse => cases h
          rename_i hc
          obtain ⟨⟨rfl, rfl, hcs⟩, rfl, hds⟩ := hc
          have hcs := List.eq_nil_of_length_eq_zero hcs
          subst hcs
          simp only [Option.some.injEq, Prod.mk.injEq] at h
          obtain ⟨rfl, rfl⟩ := h
          obtain ⟨news, n1, n2, n3, n4, n5⟩ := read_alist (P := P) (size := A.size) hr hx hal (by simpa using hds)
          obtain ⟨olds, o1, o2, o3, _, o5⟩ := read_alist (P := P) (size := A.size) hr hs (show alist γ.S (.sl .nil 0 []) = some (0, []) from rfl) (by simp)
          obtain ⟨base, rfl⟩ : ∃ base, su = .slice base 0 0 := by
            cases hs with
            | slnil => exact ⟨_, rfl⟩
            | sl _ _ _ g k cap f hn _ _ hr' =>
              have : cap = 0 := hr'.2; subst this; exact ⟨_, rfl⟩
          obtain ⟨hroom, _⟩ := run_append_two (P := P) (w := γ.w) (t := t) (t2 := t2) (ty := ty) ht ht2 hd2 hi hiz n4 (by rw [hisz]; exact n5) (by rw [hisz]; exact o5) (by rw [hiby]; simp) (by omega)
          rw [hroom (by omega)]
          have hnn : news = [] := List.eq_nil_of_length_eq_zero (by rw [n1]; exact hds)
          subst hnn
          refine ⟨.slice base 0 0, γ, ?_, Ext.refl γ, hr, rfl, hs⟩
          cases base <;> simp [optStore, storeCells]
        rename_i hc
        obtain ⟨⟨hrr, h16, hk⟩, hdl, hcl, hby, hle⟩ := hc
        simp only [Option.some.injEq, Prod.mk.injEq] at h
        obtain ⟨rfl, rfl⟩ := h
        obtain ⟨news, n1, n2, n3, n4, n5⟩ := read_alist (P := P) hr hx hal hdl
        obtain ⟨olds, o1, o2, o3, _, o5⟩ := read_alist (P := P) (size := A.size) hr hs (show alist γ.S (.sl r n cs) = some (n, cs) from rfl) hcl
        obtain ⟨base, rfl⟩ : ∃ base, su = .slice base n n := by
          cases hs with
          | slnil => exact ⟨_, rfl⟩
          | slz => rcases hrr with h | h <;> cases h
          | sl _ _ _ g k cap f hn _ _ hr' =>
            rcases hrr with rfl | rfl
            · have : cap = n := hr'; subst this; exact ⟨_, rfl⟩
            · have : cap = n := hr'.2; subst this; exact ⟨_, rfl⟩
        obtain ⟨_, hgrow⟩ := run_append_two (P := P) (w := γ.w) (t := t) (t2 := t2) (ty := ty) ht ht2 hd2 hi hiz n4 (by rw [hisz]; exact n5) (by rw [hisz]; exact o5) (by rw [hiby]; exact hby) hle
        rw [hgrow (by omega)]
        have hge := grownCap_ge γ.w (n + k) n A.e
        generalize hcp : grownCap γ.w (n + k) n A.e = c at *
        generalize harr : (olds ++ news).toArray ++ Builtin.zeroCells z.cells (c - (n + k)) = arr at *
        have hg : Grow γ.w γ.w.drew := Grow.drew γ.w
        have hr1 := rl_grow hr hg
        have he1 := ext_grow (γ := γ) hg
        have hasz : arr.size = c * A.size := by
          rw [← harr]
          simp only [Array.size_append, List.size_toArray, List.length_append, size_zeroCells, hzsz, n1, o1, hcl, hdl, ← Nat.add_mul]
          congr 1
          omega
        have hlenall : (cs ++ ds).length = (n + k) * A.size := by rw [List.length_append, hcl, hdl, Nat.add_mul]
        have hgetD : ∀ j, j < (cs ++ ds).length → arr.getD j undef = (olds ++ news).getD j undef := by
          intro j hj
          have hj' : j < (olds ++ news).length := by simp at hj ⊢; omega
          rw [← harr]
          simp only [Array.getD_eq_getD_getElem?, List.getD_eq_getElem?_getD]
          rw [Array.getElem?_append_left (by simpa using hj')]
          simp
        have hvl := vr_list o1 o2 n2
        have hrl : Rl (Ghost.push { γ with w := γ.w.drew } (.cells A.size (cs ++ ds)) c A.size (.cells arr A.e)) :=
          rl_push hr1 (fun e cs he => by cases he; right; exact Nat.mod_eq_of_lt h16) ⟨arr, A.e, rfl, by rw [hasz, hlenall]; exact Nat.mul_le_mul_right _ hge, by rw [hasz]; exact Nat.le_refl _, fun j hj => by rw [hgetD j hj]; exact (hvl j hj).ext he1, fun j hj => by
            rw [hgetD j hj]
            have hj2 : j < (olds ++ news).length := by simp at hj ⊢; omega
            rw [List.getD_eq_getElem?_getD, List.getElem?_eq_getElem hj2, Option.getD_some]
            rcases List.mem_append.1 (List.getElem_mem hj2) with h | h
            · exact o3 _ h
            · exact n3 _ h⟩
        refine ⟨_, Ghost.push { γ with w := γ.w.drew } (.cells A.size (cs ++ ds)) c A.size (.cells arr A.e), rfl, he1.trans ext_push, hrl, rfl, ?_⟩
        have hb := push_blk_ep (γ := { γ with w := γ.w.drew }) (x := .cells A.size (cs ++ ds)) (c := c) (z := A.size) (o := .cells arr A.e)
        exact .msl _ _ 0 (n + k) _ _ c c hb hge fun _ => rfl
      case msl b e o n l =>
        cases hb : γ.S.H[b]? with
        | none => simp [hb] at h
        | some y =>
          cases y with
          | amap es => simp [hb] at h
          | iter _ _ _ => simp [hb] at h
          | loop _ _ _ _ _ _ _ => simp [hb] at h
          | cells e' cs =>
            simp only [hb] at h
            split at h
            case isFalse => cases h
            rename_i hc
            obtain ⟨⟨rfl, rfl, h16, rfl⟩, hdl, hcl, hby, hle⟩ := hc
            simp only [Option.some.injEq, Prod.mk.injEq] at h
            obtain ⟨rfl, rfl⟩ := h
            obtain ⟨news, n1, n2, n3, n4, n5⟩ := read_alist (P := P) hr hx hal hdl
            have hals : alist γ.S (.msl b e 0 n cs.length) = some (n, cs) := by simp [alist, hb]
            obtain ⟨olds, o1, o2, o3, _, o5⟩ := read_alist (P := P) (size := A.size) hr hs hals hcl
            obtain ⟨arr0, ty0, a1, a2, a3, a4, a5⟩ := hr.cells b e cs hb
            have hzb : γ.ι.z b = A.size := by
              rcases hr.zs b e cs hb with h | h <;> omega
            cases hs with
            | msl _ _ _ _ _ g c cap hblk hn ho =>
              have hcap := ho rfl
              subst hcap
              obtain ⟨y, hy, _, hy2⟩ := hblk
              rw [hb] at hy
              cases hy
              obtain ⟨hg, hcc⟩ := hy2 rfl
              subst hg
              rw [hcc, hzb] at a3
              have hlt : b < γ.S.H.length := (List.getElem?_eq_some_iff.1 hb).1
              obtain ⟨hroom, hgrow⟩ := run_append_two (P := P) (w := γ.w) (t := t) (t2 := t2) (ty := ty) ht ht2 hd2 hi hiz n4 (by rw [hisz]; exact n5) (by rw [hisz]; exact o5) (by rw [hiby]; exact hby) hle
              by_cases hcase : n + k ≤ cap
              · rw [hroom hcase]
                have hlen2 : n * A.size + news.length ≤ arr0.size := by
                  rw [n1, hdl, ← Nat.add_mul]
                  exact Nat.le_trans (Nat.mul_le_mul_right _ hcase) a3
                obtain ⟨w', arr', e1, e2, e3, e4, e5, e6, e7, e8, e9, e10⟩ := run_storeRow (P := P) (o := n * A.size) news γ.w 0 arr0 a1 (Nat.zero_le _) (by simpa using hlen2) n3
                simp only [hisz, optStore, Addr.add_lit, Nat.zero_add]
                rw [e1]
                simp only [Nat.add_zero] at e4 e5
                have hstep : BlkStep γ b e cs (e + 64) (cs ++ ds) (γ.ι.h b) cap A.size w' :=
                  { os := e8, tape := e9, output := e10, size := Nat.le_of_eq e7.symm, at_ := hb, ep := by omega, nz := by omega, zs := by right; omega
                    block := fun q _ hq => e6 q hq
                    place := .inl rfl
                    inw := by rw [e7]; exact (hr.own _ (.inl ⟨b, hlt, rfl⟩)).2
                    tys := fun ar ty fz h => by
                      rw [a1] at h
                      cases h
                      exact ⟨arr', _, e2, Nat.le_of_eq e3.symm⟩
                    new := by
                      refine ⟨arr', ty0, e2, by rw [e3, List.length_append]; omega, by rw [e3]; exact a3, fun j hj => ?_, fun j hj => ?_⟩
                      · by_cases hjc : j < cs.length
                        · rw [List.getElem_append_left hjc, e5 j (by omega)]
                          exact a4 j hjc
                        · have hj2 : j - cs.length < ds.length := by simp at hj; omega
                          rw [List.getElem_append_right (by omega)]
                          have := e4 (j - cs.length) (by omega)
                          rw [show n * A.size + (j - cs.length) = j by omega] at this
                          rw [this]
                          exact n2 _ hj2
                      · by_cases hjc : j < cs.length
                        · rw [e5 j (by omega)]
                          exact a5 j hjc
                        · have hj2 : j - cs.length < ds.length := by simp at hj; omega
                          have := e4 (j - cs.length) (by omega)
                          rw [show n * A.size + (j - cs.length) = j by omega] at this
                          rw [this, List.getD_eq_getElem?_getD, List.getElem?_eq_getElem (by omega), Option.getD_some]
                          exact n3 _ (List.getElem_mem _) }
                refine ⟨_, γ.bump b (e + 64) (cs ++ ds) (γ.ι.h b) cap A.size w', rfl, ext_bump hstep, rl_bump hr hstep, rfl, ?_⟩
                exact .msl _ _ 0 _ _ _ cap cap ⟨_, bump_get_self hstep, ⟨Nat.le_refl _, fun h => h⟩, fun _ => by simp [Ghost.bump]⟩ hcase fun _ => rfl
              · have hcap : cap < n + k := by omega
                rw [hgrow hcap]
                have hge := grownCap_ge γ.w (n + k) cap A.e
                generalize hcp : grownCap γ.w (n + k) cap A.e = c at *
                generalize harr : (olds ++ news).toArray ++ Builtin.zeroCells z.cells (c - (n + k)) = arr at *
                have hasz : arr.size = c * A.size := by
                  rw [← harr]
                  simp only [Array.size_append, List.size_toArray, List.length_append, size_zeroCells, hzsz, n1, o1, hcl, hdl, ← Nat.add_mul]
                  congr 1
                  omega
                have hgetD : ∀ j, j < (cs ++ ds).length → arr.getD j undef = (olds ++ news).getD j undef := by
                  intro j hj
                  have hj' : j < (olds ++ news).length := by simp at hj ⊢; omega
                  rw [← harr]
                  simp only [Array.getD_eq_getD_getElem?, List.getD_eq_getElem?_getD]
                  rw [Array.getElem?_append_left (by simpa using hj')]
                  simp
                have hlenall : (cs ++ ds).length = (n + k) * A.size := by rw [List.length_append, hcl, hdl, Nat.add_mul]
                have hgw : Grow γ.w (γ.w.drew.alloc (.cells arr A.e)) := (Grow.drew γ.w).trans (Grow.alloc _ _)
                have hvl := vr_list o1 o2 n2
                have hstep : BlkStep γ b e cs (e + 64) (cs ++ ds) γ.w.heap.size c A.size (γ.w.drew.alloc (.cells arr A.e)) :=
                  { os := rfl, tape := rfl, output := rfl, size := hgw.size, at_ := hb, ep := by omega, nz := by omega, zs := by right; omega
                    block := fun q hq _ => hgw.block q hq
                    place := .inr (Nat.le_refl _)
                    inw := by simp
                    tys := fun ar ty fz h => ⟨ar, fz, (hgw.block _ (heap_lt h)).trans h, Nat.le_refl _⟩
                    new := by
                      refine ⟨arr, A.e, heap_alloc_new γ.w.drew _, by rw [hasz, hlenall]; exact Nat.mul_le_mul_right _ hge, by rw [hasz]; exact Nat.le_refl _, fun j hj => ?_, fun j hj => ?_⟩
                      · rw [hgetD j hj]; exact hvl j hj
                      · rw [hgetD j hj]
                        have hj2 : j < (olds ++ news).length := by simp at hj ⊢; omega
                        rw [List.getD_eq_getElem?_getD, List.getElem?_eq_getElem hj2, Option.getD_some]
                        rcases List.mem_append.1 (List.getElem_mem hj2) with h | h
                        · exact o3 _ h
                        · exact n3 _ h }
                refine ⟨_, γ.bump b (e + 64) (cs ++ ds) γ.w.heap.size c A.size (γ.w.drew.alloc (.cells arr A.e)), rfl, ext_bump hstep, rl_bump hr hstep, rfl, ?_⟩
                exact .msl _ _ 0 _ _ _ c c ⟨_, bump_get_self hstep, ⟨Nat.le_refl _, fun h => h⟩, fun _ => by simp [Ghost.bump]⟩ hge fun _ => rfl

end Go.Hk
/- Maps: keys, and what is found under them. -/
set_option linter.unusedSimpArgs false
namespace Go.Hk
open Go.RowKit

/-- May this value be a key of this type? -/
def akey (P : Program) : Nat → TypeId → AVal → Bool
  | 0, _, _ => false
  | d + 1, t, x =>
    match tiOf P t with
    | none => false
    | some I =>
      match I.k, x with
      | .bool, .bool _ => true
      | .int _, .int _ _ => true
      | .str, .str _ => true
      | .arr n e, .agg cs =>
        match tiOf P e with
        | some E => (List.range n).all fun i => match apart P e cs (i * E.size) with
          | some a => akey P d e a
          | none => false
        | none => false
      | _, _ => false

theorem akey_sound {P : Program} {κ : Cx} (w : World) : ∀ (d : Nat) (t : TypeId) (x : AVal) (u : Value), akey P d t x = true → VR κ x u → ∀ (em : Bool) (D : Nat), d ≤ D → (Instr.checkKey em D t u).run P w = .ok () w := by
  intro d
  induction d with
  | zero => intro t x u h; simp [akey] at h
  | succ d ih =>
    intro t x u h hu em D hD
    obtain ⟨D, rfl⟩ : ∃ m, D = m + 1 := ⟨D - 1, by omega⟩
    have hD' : d ≤ D := by omega
    unfold akey at h
    cases hI : tiOf P t with
    | none => simp [hI] at h
    | some I =>
      simp only [hI] at h
      obtain ⟨i, ds, hi⟩ := tiOf_spec hI
      have hk := hi.k
      cases hkk : I.k with
      | bool =>
        rw [hkk] at hk h
        have := tk_bool hk; subst this
        cases hu <;> simp only [reduceCtorEq] at h
        simp [Instr.checkKey, hi.run_under w]
      | int kk =>
        rw [hkk] at hk h
        have := tk_int hk; subst this
        cases hu <;> simp only [reduceCtorEq] at h
        simp [Instr.checkKey, hi.run_under w]
      | str =>
        rw [hkk] at hk h
        have := tk_str hk; subst this
        cases hu <;> simp only [reduceCtorEq] at h
        simp [Instr.checkKey, hi.run_under w]
      | arr n e =>
        rw [hkk] at hk h
        have := tk_arr hk; subst this
        cases hu <;> simp only [reduceCtorEq] at h
        rename_i xs us hus huv huo
        cases hE : tiOf P e with
        | none => simp [hE] at h
        | some E =>
          simp only [hE] at h
          obtain ⟨i', d', hi'⟩ := tiOf_spec hE
          rw [Instr.checkKey]
          simp only [Sem.run_bind, hi.run_under w, Result.andThen_ok]
          simp only [Std.Legacy.Range.forIn_eq_forIn_range', Std.Legacy.Range.size, Nat.sub_zero, Nat.add_one_sub_one, Nat.div_one]
          rw [List.range_eq_range'] at h
          have each : ∀ j ∈ List.range' 0 n, ∃ a, apart P e xs (j * E.size) = some a ∧ akey P d e a = true := fun j hj => by
            have := List.all_eq_true.1 h j hj
            split at this
            · rename_i a ha; exact ⟨a, ha, this⟩
            · cases this
          clear h
          generalize List.range' 0 n = l at each
          induction l with
          | nil => simp
          | cons j l ihl =>
            obtain ⟨a, ha, hka⟩ := each j (by simp)
            obtain ⟨a', ra, va⟩ := apart_sound w ha hus huv huo
            have p2 := ih e a a' hka va em D hD'
            simp only [List.forIn_cons, Sem.run_bind, hi'.run_size w, Result.andThen_ok, ra, p2, Sem.run_pure]
            exact ihl fun y hy => each y (by simp [hy])
      | _ => rw [hkk] at h; simp at h

/-- Where a key stands; it is held against all. -/
def afind (P : Program) (kt : TypeId) (k : AVal) : List (AVal × AVal) → Nat → Option (Option Nat)
  | [], _ => some none
  | e :: es, i =>
    match aeq P 20 kt k e.1 with
    | some true => if es.all (fun e' => aeq P 20 kt k e'.1 == some false) then some (some i) else none
    | some false => afind P kt k es (i + 1)
    | none => none

theorem afind_ge {P : Program} {kt : TypeId} {k : AVal} : ∀ (es : List (AVal × AVal)) (i j : Nat), afind P kt k es i = some (some j) → i ≤ j ∧ j < i + es.length
  | [], i, j, h => by simp [afind] at h
  | e :: es, i, j, h => by
    simp only [afind] at h
    split at h
    · split at h
      · simp only [Option.some.injEq] at h; subst h; simp
      · cases h
    · have := afind_ge es (i + 1) j h; simp; omega
    · cases h
theorem afind_dec {P : Program} {kt : TypeId} {k : AVal} : ∀ (es : List (AVal × AVal)) (i : Nat) (r : Option Nat), afind P kt k es i = some r → ∀ (j : Nat) (h : j < es.length), ∃ b, aeq P 20 kt k es[j].1 = some b ∧ (b = true ↔ r = some (i + j))
  | [], i, r, _, j, hj => absurd hj (Nat.not_lt_zero j)
  | e :: es, i, r, h, j, hj => by
    simp only [afind] at h
    split at h
    · rename_i heq
      split at h
      case isFalse => cases h
      rename_i hall
      simp only [Option.some.injEq] at h; subst h
      cases j with
      | zero => exact ⟨true, heq, by simp⟩
      | succ j =>
        have hj' : j < es.length := by simpa using hj
        have := List.all_eq_true.1 hall es[j] (List.getElem_mem hj')
        simp only [beq_iff_eq] at this
        exact ⟨false, this, by simp⟩
    · rename_i heq
      cases j with
      | zero =>
        refine ⟨false, heq, ?_⟩
        simp only [Bool.false_eq_true, false_iff]
        intro hr
        subst hr
        have := afind_ge es (i + 1) (i + 0) h
        omega
      | succ j =>
        obtain ⟨b, h1, h2⟩ := afind_dec es (i + 1) r h j (by simpa using hj)
        refine ⟨b, h1, h2.trans ?_⟩
        rw [show i + 1 + j = i + (j + 1) by omega]
    · cases h

theorem same_now {P : Program} {κ : Cx} {kt : TypeId} {d : TypeDesc} (hd : P.underlying kt = some d) {x y : AVal} {u v : Value} (hu : VR κ x u) (hv : VR κ y v) {b b' : Bool} (h : aeq P 20 kt x y = some b) (h' : Instr.sameNow d u v = some b') : b' = b := by
  unfold aeq at h
  cases hI : tiOf P kt with
  | none => simp [hI] at h
  | some I =>
    simp only [hI] at h
    obtain ⟨i, ds, hi⟩ := tiOf_spec hI
    have hk := hi.k
    have hdd : ds = d := by have := hi.under; rw [hd] at this; exact (Option.some.inj this).symm
    subst hdd
    cases ds with
    | bool =>
      simp only [tkOf] at hk
      rw [hk] at h
      cases hu <;> cases hv <;> first | cases h; done | skip
      simp only [Instr.sameNow, Option.some.injEq] at h h'
      rw [← h, ← h']
    | int kk =>
      simp only [tkOf] at hk
      rw [hk] at h
      cases hu <;> cases hv <;> first | cases h; done | skip
      simp only [Instr.sameNow] at h h'
      split at h
      · rename_i hkk
        rw [if_pos hkk] at h'
        simp only [Option.some.injEq] at h h'; rw [← h, ← h']
      · cases h
    | string =>
      simp only [tkOf] at hk
      rw [hk] at h
      cases hu <;> cases hv <;> first | cases h; done | skip
      simp only [Instr.sameNow, Option.some.injEq] at h h'
      rw [← h, ← h']
      rename_i s1 s2
      have e2 : (ByteArray.mk s1.toArray == ByteArray.mk s2.toArray) = (s1.toArray == s2.toArray) := rfl
      rw [e2]
      by_cases e : s1 = s2
      · subst e; simp
      · simp [e]
    | _ => simp [Instr.sameNow] at h'

/-- What the machine finds. -/
def foundP (p : MapEntry → Bool) : List MapEntry → Nat → Option (Nat × Value)
  | [], _ => none
  | x :: L, i => if p x = true then some (i, x.val) else foundP p L (i + 1)
theorem foundP_none {p : MapEntry → Bool} : ∀ (L : List MapEntry) (i : Nat), (∀ x ∈ L, p x = false) → foundP p L i = none
  | [], _, _ => rfl
  | x :: L, i, h => by
    simp only [foundP, h x (by simp), Bool.false_eq_true, if_false]
    exact foundP_none L (i + 1) fun y hy => h y (by simp [hy])
theorem foundP_some {p : MapEntry → Bool} {y : MapEntry} : ∀ (L : List MapEntry) (i : Nat), y ∈ L → p y = true → (∀ x ∈ L, p x = true → x = y) → ∃ q, foundP p L i = some (i + q, y.val) ∧ L[q]? = some y
  | [], _, hy, _, _ => absurd hy (by simp)
  | x :: L, i, hy, hp, hu => by
    by_cases hx : p x = true
    · obtain rfl := hu x (by simp) hx
      exact ⟨0, by simp [foundP, hx], rfl⟩
    · have hne : y ≠ x := fun he => hx (he ▸ hp)
      have hy' : y ∈ L := by
        rcases List.mem_cons.1 hy with h | h
        · exact absurd h hne
        · exact h
      obtain ⟨q, h1, h2⟩ := foundP_some L (i + 1) hy' hp fun z hz => hu z (by simp [hz])
      exact ⟨q + 1, by simp only [foundP, if_neg hx, h1]; rw [show i + 1 + q = i + (q + 1) by omega], by simpa using h2⟩

theorem born_eq {l : List MapEntry} (hn : (l.map (·.born)).Nodup) {i j : Nat} (hi : i < l.length) (hj : j < l.length) (h : l[i].born = l[j].born) : i = j := by
  have := (List.getElem_inj (i := i) (j := j) (h₀ := by simpa using hi) (h₁ := by simpa using hj) hn).1 (by simpa using h)
  exact this

theorem search_sound {P : Program} (w : World) {kt : TypeId} {d : TypeDesc} {u : Value} {p : MapEntry → Bool} : ∀ (L : List MapEntry) (i : Nat),
    (∀ x ∈ L, (Op.equal kt u x.key).run P w = .ok (p x) w ∧ ∀ b, Instr.sameNow d u x.key = some b → b = p x) →
      (Instr.findAsking kt u L i).run P w = .ok (foundP p L i) w ∧ ∀ q, Instr.findNow d u L i = some q → q = foundP p L i
  | [], i, _ => ⟨by simp [Instr.findAsking, foundP], fun q hq => by simp [Instr.findNow] at hq; rw [← hq]; rfl⟩
  | x :: L, i, h => by
    obtain ⟨hE, hS⟩ := h x (by simp)
    obtain ⟨h1, h2⟩ := search_sound w L (i + 1) fun y hy => h y (by simp [hy])
    cases hp : p x with
    | true =>
      refine ⟨by simp [Instr.findAsking, hE, foundP, hp], fun q hq => ?_⟩
      simp only [Instr.findNow] at hq
      split at hq
      · simp only [Option.some.injEq] at hq; rw [← hq]; simp [foundP, hp]
      · rename_i hs; have := hS _ hs; rw [hp] at this; cases this
      · cases hq
    | false =>
      refine ⟨by simp [Instr.findAsking, hE, foundP, hp, h1], fun q hq => ?_⟩
      simp only [Instr.findNow] at hq
      split at hq
      · rename_i hs; have := hS _ hs; rw [hp] at this; cases this
      · simpa [foundP, hp] using h2 q hq
      · cases hq

/-- Which entry it is. -/
def isAt (l : List MapEntry) (r : Option Nat) (x : MapEntry) : Bool :=
  match r with
  | some j => (l[j]?).any fun y => y.born == x.born
  | none => false

theorem find_sound {P : Program} {κ : Cx} (w : World) {kt : TypeId} {d : TypeDesc} (hd : P.underlying kt = some d) {k : AVal} {u : Value} (hu : VR κ k u) {es : List (AVal × AVal)} {L l : List MapEntry} {r : Option Nat} (h : afind P kt k es 0 = some r)
    (hp : l.Perm L) (hn : (L.map (·.born)).Nodup) (ha : AL κ es l) :
    (Instr.findKey kt u L).run P w = .ok (foundP (isAt l r) L 0) w ∧ (∀ j, r = some j → ∃ (hj : j < l.length) (q : Nat), foundP (isAt l r) L 0 = some (q, l[j].val) ∧ L[q]? = some l[j]) ∧ (r = none → foundP (isAt l r) L 0 = none) := by
  have hnl : (l.map (·.born)).Nodup := (hp.map _).nodup_iff.2 hn
  have key : ∀ x ∈ L, (Op.equal kt u x.key).run P w = .ok (isAt l r x) w ∧ ∀ b, Instr.sameNow d u x.key = some b → b = isAt l r x := by
    intro x hx
    obtain ⟨i, hi, rfl⟩ := List.mem_iff_getElem.1 (hp.mem_iff.2 hx)
    have hie : i < es.length := by rw [← ha.1]; exact hi
    obtain ⟨b, h1, h2⟩ := afind_dec es 0 r h i hie
    have hv := (ha.2 i hie hi).1
    have hb : b = isAt l r l[i] := by
      have : b = true ↔ isAt l r l[i] = true := by
        rw [h2]
        simp only [Nat.zero_add]
        constructor
        · rintro rfl
          simp [isAt, List.getElem?_eq_getElem hi]
        · intro hat
          cases r with
          | none => simp [isAt] at hat
          | some j =>
            obtain ⟨_, hj⟩ := afind_ge es 0 j h
            have hjl : j < l.length := by rw [ha.1]; omega
            simp only [isAt, List.getElem?_eq_getElem hjl, Option.any_some, beq_iff_eq] at hat
            rw [born_eq hnl hjl hi hat]
      cases b <;> cases hh : isAt l r l[i] <;> simp_all
    subst hb
    exact ⟨aeq_sound (κ := κ) w 20 kt k es[i].1 _ u _ h1 hu hv 10000 (by omega), fun b hs => same_now hd hu hv h1 hs⟩
  obtain ⟨h1, h2⟩ := search_sound w L 0 key
  refine ⟨?_, fun j hj => ?_, fun hr => ?_⟩
  · simp only [Instr.findKey, Sem.run_bind, run_underlying hd, Result.andThen_ok]
    cases hq : Instr.findNow d u L 0 with
    | none => exact h1
    | some q => rw [h2 q hq]; simp
  · subst hj
    obtain ⟨_, hje⟩ := afind_ge es 0 j h
    have hjl : j < l.length := by rw [ha.1]; omega
    have hinj : ∀ x ∈ L, x.born = l[j].born → x = l[j] := by
      intro x hx hb
      obtain ⟨i, hi, rfl⟩ := List.mem_iff_getElem.1 (hp.mem_iff.2 hx)
      have := born_eq hnl hi hjl hb
      subst this; rfl
    obtain ⟨q, k1, k2⟩ := foundP_some (p := isAt l (some j)) (y := l[j]) L 0 (hp.mem_iff.1 (List.getElem_mem hjl)) (by simp [isAt, List.getElem?_eq_getElem hjl]) (fun x hx hat => by
      simp only [isAt, List.getElem?_eq_getElem hjl, Option.any_some, beq_iff_eq] at hat
      exact hinj x hx hat.symm)
    exact ⟨hjl, q, by simpa using k1, k2⟩
  · subst hr
    exact foundP_none L 0 fun _ _ => rfl

def afound (ok : Bool) (b : Bool) (v : AVal) : AVal := if ok then .tup v [.bool b] else v

def alookup (P : Program) (t : TypeId) (m : AMem) (x k : AVal) (ok : Bool) : Option AVal :=
  match tiOf P t with
  | some I => (match I.k with
    | .map kt et => (match tiOf P et with
      | some E => (match x with
        | .map b => (match m.H[b]? with
          | some (.amap es) => if akey P 20 kt k = true then (match afind P kt k es 0 with
            | some (some j) => (es[j]?).map fun e => afound ok true e.2
            | some none => E.zero.map (afound ok false)
            | none => none) else none
          | _ => none)
        | .nilm => if akey P 20 kt k = true then E.zero.map (afound ok false) else none
        | _ => none)
      | none => none)
    | _ => none)
  | none => none

theorem afound_vr {κ : Cx} {ok b : Bool} {v : AVal} {u : Value} (h : VR κ v u) : VR κ (afound ok b v) (if ok = true then .tuple #[u, .bool b] else u) := by
  cases ok with
  | false => exact h
  | true =>
    refine .tup v [.bool b] _ rfl fun j hj => ?_
    have hj2 : j < 2 := hj
    match j, hj2 with
    | 0, _ => exact h
    | 1, _ => exact .bool b

theorem alookup_sound {P : Program} {γ : Ghost} (hr : Rl γ) {t : TypeId} {x k v : AVal} {ok : Bool} {xu ku : Value} (h : alookup P t γ.S x k ok = some v) (hx : VR γ.cx x xu) (hk : VR γ.cx k ku) :
    ∃ v', (Instr.lookup t xu ku ok).run P γ.w = .ok v' γ.w ∧ VR γ.cx v v' := by
  unfold alookup at h
  cases hI : tiOf P t with
  | none => simp [hI] at h
  | some I =>
    simp only [hI] at h
    obtain ⟨i, ds, hi⟩ := tiOf_spec hI
    have hkk := hi.k
    cases hq : I.k <;> simp only [hq, reduceCtorEq] at h
    rename_i kt et
    rw [hq] at hkk
    have := tk_map hkk; subst this
    cases hE : tiOf P et with
    | none => simp [hE] at h
    | some E =>
      simp only [hE] at h
      obtain ⟨i', d', hi'⟩ := tiOf_spec hE
      have kd : ∀ {a : AVal} {u : Value}, akey P 20 kt a = true → ∃ d, P.underlying kt = some d := fun {a u} hak => by
        unfold akey at hak
        cases hK : tiOf P kt with
        | none => simp [hK] at hak
        | some K => obtain ⟨_, d, hd⟩ := tiOf_spec hK; exact ⟨d, hd.under⟩
      cases x <;> simp only [reduceCtorEq] at h
      case nilm =>
        split at h
        · rename_i hak
          cases hx
          obtain ⟨d, hd⟩ := kd (u := ku) hak
          cases hz : E.zero with
          | none => simp [hz] at h
          | some z =>
            simp only [hz, Option.map_some, Option.some.injEq] at h
            obtain ⟨zv, hrz, hiz, rfl⟩ := hi'.run_zero γ.w hz
            have hc := akey_sound (κ := γ.cx) γ.w 20 kt k ku hak hk true 10000 (by omega)
            have hf := (find_sound (κ := γ.cx) γ.w hd hk (es := []) (L := []) (l := []) (r := none) rfl (.refl _) (by simp) ⟨rfl, fun j hj => absurd hj (Nat.not_lt_zero j)⟩).1
            refine ⟨if ok = true then .tuple #[zv, .bool false] else zv, ?_, h ▸ afound_vr (VR.ofVal γ.cx zv)⟩
            simp only [Instr.lookup, Sem.run_bind, hi.run_under γ.w, Result.andThen_ok, Sem.run_pure]
            simp [hc, hf, foundP, hrz]
        · cases h
      case map b =>
        cases hb : γ.S.H[b]? with
        | none => simp [hb] at h
        | some y =>
          cases y with
          | cells e cs => simp [hb] at h
          | iter _ _ _ => simp [hb] at h
          | loop _ _ _ _ _ _ _ => simp [hb] at h
          | amap es =>
            simp only [hb] at h
            split at h
            case isFalse => cases h
            rename_i hak
            obtain ⟨en, clk, h1, h2⟩ := hr.maps b es hb
            obtain ⟨l, hp, hal⟩ := h2.perm
            cases hx with
            | map _ g c hblk =>
              obtain ⟨y, hy, _, hy2⟩ := hblk
              rw [hb] at hy
              cases hy
              obtain ⟨hg, _⟩ := hy2 rfl
              subst hg
              obtain ⟨d, hd⟩ := kd (u := ku) hak
              have hc := akey_sound (κ := γ.cx) γ.w 20 kt k ku hak hk en.isEmpty 10000 (by omega)
              have hgo : (getObj (γ.ι.h b)).run P γ.w = .ok (.map en clk) γ.w := by simp [getObj, Sem.run, h1]
              cases hfd : afind P kt k es 0 with
              | none => simp [hfd] at h
              | some r =>
                obtain ⟨hf, hf1, hf0⟩ := find_sound (κ := γ.cx) γ.w hd hk hfd hp h2.born hal
                simp only [hfd] at h
                cases r with
                | none =>
                  have hf0 := hf0 rfl
                  cases hz : E.zero with
                  | none => simp [hz] at h
                  | some z =>
                    simp only [hz, Option.map_some, Option.some.injEq] at h
                    obtain ⟨zv, hrz, hiz, rfl⟩ := hi'.run_zero γ.w hz
                    refine ⟨if ok = true then .tuple #[zv, .bool false] else zv, ?_, h ▸ afound_vr (VR.ofVal γ.cx zv)⟩
                    rw [hf0] at hf
                    simp only [Instr.lookup, Sem.run_bind, hi.run_under γ.w, Result.andThen_ok, Sem.run_pure, hgo]
                    simp [hc, hf, hrz]
                | some j =>
                  obtain ⟨_, hjl⟩ := afind_ge es 0 j hfd
                  have hj : j < es.length := by omega
                  simp only [List.getElem?_eq_getElem hj, Option.map_some, Option.some.injEq] at h
                  obtain ⟨hjl', q, k1, k2⟩ := hf1 j rfl
                  refine ⟨if ok = true then .tuple #[l[j].val, .bool true] else l[j].val, ?_, h ▸ afound_vr (hal.2 j hj hjl').2⟩
                  rw [k1] at hf
                  simp only [Instr.lookup, Sem.run_bind, hi.run_under γ.w, Result.andThen_ok, Sem.run_pure, hgo]
                  simp [hc, hf]

/-! ### A map is written -/

def Ghost.mset (γ : Ghost) (b : Nat) (H' : List ABlk) (o : Obj) : Ghost :=
  { γ with S := { γ.S with H := H' }, w := { γ.w with heap := γ.w.heap.setIfInBounds (γ.ι.h b) o } }

/-- Other blocks stay, but that iterators may forget what came last. -/
structure Mset (H : List ABlk) (b : Nat) (y : ABlk) (H' : List ABlk) : Prop where
  len : H'.length = H.length
  at_ : H'[b]? = some y
  oth : ∀ x, x ≠ b → H'[x]? = H[x]? ∨ ∃ l c, H[x]? = some (.iter b l c) ∧ H'[x]? = some (.iter b l none)

/-- A block of no cells. -/
def ABlk.nocells : ABlk → Bool
  | .cells _ _ => false
  | _ => true
theorem BR.nocells {κ : Cx} {c z : Nat} {x : ABlk} {o : Obj} (hb : BR κ c z x o) (h : x.nocells = true) : ∀ arr ty f, o ≠ .cells arr ty f := by
  intro arr ty f he
  subst he
  cases x with
  | cells e cs => cases h
  | amap es => obtain ⟨_, _, h1, _⟩ := hb; cases h1
  | iter mb l q => obtain ⟨_, _, _, _, h1⟩ := hb; cases h1
  | loop st pend ps asg body env n => obtain ⟨_, h1, _⟩ := hb; cases h1
theorem ABlk.nocells_ep {x : ABlk} (h : x.nocells = true) : x.ep = 0 := by
  cases x <;> first | rfl | cases h

section mset
variable {γ : Ghost} {b : Nat} {y0 y : ABlk} {o : Obj} {H' : List ABlk}

theorem mset_blkOwns (hm : Mset γ.S.H b y H') {x g : Nat} : (γ.mset b H' o).blkOwns x g ↔ γ.blkOwns x g := by simp [Ghost.blkOwns, Ghost.mset, hm.len]
theorem mset_heap {k : Nat} (h : k ≠ γ.ι.h b) : (γ.mset b H' o).w.heap[k]? = γ.w.heap[k]? := by simp [Ghost.mset, Ne.symm h]
theorem mset_self (hr : Rl γ) (hb : γ.S.H[b]? = some y0) : (γ.mset b H' o).w.heap[γ.ι.h b]? = some o := by
  have hl := (hr.inw hb).2
  show (γ.w.heap.setIfInBounds (γ.ι.h b) o)[γ.ι.h b]? = _
  simp [hl]

theorem own_mset (hr : Rl γ) (hb : γ.S.H[b]? = some y0) (h0 : y0.nocells = true) {q : Nat} {t : TypeId} {n : Nat} (hq : γ.own q t n) : (γ.mset b H' o).own q t n :=
  own_of (γ := γ) (γ' := γ.mset b H' o) rfl (fun q arr ty fz hg => by
    by_cases hk : q = γ.ι.h b
    · subst hk
      obtain ⟨o', h1, h2⟩ := hr.objs b y0 hb
      rw [h1] at hg
      cases hg
      exact absurd rfl (h2.nocells h0 _ _ _)
    · exact ⟨arr, fz, (mset_heap hk).trans hg, Nat.le_refl _⟩) hq
theorem ext_mset (hr : Rl γ) (hb : γ.S.H[b]? = some y0) (h0 : y0.nocells = true) (h1 : y.nocells = true) (hm : Mset γ.S.H b y H') : Ext γ (γ.mset b H' o) where
  bad := rfl
  lo := rfl
  size := by simp [Ghost.mset]
  os := rfl
  tape := rfl
  output := rfl
  cell := fun g o' u h => by
    have hlt : b < γ.S.H.length := (List.getElem?_eq_some_iff.1 hb).1
    refine ⟨?_, h.2.1, h.2.2.1, fun b' hb' => h.2.2.2.1 b' ((mset_blkOwns hm).1 hb'), h.2.2.2.2⟩
    have hne : g ≠ γ.ι.h b := fun he => h.2.2.2.1 b ⟨hlt, he.symm⟩
    rw [show (γ.mset b H' o).w.cell? ⟨g, o', none⟩ = γ.w.cell? ⟨g, o', none⟩ from World.cell?_of_block (w := γ.w) (mset_heap hne)]
    exact h.1
  blk := fun b' e' g c ⟨x, k1, k2, k3⟩ => by
    by_cases hbb : b' = b
    · subst hbb
      rw [hb] at k1
      cases k1
      rw [ABlk.nocells_ep h0] at k2 k3
      exact ⟨y, hm.at_, by rw [ABlk.nocells_ep h1]; exact k2, by rw [ABlk.nocells_ep h1]; exact k3⟩
    · rcases hm.oth b' hbb with h | ⟨l, c', j1, j2⟩
      · exact ⟨x, h.trans k1, k2, k3⟩
      · rw [j1] at k1
        cases k1
        exact ⟨_, j2, k2, k3⟩
  tip := fun _ _ _ _ ht => tip_of (γ := γ) (γ' := γ.mset b H' o) rfl rfl rfl (fun _ _ => own_mset hr hb h0) ht
  own := fun _ _ _ => own_mset hr hb h0
  frame := fun k _ ho => .inl (mset_heap fun he => ho (.inl ⟨b, (List.getElem?_eq_some_iff.1 hb).1, he.symm⟩))
  owns := fun k h => by
    rcases h with ⟨b', hb'⟩ | h
    · exact .inl (.inl ⟨b', (mset_blkOwns hm).1 hb'⟩)
    · exact .inl (.inr h)

theorem rl_mset (hr : Rl γ) (hb : γ.S.H[b]? = some y0) (h0 : y0.nocells = true) (h1 : y.nocells = true) (hm : Mset γ.S.H b y H') (hv : BR γ.cx (γ.ι.c b) (γ.ι.z b) y o)
    (hself : ∀ mb l c, y = .iter mb l c → mb ≠ b ∧ ∃ es en clk since seen c0, γ.S.H[mb]? = some (.amap es) ∧ o = .mapIter (some (γ.ι.h mb)) since seen c0 ∧ γ.w.heap[γ.ι.h mb]? = some (.map en clk) ∧ IR γ.cx l c en clk since seen c0)
    (hit : ∀ (x : Nat) (l : List (AVal × AVal)) (c c' : Option (AVal × AVal)), x ≠ b → γ.S.H[x]? = some (.iter b l c) → H'[x]? = some (.iter b l c') → ∃ es en clk, y = .amap es ∧ o = .map en clk ∧
      ∀ (en0 : Array MapEntry) (clk0 since : Nat) (seen : Array Nat) (c0 : Nat), γ.w.heap[γ.ι.h b]? = some (.map en0 clk0) → IR γ.cx l c en0 clk0 since seen c0 → IR γ.cx l c' en clk since seen c0) : Rl (γ.mset b H' o) where
  lo := by simpa [Ghost.mset] using hr.lo
  bad := hr.bad
  objs := fun b' x hb' => by
    have hb'' : H'[b']? = some x := hb'
    by_cases hbb : b' = b
    · subst hbb
      rw [hm.at_] at hb''
      cases hb''
      exact ⟨o, mset_self hr hb, hv.mono (ext_mset hr hb h0 h1 hm).le⟩
    · rcases hm.oth b' hbb with h | ⟨l, c', k1, k2⟩
      · rw [h] at hb''
        obtain ⟨q, k1, k2⟩ := hr.objs b' x hb''
        exact ⟨q, (mset_heap (hr.ne hb hb'' hbb)).trans k1, k2.mono (ext_mset hr hb h0 h1 hm).le⟩
      · rw [k2] at hb''
        cases hb''
        obtain ⟨q, j1, j2⟩ := hr.objs b' _ k1
        exact ⟨q, (mset_heap (hr.ne hb k1 hbb)).trans j1, j2⟩
  its := fun b' mb left cur hb' => by
    have hb'' : H'[b']? = some (.iter mb left cur) := hb'
    by_cases hbb : b' = b
    · subst hbb
      rw [hm.at_] at hb''
      cases hb''
      obtain ⟨hmb, es, en, clk, since, seen, c0, g1, g2, g3, g4⟩ := hself mb left cur rfl
      refine ⟨es, en, clk, since, seen, c0, ?_, (mset_self hr hb).trans (congrArg some g2), (mset_heap (hr.ne hb g1 hmb)).trans g3, g4.mono (ext_mset hr hb h0 h1 hm).le⟩
      rcases hm.oth mb hmb with h' | ⟨l, c', k1, k2⟩
      · exact h'.trans g1
      · rw [k1] at g1; cases g1
    have hslf : ∀ cur0, γ.S.H[b']? = some (.iter b left cur0) → H'[b']? = some (.iter b left cur) → ∃ es en clk since seen c0, H'[b]? = some (.amap es) ∧ (γ.mset b H' o).w.heap[γ.ι.h b']? = some (.mapIter (some (γ.ι.h b)) since seen c0) ∧ (γ.mset b H' o).w.heap[γ.ι.h b]? = some (.map en clk) ∧ IR (γ.mset b H' o).cx left cur en clk since seen c0 := by
      intro cur0 h h'
      obtain ⟨es1, en1, clk1, since, seen, c0, g1, g2, g3, g4⟩ := hr.its b' b left cur0 h
      obtain ⟨es, en, clk, e1, e2, e3⟩ := hit b' left cur0 cur hbb h h'
      subst e1
      refine ⟨es, en, clk, since, seen, c0, hm.at_, (mset_heap (hr.ne hb h hbb)).trans g2, (mset_self hr hb).trans (congrArg some e2), (e3 en1 clk1 since seen c0 g3 g4).mono (ext_mset hr hb h0 h1 hm).le⟩
    rcases hm.oth b' hbb with h | ⟨l, c', k1, k2⟩
    · rw [h] at hb''
      by_cases hmb : mb = b
      · subst hmb
        exact hslf cur hb'' (h.trans hb'')
      · obtain ⟨es1, en1, clk1, since, seen, c0, g1, g2, g3, g4⟩ := hr.its b' mb left cur hb''
        refine ⟨es1, en1, clk1, since, seen, c0, ?_, (mset_heap (hr.ne hb hb'' hbb)).trans g2, (mset_heap (hr.ne hb g1 hmb)).trans g3, g4.mono (ext_mset hr hb h0 h1 hm).le⟩
        rcases hm.oth mb hmb with h' | ⟨l, c', k1, k2⟩
        · exact h'.trans g1
        · rw [k1] at g1; cases g1
    · rw [k2] at hb''
      cases hb''
      exact hslf c' k1 k2
  toks := fun t g ht => by
    have hlt : b < γ.S.H.length := (List.getElem?_eq_some_iff.1 hb).1
    obtain ⟨arr, lo, hi, tp, sz, k1, k2⟩ := hr.toks t g ht
    exact ⟨arr, lo, hi, tp, sz, by rw [mset_heap fun he => hr.ht b t g ⟨hlt, he.symm⟩ ht]; exact k1, k2⟩
  own := fun g hg => by
    have : γ.owns g := by
      rcases hg with ⟨b', hb'⟩ | h
      · exact .inl ⟨b', (mset_blkOwns hm).1 hb'⟩
      · exact .inr h
    simpa [Ghost.mset] using hr.own g this
  hh := fun x y g h h' => hr.hh x y g ((mset_blkOwns hm).1 h) ((mset_blkOwns hm).1 h')
  ht := fun x t g h ht => hr.ht x t g ((mset_blkOwns hm).1 h) ht
  tt := hr.tt
end mset

/-- No iterator goes over this map. -/
def noIt1 (b : Nat) : ABlk → Bool
  | .iter mb _ _ => mb != b
  | _ => true
def noIt (b : Nat) (H : List ABlk) : Bool := H.all (noIt1 b)
theorem Mset.put {H : List ABlk} {b : Nat} {y0 y : ABlk} (hb : H[b]? = some y0) : Mset H b y (H.set b y) :=
  ⟨by simp, by rw [List.getElem?_set_self (List.getElem?_eq_some_iff.1 hb).1], fun x hx => .inl (by rw [List.getElem?_set_ne (Ne.symm hx)])⟩
theorem noIt_abs {H : List ABlk} {b x : Nat} {l : List (AVal × AVal)} {c : Option (AVal × AVal)} (h : noIt b H = true) (hx : H[x]? = some (.iter b l c)) : False := by
  have := List.all_eq_true.1 h _ (List.mem_of_getElem? hx)
  simp [noIt1] at this

/-- Two keys, bit by bit. -/
def abit1 : AVal → AVal → Bool
  | .int k a, .int k' b => k == k' && a == b
  | .bool a, .bool b => a == b
  | .str a, .str b => a == b
  | _, _ => false
def abits : AVal → AVal → Bool
  | .agg xs, .agg ys => xs.length == ys.length && (xs.zip ys).all fun p => abit1 p.1 p.2
  | x, y => abit1 x y

theorem abit1_sound {κ : Cx} {x y : AVal} {u v : Value} (h : abit1 x y = true) (hu : VR κ x u) (hv : VR κ y v) (n : Nat) : Instr.sameBits n u v = true := by
  cases x <;> cases y <;> simp only [abit1, Bool.false_eq_true] at h
  · cases hu; cases hv; cases n <;> simpa [Instr.sameBits] using h
  · cases hu; cases hv; cases n <;> simpa [Instr.sameBits] using h
  · cases hu; cases hv
    have : _ = _ := eq_of_beq h
    subst this
    rename_i s1
    have e2 : (ByteArray.mk s1.toArray == ByteArray.mk s1.toArray) = (s1.toArray == s1.toArray) := rfl
    cases n <;> simp [Instr.sameBits, e2]

theorem modify_map {f : MapEntry → MapEntry} : ∀ (L : List MapEntry) (q : Nat) (y : MapEntry), (L.map (·.born)).Nodup → L[q]? = some y → L.modify q f = L.map fun x => if x.born = y.born then f x else x
  | [], q, y, _, h => by simp at h
  | x :: L, 0, y, hn, h => by
    simp only [List.getElem?_cons_zero, Option.some.injEq] at h
    subst h
    simp only [List.map_cons, List.nodup_cons] at hn
    simp only [List.modify_zero_cons, List.map_cons, if_true, List.cons.injEq, true_and]
    refine (List.map_id L).symm.trans (List.map_congr_left fun z hz => ?_)
    rw [if_neg]
    · rfl
    · intro he; exact hn.1 (he ▸ List.mem_map.2 ⟨z, hz, rfl⟩)
  | x :: L, q + 1, y, hn, h => by
    simp only [List.map_cons, List.nodup_cons] at hn
    have hy : L[q]? = some y := by simpa using h
    have hne : x.born ≠ y.born := fun he => hn.1 (he ▸ List.mem_map.2 ⟨y, List.mem_of_getElem? hy, rfl⟩)
    simp only [List.modify_succ_cons, List.map_cons, if_neg hne, modify_map L q y hn.2 hy]
theorem set_map {f : MapEntry → MapEntry} (L : List MapEntry) (q : Nat) (y : MapEntry) (hn : (L.map (·.born)).Nodup) (h : L[q]? = some y) : L.set q (f y) = L.map fun x => if x.born = y.born then f x else x := by
  rw [← modify_map L q y hn h]
  obtain ⟨hq, rfl⟩ := List.getElem?_eq_some_iff.1 h
  apply List.ext_getElem?
  intro i
  simp only [List.getElem?_set, List.getElem?_modify]
  by_cases hi : q = i
  · subst hi; simp [hq]
  · simp [hi]

def amput (P : Program) (t : TypeId) (m : AMem) (x k v : AVal) : Option (AVal × AMem) :=
  match tiOf P t with
  | some I => (match I.k with
    | .map kt _ => (match x with
      | .map b => (match m.H[b]? with
        | some (.amap es) => if akey P 20 kt k = true ∧ noIt b m.H = true then (match afind P kt k es 0 with
          | some (some j) => (match es[j]? with
            | some e => if abits e.1 k = true then some (.undef, { m with H := m.H.set b (.amap (es.set j (k, v))) }) else none
            | none => none)
          | some none => some (.undef, { m with H := m.H.set b (.amap (es ++ [(k, v)])) })
          | none => none) else none
        | _ => none)
      | _ => none)
    | _ => none)
  | none => none

theorem abits_sound {κ : Cx} {x y : AVal} {u v : Value} (h : abits x y = true) (hu : VR κ x u) (hv : VR κ y v) (n : Nat) : Instr.sameBits (n + 1) u v = true := by
  by_cases hag : (∃ xs ys, x = .agg xs ∧ y = .agg ys)
  · obtain ⟨xs, ys, rfl, rfl⟩ := hag
    simp only [abits, Bool.and_eq_true, beq_iff_eq] at h
    cases hu with
    | agg _ us hus huv _ =>
      cases hv with
      | agg _ vs hvs hvv _ =>
        simp only [Instr.sameBits, Bool.and_eq_true, beq_iff_eq]
        refine ⟨by omega, List.all_eq_true.2 fun p hp => ?_⟩
        obtain ⟨j, hj, rfl⟩ := List.mem_iff_getElem.1 hp
        have hju : j < us.size := by simp at hj; omega
        have hjv : j < vs.size := by simp at hj; omega
        have hx := huv j (by omega)
        have hy := hvv j (by omega)
        simp only [Array.getD, hju, hjv, dite_true] at hx hy
        have hz := List.all_eq_true.1 h.2 ((xs.zip ys)[j]'(by simp; omega)) (List.getElem_mem _)
        simp only [List.getElem_zip] at hz
        simp only [List.getElem_zip, Array.getElem_toList]
        exact abit1_sound hz (by simpa using hx) (by simpa using hy) n
  · have h1 : abit1 x y = true := by
      cases x <;> cases y <;> first | exact h | exact absurd ⟨_, _, rfl, rfl⟩ hag
    exact abit1_sound h1 hu hv (n + 1)

theorem amput_sound {P : Program} {γ : Ghost} (hr : Rl γ) {t : TypeId} {x k v v0 : AVal} {m' : AMem} {xu ku vu : Value} (h : amput P t γ.S x k v = some (v0, m')) (hx : VR γ.cx x xu) (hk : VR γ.cx k ku) (hv : VR γ.cx v vu) :
    v0 = .undef ∧ ∃ γ', (Instr.mapUpdate t xu ku vu).run P γ.w = .ok () γ'.w ∧ Ext γ γ' ∧ Rl γ' ∧ γ'.S = m' := by
  unfold amput at h
  cases hI : tiOf P t with
  | none => simp [hI] at h
  | some I =>
    simp only [hI] at h
    obtain ⟨i, ds, hi⟩ := tiOf_spec hI
    have hkk := hi.k
    cases hq : I.k <;> simp only [hq, reduceCtorEq] at h
    rename_i kt et
    rw [hq] at hkk
    have := tk_map hkk; subst this
    cases x <;> simp only [reduceCtorEq] at h
    rename_i b
    cases hb : γ.S.H[b]? with
    | none => simp [hb] at h
    | some y =>
      cases y with
      | cells e cs => simp [hb] at h
      | iter _ _ _ => simp [hb] at h
      | loop _ _ _ _ _ _ _ => simp [hb] at h
      | amap es =>
        simp only [hb] at h
        split at h
        case isFalse => cases h
        rename_i hak
        obtain ⟨hak, hno⟩ := hak
        have hit : ∀ {y : ABlk} {o : Obj} {H' : List ABlk} (x : Nat) (l : List (AVal × AVal)) (c c' : Option (AVal × AVal)), x ≠ b → γ.S.H[x]? = some (.iter b l c) → H'[x]? = some (.iter b l c') → ∃ es en clk, y = .amap es ∧ o = .map en clk ∧
            ∀ (en0 : Array MapEntry) (clk0 since : Nat) (seen : Array Nat) (c0 : Nat), γ.w.heap[γ.ι.h b]? = some (.map en0 clk0) → IR γ.cx l c en0 clk0 since seen c0 → IR γ.cx l c' en clk since seen c0 :=
          fun x l c c' _ hx => (noIt_abs hno hx).elim
        obtain ⟨en, clk, h1, h2⟩ := hr.maps b es hb
        obtain ⟨l, hp, hal⟩ := h2.perm
        cases hx with
        | map _ g c hblk =>
          obtain ⟨y, hy, _, hy2⟩ := hblk
          rw [hb] at hy
          cases hy
          obtain ⟨hg, _⟩ := hy2 rfl
          subst hg
          obtain ⟨d, hd⟩ : ∃ d, P.underlying kt = some d := by
            unfold akey at hak
            cases hK : tiOf P kt with
            | none => simp [hK] at hak
            | some K => obtain ⟨_, d, hd⟩ := tiOf_spec hK; exact ⟨d, hd.under⟩
          have hc := akey_sound (κ := γ.cx) γ.w 20 kt k ku hak hk false 10000 (by omega)
          have hgo : (getObj (γ.ι.h b)).run P γ.w = .ok (.map en clk) γ.w := by simp [getObj, Sem.run, h1]
          have hso : ∀ o : Obj, (setObj (γ.ι.h b) o).run P γ.w = .ok () { γ.w with heap := γ.w.heap.setIfInBounds (γ.ι.h b) o } := fun o => by simp [setObj, Sem.run, h1]
          cases hfd : afind P kt k es 0 with
          | none => simp [hfd] at h
          | some r =>
            obtain ⟨hf, hf1, hf0⟩ := find_sound (κ := γ.cx) γ.w hd hk hfd hp h2.born hal
            simp only [hfd] at h
            cases r with
            | none =>
              simp only [Option.some.injEq, Prod.mk.injEq] at h
              obtain ⟨rfl, rfl⟩ := h
              have hf0 := hf0 rfl
              rw [hf0] at hf
              refine ⟨rfl, γ.mset b (γ.S.H.set b (.amap (es ++ [(k, v)]))) (.map (en.push { key := ku, val := vu, born := clk }) (clk + 1)), ?_, ext_mset hr hb rfl rfl (.put hb), rl_mset hr hb rfl rfl (.put hb) ⟨_, _, rfl, ?_, ?_, l ++ [{ key := ku, val := vu, born := clk }], ?_, ?_⟩ (fun _ _ _ h => by cases h) hit, rfl⟩
              · simp only [Instr.mapUpdate, Sem.run_bind, hi.run_under γ.w, Result.andThen_ok, hgo, hc, hf, hso]
                rfl
              · rw [Array.toList_push, List.map_append, List.nodup_append]
                refine ⟨h2.born, by simp, fun a ha c hc' he => ?_⟩
                subst he
                obtain ⟨x, hx, rfl⟩ := List.mem_map.1 ha
                have := h2.lt x hx
                simp at hc'
                omega
              · intro x hx
                rw [Array.toList_push, List.mem_append] at hx
                rcases hx with hx | hx
                · have := h2.lt x hx; omega
                · simp at hx; subst hx; simp
              · rw [Array.toList_push]; exact hp.append_right _
              · refine ⟨by simp [hal.1], fun j hj hj' => ?_⟩
                by_cases hje : j < es.length
                · have hjl : j < l.length := by rw [hal.1]; exact hje
                  rw [List.getElem_append_left hje, List.getElem_append_left hjl]
                  exact hal.2 j hje hjl
                · have hj2 : j = es.length := by simp at hj; omega
                  subst hj2
                  rw [List.getElem_append_right (Nat.le_refl _), List.getElem_append_right (by rw [hal.1]; exact Nat.le_refl _)]
                  simpa using ⟨hk, hv⟩
            | some j =>
              obtain ⟨_, hjl⟩ := afind_ge es 0 j hfd
              have hj : j < es.length := by omega
              simp only [List.getElem?_eq_getElem hj] at h
              split at h
              case isFalse => cases h
              rename_i hbits
              simp only [Option.some.injEq, Prod.mk.injEq] at h
              obtain ⟨rfl, rfl⟩ := h
              obtain ⟨hjl', q, k1, k2⟩ := hf1 j rfl
              rw [k1] at hf
              have hsb := abits_sound hbits (hal.2 j hj hjl').1 hk 9999
              have hnl : (l.map (·.born)).Nodup := (hp.map _).nodup_iff.2 h2.born
              have hq : q < en.size := by
                have := (List.getElem?_eq_some_iff.1 k2).1
                simpa using this
              have eq : en[q] = l[j] := by
                have := (List.getElem?_eq_some_iff.1 k2).2
                simpa using this
              have em : (en.modify q fun e => { e with key := ku, val := vu }).toList = en.toList.map fun x => if x.born = l[j].born then { x with key := ku, val := vu } else x :=
                (Array.toList_modify ..).trans (modify_map (f := fun x => { x with key := ku, val := vu }) en.toList q _ h2.born k2)
              have el : (l.set j { l[j] with key := ku, val := vu }) = l.map fun x => if x.born = l[j].born then { x with key := ku, val := vu } else x :=
                set_map (f := fun x => { x with key := ku, val := vu }) l j _ hnl (List.getElem?_eq_getElem hjl')
              refine ⟨rfl, γ.mset b (γ.S.H.set b (.amap (es.set j (k, v)))) (.map (en.modify q fun e => { e with key := ku, val := vu }) clk), ?_, ext_mset hr hb rfl rfl (.put hb), rl_mset hr hb rfl rfl (.put hb) ⟨_, _, rfl, ?_, ?_, l.set j { l[j] with key := ku, val := vu }, ?_, ?_⟩ (fun _ _ _ h => by cases h) hit, rfl⟩
              · have hkey : ((en[q]?).map (·.key)).getD ku = l[j].key := by rw [Array.getElem?_eq_getElem hq, eq]; rfl
                simp only [Instr.mapUpdate, Sem.run_bind, hi.run_under γ.w, Result.andThen_ok, hgo, hc, hf, hkey, Instr.keyThatStays, hsb, if_true, Sem.run_pure, hso]
                rfl
              · rw [em, List.map_map]
                have : (fun x : MapEntry => x.born) ∘ (fun x : MapEntry => if x.born = l[j].born then { x with key := ku, val := vu } else x) = fun x => x.born := by
                  funext x; simp only [Function.comp]; split <;> rfl
                rw [this]; exact h2.born
              · intro x hx
                rw [em] at hx
                obtain ⟨y, hy, rfl⟩ := List.mem_map.1 hx
                have := h2.lt y hy
                split <;> exact this
              · rw [em, el]; exact hp.map _
              · refine ⟨by simp [hal.1], fun i hi hi' => ?_⟩
                have hie : i < es.length := by simpa using hi
                have hil : i < l.length := by simpa using hi'
                by_cases hij : j = i
                · subst hij
                  simpa using ⟨hk, hv⟩
                · rw [List.getElem_set_ne hij, List.getElem_set_ne hij]
                  exact hal.2 i hie hil
end Go.Hk
/- Walks over maps: range, next, entry, delete; and what is taken out of an interface. -/
set_option linter.unusedSimpArgs false
set_option linter.unusedVariables false
namespace Go.Hk
open Go.RowKit

/-- range over a map. -/
def arange (P : Program) (t : TypeId) (m : AMem) (x : AVal) : Option (AVal × AMem) :=
  match tiOf P t with
  | some I => (match I.k with
    | .map _ _ => (match x with
      | .map b => (match m.H[b]? with
        | some (.amap es) => some (.ptr m.H.length 0 0, { m with H := m.H ++ [.iter b es none] })
        | _ => none)
      | _ => none)
    | _ => none)
  | none => none

theorem arange_sound {P : Program} {γ : Ghost} (hr : Rl γ) {t : TypeId} {x v : AVal} {m' : AMem} {xu : Value} (h : arange P t γ.S x = some (v, m')) (hx : VR γ.cx x xu) :
    ∃ v' γ', (Instr.range t xu).run P γ.w = .ok v' γ'.w ∧ Ext γ γ' ∧ Rl γ' ∧ γ'.S = m' ∧ VR γ'.cx v v' := by
  unfold arange at h
  cases hI : tiOf P t with
  | none => simp [hI] at h
  | some I =>
    simp only [hI] at h
    obtain ⟨i, ds, hi⟩ := tiOf_spec hI
    have hkk := hi.k
    cases hq : I.k <;> simp only [hq, reduceCtorEq] at h
    rename_i kt et
    rw [hq] at hkk
    have := tk_map hkk; subst this
    cases x <;> simp only [reduceCtorEq] at h
    rename_i b
    cases hb : γ.S.H[b]? with
    | none => simp [hb] at h
    | some y =>
      cases y with
      | cells e cs => simp [hb] at h
      | iter _ _ _ => simp [hb] at h
      | loop _ _ _ _ _ _ _ => simp [hb] at h
      | amap es =>
        simp only [hb, Option.some.injEq, Prod.mk.injEq] at h
        obtain ⟨rfl, rfl⟩ := h
        obtain ⟨en, clk, h1, h2⟩ := hr.maps b es hb
        obtain ⟨l, hp, hal⟩ := h2.perm
        cases hx with
        | map _ g c hblk =>
          obtain ⟨y, hy, _, hy2⟩ := hblk
          rw [hb] at hy
          cases hy
          obtain ⟨hg, _⟩ := hy2 rfl
          subst hg
          have hrun := run_range_map (P := P) γ.w t kt et (γ.ι.h b) en clk hi.under h1
          have hpl : Rl (γ.push (.iter b es none) 0 0 (.mapIter (some (γ.ι.h b)) clk #[] clk)) := rl_push' hr ⟨_, _, _, _, rfl⟩
            ⟨es, en, clk, clk, #[], clk, hb, rfl, h1, h2.lt, Nat.le_refl _, Nat.le_refl _, ⟨l, by rw [List.filter_eq_self.2 (fun x _ => by simp)]; exact hp, hal⟩, trivial⟩
          exact ⟨_, γ.push (.iter b es none) 0 0 (.mapIter (some (γ.ι.h b)) clk #[] clk), hrun, ext_push, hpl, rfl, .ptr _ _ _ _ 0 (push_blk rfl)⟩

/-- What came last. -/
def aentry (m : AMem) (x : AVal) : Option AVal :=
  match x with
  | .ptr b 0 0 => (match m.H[b]? with
    | some (.iter _ _ (some p)) => some (.tup p.1 [p.2])
    | _ => none)
  | _ => none

theorem ptr_at {γ : Ghost} {b : Nat} {x : ABlk} {u : Value} (hb : γ.S.H[b]? = some x) (h0 : x.ep = 0) (hx : VR γ.cx (.ptr b 0 0) u) : u = .pointer (some ⟨γ.ι.h b, 0, none⟩) := by
  cases hx with
  | ptr _ _ _ g c hblk =>
    obtain ⟨z, hz, _, hz2⟩ := hblk
    rw [hb] at hz
    cases hz
    obtain ⟨rfl, _⟩ := hz2 h0.symm
    rfl

theorem vr_pair {κ : Cx} {a b : AVal} {u v : Value} (h : VR κ a u) (k : VR κ b v) : VR κ (.tup a [b]) (.tuple #[u, v]) :=
  .tup a [b] _ rfl fun j hj => by
    have hj2 : j < 2 := hj
    match j, hj2 with
    | 0, _ => exact h
    | 1, _ => exact k

theorem aentry_sound {P : Program} {γ : Ghost} (hr : Rl γ) {x v : AVal} {xu : Value} (h : aentry γ.S x = some v) (hx : VR γ.cx x xu) : ∃ v', (Instr.entry xu).run P γ.w = .ok v' γ.w ∧ VR γ.cx v v' := by
  unfold aentry at h
  split at h
  case h_2 => cases h
  rename_i b
  split at h
  case h_2 => cases h
  rename_i mb left p hb
  cases h
  have := ptr_at hb rfl hx
  subst this
  obtain ⟨es, en, clk, since, seen, c0, g1, g2, g3, g4⟩ := hr.its b mb left _ hb
  obtain ⟨e, he, seen0, rfl, rfl, k1, k2⟩ := g4.cur
  obtain ⟨en', clk', m1, m2⟩ := hr.maps mb es g1
  rw [g3] at m1
  cases m1
  exact ⟨_, run_entry_at γ.w _ _ since seen0 en c0 e g2 g3 he m2.born, vr_pair k1 k2⟩

/-- What next may give: nothing is left, or one of those left. -/
theorem next_sound {P : Program} {γ : Ghost} (hr : Rl γ) {b mb : Nat} {left : List (AVal × AVal)} {cur : Option (AVal × AVal)} (hb : γ.S.H[b]? = some (.iter mb left cur)) (ty : TypeId) :
    (left = [] ∧ (Instr.next (.pointer (some ⟨γ.ι.h b, 0, none⟩)) false ty).run P γ.w = .ok (.tuple #[.bool false]) γ.w) ∨
    ∃ (i : Nat) (hi : i < left.length) (γ' : Ghost) (k v : Value), (Instr.next (.pointer (some ⟨γ.ι.h b, 0, none⟩)) false ty).run P γ.w = .ok (.tuple #[.bool true, k, v]) γ'.w ∧ Ext γ γ' ∧ Rl γ' ∧
      γ'.S = { γ.S with H := γ.S.H.set b (.iter mb (left.eraseIdx i) (some left[i])) } ∧ VR γ'.cx left[i].1 k ∧ VR γ'.cx left[i].2 v := by
  obtain ⟨es, en, clk, since, seen, c0, g1, g2, g3, g4⟩ := hr.its b mb left cur hb
  obtain ⟨l, l1, l2⟩ := g4.left
  have hlo : (leftOf en seen).toList = en.toList.filter fun x => !seen.contains x.born := by simp [leftOf]
  rcases run_next_at (P := P) γ.w ty (γ.ι.h b) (γ.ι.h mb) since c0 seen en clk g2 g3 g4.old g4.sc with ⟨h0, hrun⟩ | ⟨e, he, w1, hw1, hrun⟩
  · left
    refine ⟨?_, hrun⟩
    have : (leftOf en seen).toList.length = 0 := by simpa using h0
    rw [hlo, ← l1.length_eq, l2.1] at this
    exact List.eq_nil_of_length_eq_zero this
  · right
    rw [hlo] at he
    obtain ⟨i, hi, rfl⟩ := List.mem_iff_getElem.1 (l1.mem_iff.2 he)
    have hil : i < left.length := by rw [← l2.1]; exact hi
    have hmem : l[i] ∈ en.toList := (List.mem_filter.1 he).1
    obtain ⟨en', clk', m1, m2⟩ := hr.maps mb es g1
    rw [g3] at m1
    cases m1
    have hg : Grow γ.w w1 := by rcases hw1 with rfl | rfl; exact Grow.refl _; exact Grow.drew _
    have hheap : w1.heap = γ.w.heap := by rcases hw1 with rfl | rfl <;> rfl
    have hr1 := rl_grow hr hg
    have he1 := ext_grow (γ := γ) hg
    have hmb : mb ≠ b := fun he => by subst he; rw [hb] at g1; cases g1
    have hnl : (l.map (·.born)).Nodup := by
      refine (l1.map _).nodup_iff.2 ?_
      exact List.Nodup.sublist (List.filter_sublist.map _) m2.born
    have hIR : IR γ.cx (left.eraseIdx i) (some left[i]) en clk since (seen.push l[i].born) clk := by
      refine ⟨g4.old, g4.sk, g4.sk, ⟨l.eraseIdx i, ?_, ?_⟩, l[i], hmem, seen, rfl, rfl, (l2.2 i hil hi).1, (l2.2 i hil hi).2⟩
      · have e1 : l.eraseIdx i = l.filter fun x => !(x.born == l[i].born) := erase_filter l i hi hnl
        have e2 : (en.toList.filter fun x => !(seen.push l[i].born).contains x.born) = (en.toList.filter fun x => !seen.contains x.born).filter fun x => !(x.born == l[i].born) := by
          rw [List.filter_filter]
          refine List.filter_congr fun x _ => ?_
          rw [Array.contains_push]
          cases seen.contains x.born <;> cases hh : (x.born == l[i].born) <;> simp_all
        rw [e1, e2]
        exact l1.filter _
      · refine ⟨by simp [List.length_eraseIdx, l2.1, hi, hil], fun j hj hj' => ?_⟩
        simp only [List.getElem_eraseIdx]
        split
        · rename_i hji
          exact l2.2 j (by omega) (by omega)
        · have h1 : j + 1 < left.length := by rw [List.length_eraseIdx, if_pos hil] at hj; omega
          exact l2.2 (j + 1) h1 (by rw [l2.1]; exact h1)
    have hb1 : ({ γ with w := w1 } : Ghost).S.H[b]? = some (.iter mb left cur) := hb
    have hm : Mset ({ γ with w := w1 } : Ghost).S.H b (.iter mb (left.eraseIdx i) (some left[i])) (γ.S.H.set b (.iter mb (left.eraseIdx i) (some left[i]))) := .put hb
    have hx2 := ext_mset (γ := { γ with w := w1 }) (o := .mapIter (some (γ.ι.h mb)) since (seen.push l[i].born) clk) hr1 hb1 rfl rfl hm
    have hr2 := rl_mset (γ := { γ with w := w1 }) (o := .mapIter (some (γ.ι.h mb)) since (seen.push l[i].born) clk) hr1 hb1 rfl rfl hm ⟨_, _, _, _, rfl⟩
      (fun mb' l' c' he => by
        cases he
        exact ⟨hmb, es, en, clk, since, _, clk, g1, rfl, by show w1.heap[_]? = _; rw [hheap]; exact g3, hIR.mono he1.le⟩)
      (fun x l' c c' hxb hx _ => by
        obtain ⟨es', en', clk', since', seen', c0', k1, _⟩ := hr.its x b l' c hx
        rw [hb] at k1; cases k1)
    refine ⟨i, hil, ({ γ with w := w1 } : Ghost).mset b (γ.S.H.set b (.iter mb (left.eraseIdx i) (some left[i]))) (.mapIter (some (γ.ι.h mb)) since (seen.push l[i].born) clk), l[i].key, l[i].val, ?_, he1.trans hx2, hr2, rfl, ((l2.2 i hil hi).1.ext he1).ext hx2, ((l2.2 i hil hi).2.ext he1).ext hx2⟩
    rw [hrun]
    rfl
where
  erase_filter (l : List MapEntry) (i : Nat) (hi : i < l.length) (hn : (l.map (·.born)).Nodup) : l.eraseIdx i = l.filter fun x => !(x.born == l[i].born) := by
    induction l generalizing i with
    | nil => simp at hi
    | cons a l ih =>
      simp only [List.map_cons, List.nodup_cons] at hn
      cases i with
      | zero =>
        simp only [List.eraseIdx_cons_zero, List.getElem_cons_zero, List.filter_cons, beq_self_eq_true, Bool.not_true, Bool.false_eq_true, if_false]
        refine (List.filter_eq_self.2 fun x hx => ?_).symm
        have : x.born ≠ a.born := fun he => hn.1 (he ▸ List.mem_map.2 ⟨x, hx, rfl⟩)
        simp [this]
      | succ i =>
        have hi' : i < l.length := by simpa using hi
        have hne : a.born ≠ l[i].born := fun he => hn.1 (he ▸ List.mem_map.2 ⟨l[i], List.getElem_mem hi', rfl⟩)
        have hb : (!(a.born == l[i].born)) = true := by simp [hne]
        simp only [List.eraseIdx_cons_succ, List.getElem_cons_succ, List.filter_cons, hb, if_true]
        rw [ih i hi' hn.2]

/-- Deleting a key. -/
def dcur1 (b : Nat) : ABlk → ABlk
  | .iter mb l c => if mb = b then .iter mb l none else .iter mb l c
  | x => x
def delOK1 (P : Program) (kt : TypeId) (b : Nat) (k : AVal) : ABlk → Bool
  | .iter mb l _ => mb != b || l.all fun e => aeq P 20 kt k e.1 == some false
  | _ => true
def adelete (P : Program) (t : TypeId) (m : AMem) (x k : AVal) : Option (AVal × AMem) :=
  match tiOf P t with
  | some I => (match I.k with
    | .map kt _ => (match x with
      | .map b => (match m.H[b]? with
        | some (.amap es) => if akey P 20 kt k = true ∧ m.H.all (delOK1 P kt b k) = true then (match afind P kt k es 0 with
          | some (some j) => some (.undef, { m with H := (m.H.map (dcur1 b)).set b (.amap (es.eraseIdx j)) })
          | some none => some (.undef, m)
          | none => none) else none
        | _ => none)
      | _ => none)
    | _ => none)
  | none => none

theorem Mset.del {H : List ABlk} {b : Nat} {y0 y : ABlk} (hb : H[b]? = some y0) : Mset H b y ((H.map (dcur1 b)).set b y) :=
  ⟨by simp, by rw [List.getElem?_set_self (by simpa using (List.getElem?_eq_some_iff.1 hb).1)], fun x hx => by
    rw [List.getElem?_set_ne (Ne.symm hx), List.getElem?_map]
    cases hh : H[x]? with
    | none => exact .inl rfl
    | some z =>
      cases z with
      | iter mb l c =>
        by_cases he : mb = b
        · subst he; exact .inr ⟨l, c, rfl, by simp [dcur1]⟩
        · exact .inl (by simp [dcur1, he])
      | _ => exact .inl (by simp [dcur1])⟩

theorem adelete_sound {P : Program} {γ : Ghost} (hr : Rl γ) {t t2 ty : TypeId} {x k v : AVal} {m' : AMem} {xu ku : Value} (h : adelete P t γ.S x k = some (v, m')) (hx : VR γ.cx x xu) (hk : VR γ.cx k ku) :
    ∃ v' γ', (Builtin.delete_ #[t, t2] ty #[xu, ku]).run P γ.w = .ok v' γ'.w ∧ Ext γ γ' ∧ Rl γ' ∧ γ'.S = m' ∧ VR γ'.cx v v' := by
  unfold adelete at h
  cases hI : tiOf P t with
  | none => simp [hI] at h
  | some I =>
    simp only [hI] at h
    obtain ⟨i, ds, hi⟩ := tiOf_spec hI
    have hkk := hi.k
    cases hq : I.k <;> simp only [hq, reduceCtorEq] at h
    rename_i kt et
    rw [hq] at hkk
    have := tk_map hkk; subst this
    cases x <;> simp only [reduceCtorEq] at h
    rename_i b
    cases hb : γ.S.H[b]? with
    | none => simp [hb] at h
    | some y =>
      cases y with
      | cells e cs => simp [hb] at h
      | iter _ _ _ => simp [hb] at h
      | loop _ _ _ _ _ _ _ => simp [hb] at h
      | amap es =>
        simp only [hb] at h
        split at h
        case isFalse => cases h
        rename_i hak
        obtain ⟨hak, hdel⟩ := hak
        obtain ⟨en, clk, h1, h2⟩ := hr.maps b es hb
        obtain ⟨l, hp, hal⟩ := h2.perm
        cases hx with
        | map _ g c hblk =>
          obtain ⟨y, hy, _, hy2⟩ := hblk
          rw [hb] at hy
          cases hy
          obtain ⟨hg, _⟩ := hy2 rfl
          subst hg
          obtain ⟨d, hd⟩ : ∃ d, P.underlying kt = some d := by
            unfold akey at hak
            cases hK : tiOf P kt with
            | none => simp [hK] at hak
            | some K => obtain ⟨_, d, hd⟩ := tiOf_spec hK; exact ⟨d, hd.under⟩
          have hc := akey_sound (κ := γ.cx) γ.w 20 kt k ku hak hk en.isEmpty 10000 (by omega)
          have hgo : (getObj (γ.ι.h b)).run P γ.w = .ok (.map en clk) γ.w := by simp [getObj, Sem.run, h1]
          have hso : ∀ o : Obj, (setObj (γ.ι.h b) o).run P γ.w = .ok () { γ.w with heap := γ.w.heap.setIfInBounds (γ.ι.h b) o } := fun o => by simp [setObj, Sem.run, h1]
          have hdef : ∀ u : Value, Builtin.delete_ #[t, t2] ty #[.map (some (γ.ι.h b)), u] = (do
              let .map keyType _ ← underlying t | stuck "delete: map type expected"
              let .map es clock ← getObj (γ.ι.h b) | stuck "delete: map expected"
              Instr.checkKey es.isEmpty 10000 keyType u
              match ← Instr.findKey keyType u es.toList with
              | some (i, _) => setObj (γ.ι.h b) (.map (es.eraseIdxIfInBounds i) clock)
              | none => setObj (γ.ι.h b) (.map es clock)
              pure (.tuple #[])) := fun u => rfl
          cases hfd : afind P kt k es 0 with
          | none => simp [hfd] at h
          | some r =>
            obtain ⟨hf, hf1, hf0⟩ := find_sound (κ := γ.cx) γ.w hd hk hfd hp h2.born hal
            simp only [hfd] at h
            cases r with
            | none =>
              simp only [Option.some.injEq, Prod.mk.injEq] at h
              obtain ⟨rfl, rfl⟩ := h
              have hf0 := hf0 rfl
              rw [hf0] at hf
              have hm : Mset γ.S.H b (.amap es) γ.S.H := ⟨rfl, hb, fun x _ => .inl rfl⟩
              refine ⟨.tuple #[], γ.mset b γ.S.H (.map en clk), ?_, ext_mset hr hb rfl rfl hm, rl_mset hr hb rfl rfl hm ⟨_, _, rfl, h2⟩ (fun _ _ _ h => by cases h) (fun x l c c' _ hx hx' => ?_), rfl, .undef⟩
              · rw [hdef]
                simp only [Sem.run_bind, hi.run_under γ.w, Result.andThen_ok, hgo, hc, hf, hso]
                rfl
              · rw [hx] at hx'
                cases hx'
                exact ⟨es, en, clk, rfl, rfl, fun en0 clk0 since seen c0 hh hI => by rw [h1] at hh; cases hh; exact hI⟩
            | some j =>
              obtain ⟨_, hjl⟩ := afind_ge es 0 j hfd
              have hj : j < es.length := by omega
              simp only [Option.some.injEq, Prod.mk.injEq] at h
              obtain ⟨rfl, rfl⟩ := h
              obtain ⟨hjl', q, k1, k2⟩ := hf1 j rfl
              rw [k1] at hf
              have hnl : (l.map (·.born)).Nodup := (hp.map _).nodup_iff.2 h2.born
              have hq : q < en.toList.length := (List.getElem?_eq_some_iff.1 k2).1
              have eq : en.toList[q] = l[j] := (List.getElem?_eq_some_iff.1 k2).2
              have hqs : q < en.size := by simpa using hq
              have ee : (en.eraseIdxIfInBounds q).toList = en.toList.filter fun x => !(x.born == l[j].born) := by
                rw [Array.eraseIdxIfInBounds_eq, dif_pos hqs, Array.toList_eraseIdx, ← eq]
                exact next_sound.erase_filter _ _ hq h2.born
              have el : l.eraseIdx j = l.filter fun x => !(x.born == l[j].born) := next_sound.erase_filter _ _ hjl' hnl
              have hMR : MR γ.cx (es.eraseIdx j) (en.eraseIdxIfInBounds q) clk := by
                refine ⟨?_, fun x hx => ?_, l.eraseIdx j, ?_, ?_⟩
                · rw [ee]; exact List.Nodup.sublist (List.filter_sublist.map _) h2.born
                · rw [ee] at hx; exact h2.lt x (List.mem_filter.1 hx).1
                · rw [ee, el]; exact hp.filter _
                · refine ⟨by simp [List.length_eraseIdx, hal.1, hj, hjl'], fun i hi hi' => ?_⟩
                  simp only [List.getElem_eraseIdx]
                  split
                  · exact hal.2 i (by omega) (by omega)
                  · have h1 : i + 1 < es.length := by rw [List.length_eraseIdx, if_pos hj] at hi; omega
                    exact hal.2 (i + 1) h1 (by rw [hal.1]; exact h1)
              have hm : Mset γ.S.H b (.amap (es.eraseIdx j)) ((γ.S.H.map (dcur1 b)).set b (.amap (es.eraseIdx j))) := .del hb
              refine ⟨.tuple #[], γ.mset b ((γ.S.H.map (dcur1 b)).set b (.amap (es.eraseIdx j))) (.map (en.eraseIdxIfInBounds q) clk), ?_, ext_mset hr hb rfl rfl hm, rl_mset hr hb rfl rfl hm ⟨_, _, rfl, hMR⟩ (fun _ _ _ h => by cases h) (fun x l' c c' hxb hx hx' => ?_), rfl, .undef⟩
              · rw [hdef]
                simp only [Sem.run_bind, hi.run_under γ.w, Result.andThen_ok, hgo, hc, hf, hso]
                rfl
              · have hc' : c' = none := by
                  rw [List.getElem?_set_ne (Ne.symm hxb), List.getElem?_map, hx] at hx'
                  simp [dcur1] at hx'
                  exact hx'.symm
                subst hc'
                refine ⟨_, _, _, rfl, rfl, fun en0 clk0 since seen c0 hh hI => ?_⟩
                rw [h1] at hh
                cases hh
                have hall := List.all_eq_true.1 hdel _ (List.mem_of_getElem? hx)
                simp only [delOK1, bne_self_eq_false, Bool.false_or, List.all_eq_true, beq_iff_eq] at hall
                obtain ⟨l2, p1, p2⟩ := hI.left
                have hkey : (Op.equal kt ku l[j].key).run P γ.w = .ok true γ.w := by
                  obtain ⟨bb, q1, q2⟩ := afind_dec es 0 (some j) hfd j hj
                  have : bb = true := q2.2 (by simp)
                  subst this
                  exact aeq_sound (κ := γ.cx) γ.w 20 kt k es[j].1 true ku _ q1 hk (hal.2 j hj hjl').1 10000 (by omega)
                have hnot : ∀ y ∈ l2, y ≠ l[j] := by
                  intro y hy he
                  obtain ⟨i, hi2, rfl⟩ := List.mem_iff_getElem.1 hy
                  have hil : i < l'.length := by rw [← p2.1]; exact hi2
                  have := aeq_sound (κ := γ.cx) γ.w 20 kt k l'[i].1 false ku _ (hall _ (List.getElem_mem hil)) hk (p2.2 i hil hi2).1 10000 (by omega)
                  rw [he] at this
                  have hkey' : (Op.equalIn 10000 kt ku l[j].key).run P γ.w = .ok true γ.w := hkey
                  rw [hkey'] at this
                  cases this
                refine ⟨fun y hy => ?_, hI.sc, hI.sk, ⟨l2, ?_, p2⟩, trivial⟩
                · rw [ee] at hy; exact hI.old y (List.mem_filter.1 hy).1
                · rw [ee, List.filter_filter]
                  have e3 : (en.toList.filter fun a => (!seen.contains a.born && !(a.born == l[j].born))) = en.toList.filter fun x => !seen.contains x.born := by
                    refine List.filter_congr fun z hz => ?_
                    cases hs : seen.contains z.born
                    · have hz2 : z ∈ l2 := p1.mem_iff.2 (List.mem_filter.2 ⟨hz, by rw [hs]; rfl⟩)
                      have hzl : z.born ≠ l[j].born := fun he => by
                        obtain ⟨i, hi2, hie⟩ := List.mem_iff_getElem.1 (hp.mem_iff.2 hz)
                        have : i = j := born_eq hnl hi2 hjl' (by rw [hie]; exact he)
                        subst this
                        exact hnot z hz2 hie.symm
                      simp [hzl]
                    · rfl
                  rw [e3]
                  exact p1

/-- What is taken out of an interface. -/
def tas (z : Option AVal) (x : AVal) (t : TypeId) (ok : Bool) : Option AVal :=
  match x with
  | .ifc t' v => if t' = t then some (if ok then .tup v [.bool true] else v) else if ok then z.map (fun z => .tup z [.bool false]) else none
  | .nili => if ok then z.map (fun z => .tup z [.bool false]) else none
  | _ => none
def atassert (P : Program) (x : AVal) (t : TypeId) (ok : Bool) : Option AVal :=
  match tiOf P t with
  | some I => (match I.k with
    | .iface => none
    | .other => none
    | _ => tas I.zero x t ok)
  | none => none
theorem atassert_sound {P : Program} {γ : Ghost} {x v : AVal} {xt t : TypeId} {ok : Bool} {xu : Value} (h : atassert P x t ok = some v) (hx : VR γ.cx x xu) : ∃ v', (Instr.typeAssert xu xt t ok).run P γ.w = .ok v' γ.w ∧ VR γ.cx v v' := by
  unfold atassert at h
  cases hI : tiOf P t with
  | none => simp [hI] at h
  | some I =>
    simp only [hI] at h
    obtain ⟨i, d, hi⟩ := tiOf_spec hI
    have hk := hi.k
    have hni : ∀ ms, d ≠ .interface ms := fun ms he => by subst he; rw [hk] at h; simp [tkOf] at h
    have zero : ∀ z, I.zero = some z → ∃ zv, (zeroValue t).run P γ.w = .ok zv γ.w ∧ VR γ.cx z zv := fun z hz => by
      obtain ⟨zv, hrz, hiz, rfl⟩ := hi.run_zero γ.w hz
      exact ⟨zv, hrz, VR.ofVal γ.cx zv⟩
    have h' : tas I.zero x t ok = some v := by
      clear hk hni zero
      revert h
      cases I.k <;> intro h <;> first | (cases h; done) | exact h
    cases x <;> simp only [tas, reduceCtorEq] at h'
    case ifc t' a =>
      cases hx with
      | ifc _ _ u hu =>
        by_cases he : t' = t
        · subst he
          simp only [if_true, Option.some.injEq] at h'
          cases ok with
          | false =>
            simp only [Bool.false_eq_true, if_false] at h'
            subst h'
            refine ⟨u, ?_, hu⟩
            cases d <;> first | exact absurd rfl (hni _) | simp [Instr.typeAssert, hi.run_under γ.w]
          | true =>
            simp only [if_true] at h'
            subst h'
            refine ⟨.tuple #[u, .bool true], ?_, vr_pair hu (.bool true)⟩
            cases d <;> first | exact absurd rfl (hni _) | simp [Instr.typeAssert, hi.run_under γ.w]
        · rw [if_neg he] at h'
          cases ok with
          | false => simp at h'
          | true =>
            simp only [if_true] at h'
            obtain ⟨z, hz, rfl⟩ := Option.map_eq_some_iff.1 h'
            obtain ⟨zv, r1, r2⟩ := zero z hz
            refine ⟨.tuple #[zv, .bool false], ?_, vr_pair r2 (.bool false)⟩
            cases d <;> first | exact absurd rfl (hni _) | simp [Instr.typeAssert, hi.run_under γ.w, he, r1]
    case nili =>
      cases hx
      cases ok with
      | false => simp at h'
      | true =>
        simp only [if_true] at h'
        obtain ⟨z, hz, rfl⟩ := Option.map_eq_some_iff.1 h'
        obtain ⟨zv, r1, r2⟩ := zero z hz
        refine ⟨.tuple #[zv, .bool false], ?_, vr_pair r2 (.bool false)⟩
        cases d <;> first | exact absurd rfl (hni _) | simp [Instr.typeAssert, hi.run_under γ.w, r1]
end Go.Hk
/- Bytes that are frozen under a string. -/
namespace Go.Hk

section
variable {γ : Ghost} {g n : Nat} {arr : Array Value} {ty : TypeId} {fz : Nat × Nat}

theorem heap_fz (hg : γ.w.heap[g]? = some (.cells arr ty fz)) (hn : n ≠ 0) : ∃ fz', (γ.w.freeze ⟨g, 0, none⟩ n).heap[g]? = some (.cells arr ty fz') ∧ fz'.2 ≤ max fz.2 n := by
  obtain ⟨lo, hi⟩ := fz
  refine ⟨if lo == hi then (0, 0 + n) else (min lo 0, max hi (0 + n)), ?_, ?_⟩
  · simp [World.freeze, hn, Array.getElem?_modify, hg]
  · by_cases h : (lo == hi) = true
    · rw [if_pos h]; simp only; omega
    · rw [if_neg h]; simp only; omega
theorem heap_fz_other {k : Nat} (hk : k ≠ g) : (γ.w.freeze ⟨g, 0, none⟩ n).heap[k]? = γ.w.heap[k]? := by
  unfold World.freeze
  split
  · rfl
  · simp [Array.getElem?_modify, Ne.symm hk]
theorem size_fz : (γ.w.freeze ⟨g, 0, none⟩ n).heap.size = γ.w.heap.size := by
  unfold World.freeze
  split <;> simp
theorem cell_fz (hg : γ.w.heap[g]? = some (.cells arr ty fz)) (hn : n ≠ 0) (q o : Nat) : (γ.w.freeze ⟨g, 0, none⟩ n).cell? ⟨q, o, none⟩ = γ.w.cell? ⟨q, o, none⟩ := by
  by_cases hq : q = g
  · subst hq
    obtain ⟨fz', h1, _⟩ := heap_fz hg hn
    simp only [World.cell?, h1, hg]
  · exact World.cell?_of_block (w := γ.w) (heap_fz_other hq)
theorem own_fz (hg : γ.w.heap[g]? = some (.cells arr ty fz)) (hn : n ≠ 0) {q : Nat} {t : TypeId} {m : Nat} (ho : γ.own q t m) : ({ γ with w := γ.w.freeze ⟨g, 0, none⟩ n } : Ghost).own q t m :=
  own_of (γ := γ) (γ' := { γ with w := γ.w.freeze ⟨g, 0, none⟩ n }) rfl (fun q a t f h => by
    by_cases hq : q = g
    · subst hq
      obtain ⟨fz', h1, _⟩ := heap_fz hg hn
      rw [hg] at h
      cases h
      exact ⟨arr, fz', h1, Nat.le_refl _⟩
    · exact ⟨a, f, (heap_fz_other hq).trans h, Nat.le_refl _⟩) ho
theorem ext_fz (hg : γ.w.heap[g]? = some (.cells arr ty fz)) (hn : n ≠ 0) (hl : γ.lo ≤ g) : Ext γ { γ with w := γ.w.freeze ⟨g, 0, none⟩ n } where
  bad := rfl
  lo := rfl
  size := Nat.le_of_eq (size_fz (γ := γ)).symm
  os := by simp only [World.freeze]; split <;> rfl
  tape := by simp only [World.freeze]; split <;> rfl
  output := by simp only [World.freeze]; split <;> rfl
  cell := fun q o v h => ⟨by rw [show ({ γ with w := γ.w.freeze ⟨g, 0, none⟩ n } : Ghost).w.cell? ⟨q, o, none⟩ = γ.w.cell? ⟨q, o, none⟩ from cell_fz hg hn q o]; exact h.1, h.2⟩
  blk := fun _ _ _ _ h => h
  tip := fun _ _ _ _ h => tip_of (γ := γ) (γ' := { γ with w := γ.w.freeze ⟨g, 0, none⟩ n }) rfl rfl rfl (fun _ _ => own_fz hg hn) h
  own := fun _ _ _ => own_fz hg hn
  frame := fun k _ _ => by
    by_cases hk : k = g
    · subst hk
      obtain ⟨fz', h1, _⟩ := heap_fz hg hn
      exact .inr ⟨hl, arr, ty, fz, fz', hg, h1⟩
    · exact .inl (heap_fz_other hk)
  owns := fun _ h => .inl h
theorem rl_fz (hr : Rl γ) (hg : γ.w.heap[g]? = some (.cells arr ty fz)) (hn : n ≠ 0) (hl : γ.lo ≤ g) (hc : ∃ v, γ.cell g (n - 1) v) : Rl { γ with w := γ.w.freeze ⟨g, 0, none⟩ n } where
  lo := by show γ.lo ≤ (γ.w.freeze ⟨g, 0, none⟩ n).heap.size; rw [size_fz]; exact hr.lo
  bad := hr.bad
  objs := fun b x hb => by
    obtain ⟨v, hv⟩ := hc
    have hlt : b < γ.S.H.length := (List.getElem?_eq_some_iff.1 hb).1
    obtain ⟨o, h1, h2⟩ := hr.objs b x hb
    exact ⟨o, (heap_fz_other fun he => hv.2.2.2.1 b ⟨hlt, he⟩).trans h1, h2.mono (ext_fz hg hn hl).le⟩
  its := fun b mb left cur hb => by
    obtain ⟨v, hv⟩ := hc
    obtain ⟨es, en, clk, since, seen, c0, g1, g2, g3, g4⟩ := hr.its b mb left cur hb
    have hlt : b < γ.S.H.length := (List.getElem?_eq_some_iff.1 hb).1
    have hlm : mb < γ.S.H.length := (List.getElem?_eq_some_iff.1 g1).1
    exact ⟨es, en, clk, since, seen, c0, g1, (heap_fz_other fun he => hv.2.2.2.1 b ⟨hlt, he⟩).trans g2, (heap_fz_other fun he => hv.2.2.2.1 mb ⟨hlm, he⟩).trans g3, g4.mono (ext_fz hg hn hl).le⟩
  toks := fun t q ht => by
    obtain ⟨v, hv⟩ := hc
    obtain ⟨a, lo, hi, tp, sz, h1, h2, h3, h4⟩ := hr.toks t q ht
    by_cases hq : q = g
    · subst hq
      obtain ⟨fz', k1, k2⟩ := heap_fz hg hn
      rw [hg] at h1
      cases h1
      obtain ⟨tp2, sz2, e1, e2⟩ := hv.2.2.2.2 t ht
      rw [h2] at e1
      cases e1
      exact ⟨arr, fz'.1, fz'.2, tp, sz, k1, h2, h3, by simp only at k2; omega⟩
    · exact ⟨a, lo, hi, tp, sz, (heap_fz_other hq).trans h1, h2, h3, h4⟩
  own := fun q h => by
    have := hr.own q h
    exact ⟨this.1, by show q < (γ.w.freeze ⟨g, 0, none⟩ n).heap.size; rw [size_fz]; exact this.2⟩
  hh := hr.hh
  ht := hr.ht
  tt := hr.tt
end

/-- What unsafe.SliceData gives. -/
def adata (m : AMem) (x : AVal) : Option AVal :=
  match x with
  | .sl .nil _ _ => some (.dpt 0 [])
  | .sl (.tok t) n cs => if 0 < n ∧ 0 < cs.length then (match m.T[t]? with | some (_, (_, e)) => some (.dpt e cs) | none => none) else none
  | _ => none
/-- A type of pointers to this one, of one cell. -/
def ptTo (P : Program) (pt e : TypeId) : Bool :=
  decide (P.cellsOf e = 1) && match P.underlying pt with
  | some (.pointer e') => decide (e' = e)
  | _ => false
theorem ptTo_spec {P : Program} {pt e : TypeId} (h : ptTo P pt e = true) : P.cellsOf e = 1 ∧ P.underlying pt = some (.pointer e) := by
  unfold ptTo at h
  simp only [Bool.and_eq_true, decide_eq_true_eq] at h
  refine ⟨h.1, ?_⟩
  have h2 := h.2
  split at h2
  · rename_i e' he
    simp only [decide_eq_true_eq] at h2
    rw [he, h2]
  · cases h2
/-- What unsafe.String gives. -/
def austr (P : Program) (pt : TypeId) (x n : AVal) : Option AVal :=
  match n with
  | .int .i64 n => if n = 0 then (match x with | .dpt _ _ => some (.str []) | _ => none) else (match x with
    | .dpt e cs => if n = cs.length ∧ n ≤ 9223372036854775807 ∧ ptTo P pt e = true then (match bytesOf cs with | some bs => some (.str bs) | none => none) else none
    | _ => none)
  | _ => none

theorem adata_sound {P : Program} {γ : Ghost} {x v : AVal} {u : Value} {ts : Array TypeId} {ty : TypeId} (h : adata γ.S x = some v) (hx : VR γ.cx x u) : ∃ v', (Builtin.unsafeSliceData_ ts ty #[u]).run P γ.w = .ok v' γ.w ∧ VR γ.cx v v' := by
  unfold adata at h
  split at h
  · cases h
    cases hx with
    | slnil => exact ⟨_, Lib.run_unsafeSliceData_nil γ.w ts ty 0 0, .dpz _ _⟩
    | sl _ _ _ g k cap f hn hc hv hr => exact absurd hr.1 (by simp)
  · rename_i t n cs
    split at h
    case isFalse => cases h
    rename_i hn0
    split at h
    · rename_i tp sz e hT
      cases h
      cases hx with
      | slnil => omega
      | sl _ _ _ g k cap f hn hc hv hr =>
        obtain ⟨⟨tp', sz', h1, h2, h3, h4⟩, h5⟩ := hr
        rw [hT] at h1
        cases h1
        have hk : k = 0 := by rcases h5 with h | h <;> omega
        subst hk
        refine ⟨_, Lib.run_unsafeSliceData_row γ.w ts ty _ _ _ (by omega), ?_⟩
        exact .dpt _ _ g f (fun j hj => by simpa using hc j hj) hv (h4 hn0.2 g rfl)
    · cases h
  · cases h

theorem austr_sound {P : Program} {γ : Ghost} (hr : Rl γ) {pt it ty : TypeId} {x n v : AVal} {u k : Value} (h : austr P pt x n = some v) (hx : VR γ.cx x u) (hn : VR γ.cx n k) :
    ∃ v' γ', (Builtin.unsafeString_ #[pt, it] ty #[u, k]).run P γ.w = .ok v' γ'.w ∧ Ext γ γ' ∧ Rl γ' ∧ γ'.S = γ.S ∧ VR γ'.cx v v' := by
  unfold austr at h
  split at h
  case h_2 => cases h
  rename_i n
  cases hn
  split at h
  · rename_i h0
    subst h0
    split at h
    · cases h
      cases hx with
      | dpz => exact ⟨_, γ, Lib.run_unsafeString_none γ.w pt it ty _, Ext.refl γ, hr, rfl, .str []⟩
      | dpt => exact ⟨_, γ, Lib.run_unsafeString_none γ.w pt it ty _, Ext.refl γ, hr, rfl, .str []⟩
    · cases h
  · rename_i h0
    split at h
    case h_2 => cases h
    rename_i e cs
    split at h
    case isFalse => cases h
    rename_i hc
    obtain ⟨hn, h63, hpt⟩ := hc
    obtain ⟨hc1, hpt⟩ := ptTo_spec hpt
    subst hn
    split at h
    case h_2 => cases h
    rename_i bs hbs
    cases h
    have hcs := bytesOf_spec _ _ hbs
    have hlen : cs.length = bs.length := by rw [hcs]; simp
    cases hx with
    | dpz => simp at h0
    | dpt _ _ g f hcell hv ho =>
      obtain ⟨hlo, arr, fz, hg, _⟩ := ho
      have hpos : cs.length ≠ 0 := by omega
      have harr : ∀ j, j < cs.length → j < arr.size := by
        intro j hj
        have h1 := (hcell j hj).1
        simp only [World.cell?, hg] at h1
        rcases Nat.lt_or_ge j arr.size with h | h
        · exact h
        · simp [Array.getElem?_eq_none h] at h1
      have hle : bs.length ≤ arr.size := by
        have := harr (cs.length - 1) (by omega)
        omega
      have hrun := Lib.run_unsafeString_row (P := P) γ.w pt it ty e hpt hc1 g arr.size (by simp [World.shape?, hg]) bs (by intro hb; rw [hb] at hlen; exact hpos hlen) hle (by omega) (fun j x hjx => by
        have hj : j < bs.length := (List.getElem?_eq_some_iff.1 hjx).1
        have hj' : j < cs.length := by omega
        have h1 := (hcell j hj').1
        have h2 := hv j hj'
        have h3 : cs[j] = .int .u8 x.toNat := by
          have : cs[j]? = some (.int .u8 x.toNat) := by rw [hcs]; simp [hjx]
          rw [List.getElem?_eq_getElem hj'] at this
          exact Option.some.inj this
        rw [h3] at h2
        rw [Addr.add_lit, Nat.zero_add, h1]
        cases hf : f j <;> rw [hf] at h2 <;> cases h2
        rfl)
      rw [← hlen] at hrun
      exact ⟨_, { γ with w := γ.w.freeze ⟨g, 0, none⟩ cs.length }, hrun, ext_fz hg hpos hlo, rl_fz hr hg hpos hlo ⟨_, hcell (cs.length - 1) (by omega)⟩, rfl, .str bs⟩
end Go.Hk
/- One operation of the walk, and that the machine does the same. -/
namespace Go.Hk

def alen (P : Program) (t : TypeId) (m : AMem) (x : AVal) : Option AVal :=
  match tiOf P t with
  | some I => (match I.k with
    | .str => (match x with | .str s => some (.int .i64 s.length) | _ => none)
    | .slice _ => (match x with | .sl _ n _ => some (.int .i64 n) | .msl _ _ _ n _ => some (.int .i64 n) | _ => none)
    | .arr n _ => some (.int .i64 n)
    | .map _ _ => (match x with | .nilm => some (.int .i64 0) | .map b => (match m.H[b]? with | some (.amap es) => some (.int .i64 es.length) | _ => none) | _ => none)
    | _ => none)
  | none => none

def acap (P : Program) (t : TypeId) (x : AVal) : Option AVal :=
  match tiOf P t with
  | some I => (match I.k with
    | .slice _ => (match x with | .sl .nil _ _ => some (.int .i64 0) | .sl .full n _ => some (.int .i64 n) | _ => none)
    | _ => none)
  | none => none

/-- copy: onto a row that may be written, from one that is no longer; or onto none. -/
def acopy (P : Program) (m : AMem) (t : TypeId) (x y : AVal) : Option (AVal × AMem) :=
  match tiOf P t with
  | some I => (match I.k with
    | .slice e => (match tiOf P e with
      | some E => (match alist m y with
        | some (k, ds) => (match x with
          | .sl _ n _ => if n = 0 then some (.int .i64 0, m) else none
          | .msl b ep o n _ => (match m.H[b]? with
            | some (.cells e' cs) => if ep = e' ∧ k ≤ n ∧ ds.length = k * E.size ∧ o + ds.length ≤ cs.length then some (.int .i64 k, { m with H := m.H.set b (.cells ep (setMany cs o ds)) }) else none
            | _ => none)
          | _ => none)
        | none => none)
      | none => none)
    | _ => none)
  | none => none

def imax (x y : Int) : Int := if y > x then y else x
def imin (x y : Int) : Int := if y < x then y else x

def abuiltin (P : Program) (mu : Bool) (m : AMem) (b : Builtin) (ts : List TypeId) (xs : List AVal) : Option (AVal × AMem) :=
  match b with
  | .len => (match ts, xs with | [t], [x] => (alen P t m x).map (·, m) | _, _ => none)
  | .max => (match xs with | [.int k x, .int _ y] => some (.int k (imax x y), m) | _ => none)
  | .min => (match xs with | [.int k x, .int _ y] => some (.int k (imin x y), m) | _ => none)
  | .append => (match ts, xs with | [t, t2], [s, x] => if mu then amapp P t t2 m s x else aappend P t t2 m s x | _, _ => none)
  | .cap => (match ts, xs with | [t], [x] => (acap P t x).map (·, m) | _, _ => none)
  | .copy => (match ts, xs with | [t, _], [x, y] => acopy P m t x y | _, _ => none)
  | .delete => (match ts, xs with | [t, _], [x, y] => adelete P t m x y | _, _ => none)
  | .unsafeSliceData => (match xs with | [x] => (adata m x).map (·, m) | _ => none)
  | .unsafeString => (match ts, xs with | [t, _], [x, n] => (austr P t x n).map (·, m) | _, _ => none)
  | _ => none

/-- The epoch that a row of elements of this size begins at. -/
def epo (n : Nat) : Nat := if n < 64 then n else 0
theorem epo_ok (n : Nat) : epo n % 64 = 0 ∨ epo n % 64 = n := by unfold epo; split <;> omega

def zeroRow (zs : List AVal) (n : Nat) : List AVal := (List.range n).map fun j => zs.getD (j % zs.length) .dead

def abuildSlice (P : Program) (mu : Bool) (m : AMem) (t : TypeId) (len : Nat) (parts : List (Nat × AVal)) : Option (AVal × AMem) :=
  match tiOf P t with
  | some I => (match I.k with
    | .slice e => (match tiOf P e with
      | some E => (match E.zero.bind cellsOf with
        | some zs =>
          if 0 < E.size ∧ zs.length = E.size ∧ len * E.size ≤ 16777216 then
            (match afill (fun i => some (i * E.size, E.size)) (zeroRow zs (len * E.size)) parts with
            | some cs => if mu && decide (1 < len) then some (.msl m.H.length (epo E.size) 0 len (len * E.size), { m with H := m.H ++ [.cells (epo E.size) cs] }) else some (.sl .full len cs, m)
            | none => none)
          else none
        | none => none)
      | none => none)
    | _ => none)
  | none => none

def amakeSlice (P : Program) (mu : Bool) (m : AMem) (t : TypeId) (l c : AVal) : Option (AVal × AMem) :=
  match l with
  | .int _ l => (match c with
   | .int _ c => (match tiOf P t with
    | some I => (match I.k with
      | .slice e => (match tiOf P e with
        | some E => (match E.zero.bind cellsOf with
          | some [z] =>
            if E.size = 1 ∧ 0 ≤ l ∧ l ≤ c ∧ c ≤ 4611686018427387903 ∧ E.bytes * c ≤ 281474976710656 then
              (if mu then some (.msl m.H.length 1 0 l.toNat l.toNat, { m with H := m.H ++ [.cells 1 (List.replicate l.toNat z)] })
              else some (.sl (if l = c then .full else .no) l.toNat (List.replicate l.toNat z), m))
            else none
          | _ => none)
        | none => none)
      | _ => none)
    | none => none)
   | _ => none)
  | _ => none

/-- The cells of a fresh strings.Builder, or of what is laid out like one. -/
def isB : List AVal → Bool
  | [.nilp, .sl .nil 0 []] => true
  | _ => false
/-- A new variable. -/
def anew (m : AMem) (e : TypeId) (zs : List AVal) : AVal × AMem :=
  (if isB zs = true then .tpt e m.H.length zs.length else .ptr m.H.length 0 0, { m with H := m.H ++ [.cells 0 zs] })

def apush (m : AMem) (cs : List AVal) : AVal × AMem := (.ptr m.H.length 0 0, { m with H := m.H ++ [.cells 0 cs] })

def astore (P : Program) (m : AMem) (t : TypeId) (x v : AVal) : Option (AVal × AMem) :=
  match x with
  | .ptr b e o => (match m.H[b]? with
    | some (.cells e' cs) => (match cellsOf v, tiOf P t with
      | some vs, some I => if e = e' ∧ vs.length = I.size ∧ o + vs.length ≤ cs.length then some (.undef, { m with H := m.H.set b (.cells e (setMany cs o vs)) }) else none
      | _, _ => none)
    | _ => none)
  | .tpt _ b _ => (match m.H[b]? with
    | some (.cells e' cs) => (match cellsOf v, tiOf P t with
      | some vs, some I => if 0 = e' ∧ vs.length = I.size ∧ 0 + vs.length ≤ cs.length then some (.undef, { m with H := m.H.set b (.cells 0 (setMany cs 0 vs)) }) else none
      | _, _ => none)
    | _ => none)
  | _ => none

/-- One operation, calls of functions left out. -/
def aop (P : Program) (mu : Bool) (m : AMem) (ρ : Operand → AVal) (op : Op) : Option (AVal × AMem) :=
  match op with
  | .move x => some (ρ x, m)
  | .assign x => some (ρ x, m)
  | .pick c a b => (match ρ c with | .bool t => some (if t then ρ a else ρ b, m) | _ => none)
  | .alloc e => (match tiOf P e with | some E => (match E.zero.bind cellsOf with | some zs => some (anew m e zs) | none => none) | none => none)
  | .box _ v => (match cellsOf (ρ v) with | some vs => some (apush m vs) | none => none)
  | .build t ps => (abuild P t (ps.toList.map fun p => (p.1, ρ p.2))).map (·, m)
  | .buildSlice t n ps => abuildSlice P mu m t n (ps.toList.map fun p => (p.1, ρ p.2))
  | .load t a => (aload P t m (ρ a)).map (·, m)
  | .store t a v => astore P m t (ρ a) (ρ v)
  | .makeMap _ none => some (.map m.H.length, { m with H := m.H ++ [.amap []] })
  | .lookup t x k ok => (alookup P t m (ρ x) (ρ k) ok).map (·, m)
  | .mapUpdate t x k v => amput P t m (ρ x) (ρ k) (ρ v)
  | .insert t x k v => amput P t m (ρ x) (ρ k) (ρ v)
  | .nilCheck x => (anil (ρ x)).map (·, m)
  | .binOp op t x y _ => (abin P op t (ρ x) (ρ y)).map (·, m)
  | .unOp op _ x => (aun op (ρ x)).map (·, m)
  | .convert s d x => (aconv P s d (ρ x)).map (·, m)
  | .makeInterface t x => (match tiOf P t with | some I => (match I.k with | .iface => none | .other => none | _ => some (.ifc t (ρ x), m)) | none => none)
  | .makeFunc (.func f) first caps => some (.fn f (first.toList.map ρ) (caps.toList.map ρ), m)
  | .makeSlice t l c => amakeSlice P mu m t (ρ l) (ρ c)
  | .slice t x lo hi mx => (aslice P t (ρ x) (lo.map ρ) (hi.map ρ) (mx.map ρ)).map (·, m)
  | .fieldAddr t x f => (afieldAddr P t (ρ x) f).map (·, m)
  | .field t x f => (afield P t (ρ x) f).map (·, m)
  | .indexAddr t x i => (aindexAddr P t (ρ x) (ρ i)).map (·, m)
  | .index t x i => (aindex P t (ρ x) (ρ i)).map (·, m)
  | .extract x i => (aextract (ρ x) i).map (·, m)
  | .range t x => arange P t m (ρ x)
  | .entry x => (aentry m (ρ x)).map (·, m)
  | .typeAssert x _ t ok => (atassert P (ρ x) t ok).map (·, m)
  | .call c => (match c.callee with
    | .builtin b => abuiltin P mu m b c.argTypes.toList (c.args.toList.map ρ)
    | _ => none)
  | _ => none

/-- What an operation that came to an end leaves. -/
def NX (κ : Cx) (v : AVal) : Next → Prop
  | .value u => VR κ v u
  | .skip => v = .undef
  | _ => False

/-- An operation did what it was said to. -/
def Did (P : Program) (γ : Ghost) (s : Sem Next) (v : AVal) (m' : AMem) : Prop :=
  ∃ nx γ', s.run P γ.w = .ok nx γ'.w ∧ NX γ'.cx v nx ∧ Ext γ γ' ∧ Rl γ' ∧ γ'.S = m'

section
variable {P : Program} {γ : Ghost}

theorem Did.quiet (hr : Rl γ) {s : Sem Value} {v : AVal} (h : ∃ v', s.run P γ.w = .ok v' γ.w ∧ VR γ.cx v v') : Did P γ (do pure (.value (← s))) v γ.S := by
  obtain ⟨v', h1, h2⟩ := h
  exact ⟨.value v', γ, by simp [h1], h2, Ext.refl γ, hr, rfl⟩

theorem Ghost.one (γ : Ghost) : γ.cx.one := fun b g g' c c' h h' => by
  obtain ⟨x, hx, ⟨_, h0⟩, h1⟩ := h
  obtain ⟨x', hx', _, h1'⟩ := h'
  rw [hx] at hx'
  cases hx'
  have e := h0 rfl
  rw [← (h1 e.symm).1, ← (h1' e.symm).1]
theorem Ghost.lies (γ : Ghost) : γ.cx.lies γ.w := fun g t n h => by
  obtain ⟨_, arr, fz, hg, hn⟩ := h
  exact ⟨arr.size, by simp [World.shape?, hg], hn⟩

theorem Ghost.reads (γ : Ghost) : γ.cx.reads γ.w := fun g o v h => h.1
theorem alen_sound (hr : Rl γ) {t ty : TypeId} {x v : AVal} {u : Value} (h : alen P t γ.S x = some v) (hx : VR γ.cx x u) : ∃ v', (Builtin.len_ #[t] ty #[u]).run P γ.w = .ok v' γ.w ∧ VR γ.cx v v' := by
  unfold alen at h
  cases hI : tiOf P t with
  | none => simp [hI] at h
  | some I =>
    simp only [hI] at h
    obtain ⟨i, d, hi⟩ := tiOf_spec hI
    have hk := hi.k
    cases hkk : I.k <;> simp only [hkk, reduceCtorEq] at h <;> rw [hkk] at hk
    case str =>
      have := tk_str hk; subst this
      cases x <;> simp only [reduceCtorEq, Option.some.injEq] at h
      subst h
      cases hx
      rename_i s
      have hs : (ByteArray.mk s.toArray).size = s.length := by simp [ByteArray.size]
      have := run_len_string (P := P) γ.w t ty ⟨s.toArray⟩ hi.under
      rw [hs] at this
      exact ⟨_, this, .int _ _⟩
    case slice e =>
      have := tk_slice hk; subst this
      cases x <;> simp only [reduceCtorEq, Option.some.injEq] at h <;> subst h <;> cases hx <;>
        exact ⟨_, by simp [Builtin.len_, hi.run_under γ.w, goInt], .int _ _⟩
    case arr n e =>
      have := tk_arr hk; subst this
      simp only [Option.some.injEq] at h
      subst h
      exact ⟨_, by simp [Builtin.len_, hi.run_under γ.w, goInt], .int _ _⟩
    case map k e =>
      have := tk_map hk; subst this
      cases x <;> simp only [reduceCtorEq] at h
      case nilm =>
        simp only [Option.some.injEq] at h
        subst h
        cases hx
        exact ⟨_, by simp [Builtin.len_, hi.run_under γ.w, goInt], .int _ _⟩
      case map b =>
        cases hb : γ.S.H[b]? with
        | none => simp [hb] at h
        | some y =>
          cases y with
          | cells e' cs => simp [hb] at h
          | iter _ _ _ => simp [hb] at h
          | loop _ _ _ _ _ _ _ => simp [hb] at h
          | amap es =>
            simp only [hb, Option.some.injEq] at h
            subst h
            obtain ⟨en, clk, h1, h2⟩ := hr.maps b es hb
            have h2 := h2.size
            cases hx with
            | map _ g c hblk =>
              obtain ⟨z, hz, _, hz2⟩ := hblk
              rw [hb] at hz
              cases hz
              obtain ⟨rfl, _⟩ := hz2 rfl
              have hg : (getObj (γ.ι.h b)).run P γ.w = .ok (.map en clk) γ.w := by simp [getObj, Sem.run, h1]
              exact ⟨.int .i64 es.length, by simp [Builtin.len_, hi.run_under γ.w, goInt, hg, h2], .int _ _⟩

/-- A block pushed by the machine. -/
theorem did_push (hr : Rl γ) {cs : List AVal} {arr : Array Value} {ty : TypeId} (ha : AR γ.cx cs arr) {c z ep : Nat} (hep : ep % 64 = 0 ∨ ep % 64 = z) (hcz : c * z ≤ arr.size) :
    Ext γ (γ.push (.cells ep cs) c z (.cells arr ty)) ∧ Rl (γ.push (.cells ep cs) c z (.cells arr ty)) ∧ (γ.push (.cells ep cs) c z (.cells arr ty)).S = { γ.S with H := γ.S.H ++ [.cells ep cs] } :=
  ⟨ext_push, rl_push hr (fun _ _ he => by cases he; exact hep) ⟨arr, ty, rfl, by rw [ha.size]; exact Nat.le_refl _, hcz, ha.vr, ha.one⟩, rfl⟩

theorem did_box (hr : Rl γ) {e : TypeId} {vs : List AVal} {v : AVal} {u : Value} (hv : VR γ.cx v u) (hc : cellsOf v = some vs) {s : Sem Value} (hs : s.run P γ.w = .ok (.pointer (some ⟨γ.w.heap.size, 0, none⟩)) (γ.w.alloc (.cells u.cells e))) :
    Did P γ (do pure (.value (← s))) (apush γ.S vs).1 (apush γ.S vs).2 := by
  have ha := hv.cells hc
  obtain ⟨h1, h2, h3⟩ := did_push (ty := e) hr ha (c := 0) (z := 0) (ep := 0) (.inl rfl) (Nat.zero_le _)
  exact ⟨.value (.pointer (some ⟨γ.w.heap.size, 0, none⟩)), _, by simp [hs]; rfl, .ptr _ _ _ _ 0 (push_blk rfl), h1, h2, h3⟩

theorem did_new (hr : Rl γ) {e : TypeId} {vs : List AVal} {v : AVal} {u : Value} (hv : VR γ.cx v u) (hc : cellsOf v = some vs) {s : Sem Value} (hs : s.run P γ.w = .ok (.pointer (some ⟨γ.w.heap.size, 0, none⟩)) (γ.w.alloc (.cells u.cells e))) :
    Did P γ (do pure (.value (← s))) (anew γ.S e vs).1 (anew γ.S e vs).2 := by
  have ha := hv.cells hc
  obtain ⟨h1, h2, h3⟩ := did_push (ty := e) hr ha (c := 0) (z := 0) (ep := 0) (.inl rfl) (Nat.zero_le _)
  refine ⟨.value (.pointer (some ⟨γ.w.heap.size, 0, none⟩)), _, by simp [hs]; rfl, ?_, h1, h2, h3⟩
  show VR _ (if isB vs = true then _ else _) _
  split
  · refine .tpt _ _ _ _ 0 (push_blk rfl) ⟨hr.lo, u.cells, (0, 0), heap_alloc_new γ.w _, ?_⟩
    rw [ha.size]; exact Nat.le_refl _
  · exact .ptr _ _ _ _ 0 (push_blk rfl)

theorem did_store0 (hr : Rl γ) {t : TypeId} {x v v0 : AVal} {m' : AMem} {p u : Value} (hnt : ∀ t b n, x ≠ .tpt t b n) (h : astore P γ.S t x v = some (v0, m')) (hx : VR γ.cx x p) (hv : VR γ.cx v u) :
    Did P γ (do Instr.storeAt t p u; pure .skip) v0 m' := by
  cases x <;> simp only [astore, reduceCtorEq] at h
  case tpt t' b n => exact absurd rfl (hnt t' b n)
  rename_i b e o
  cases hb : γ.S.H[b]? with
  | none => simp [hb] at h
  | some y =>
    cases y with
    | amap es => simp [hb] at h
    | iter _ _ _ => simp [hb] at h
    | loop _ _ _ _ _ _ _ => simp [hb] at h
    | cells e' cs =>
      simp only [hb] at h
      cases hc : cellsOf v with
      | none => simp [hc] at h
      | some vs =>
        cases hI : tiOf P t with
        | none => simp [hc, hI] at h
        | some I =>
          simp only [hc, hI] at h
          split at h
          · rename_i hcond
            obtain ⟨rfl, hlen, hle⟩ := hcond
            simp only [Option.some.injEq, Prod.mk.injEq] at h
            obtain ⟨rfl, rfl⟩ := h
            obtain ⟨i, d, hi⟩ := tiOf_spec hI
            have ha := hv.cells hc
            cases hx with
            | ptr _ _ _ g c hblk =>
              obtain ⟨z, hz, _, hz2⟩ := hblk
              rw [hb] at hz
              cases hz
              obtain ⟨rfl, _⟩ := hz2 rfl
              obtain ⟨γ', r1, r2, r3, r4⟩ := run_stores (P := P) u.cells.toList vs γ b e o 0 cs hr hb (by simpa using ha.size.symm) (by simpa using hle)
                (fun j hj => by simpa [Array.getD_eq_getD_getElem?, List.getD_eq_getElem?_getD] using ha.vr j hj) (fun j hj => by simpa [Array.getD_eq_getD_getElem?, List.getD_eq_getElem?_getD] using ha.one j hj)
              have hsz : u.cells.size = I.size := by rw [ha.size]; exact hlen
              refine ⟨.skip, γ', ?_, rfl, r2, r3, by simpa using r4⟩
              simp [Instr.storeAt, Instr.sureAddr, storeVar, hi.run_size γ.w, hsz, r1]
          · cases h

theorem did_store (hr : Rl γ) {t : TypeId} {x v v0 : AVal} {m' : AMem} {p u : Value} (h : astore P γ.S t x v = some (v0, m')) (hx : VR γ.cx x p) (hv : VR γ.cx v u) :
    Did P γ (do Instr.storeAt t p u; pure .skip) v0 m' := by
  by_cases hn : ∃ t b n, x = .tpt t b n
  · obtain ⟨t', b, n, rfl⟩ := hn
    cases hx with
    | tpt _ _ _ g c hb ho => exact did_store0 hr (x := .ptr b 0 0) (fun _ _ _ h => by cases h) h (.ptr _ _ _ _ _ hb) hv
  · exact did_store0 hr (fun t b n he => hn ⟨t, b, n, he⟩) h hx hv

theorem acap_sound {t ty : TypeId} {x v : AVal} {u : Value} (h : acap P t x = some v) (hx : VR γ.cx x u) : ∃ v', (Builtin.cap_ #[t] ty #[u]).run P γ.w = .ok v' γ.w ∧ VR γ.cx v v' := by
  unfold acap at h
  cases hI : tiOf P t with
  | none => simp [hI] at h
  | some I =>
    simp only [hI] at h
    obtain ⟨i, d, hi⟩ := tiOf_spec hI
    have hk := hi.k
    cases hkk : I.k <;> simp only [hkk, reduceCtorEq] at h
    rename_i e
    rw [hkk] at hk
    have := tk_slice hk; subst this
    split at h
    · cases h
      cases hx with
      | slnil => exact ⟨_, by simp [Builtin.cap_, hi.run_under γ.w, goInt], .int _ _⟩
      | sl _ _ _ g k cap f hn hc hv hr => exact absurd hr.1 (by simp)
    · cases h
      cases hx with
      | slnil => exact ⟨_, by simp [Builtin.cap_, hi.run_under γ.w, goInt], .int _ _⟩
      | sl _ _ _ g k cap f hn hc hv hr =>
        have : cap = _ := hr
        subst this
        exact ⟨_, by simp [Builtin.cap_, hi.run_under γ.w, goInt], .int _ _⟩
    · cases h

theorem copy_def (t t2 ty : TypeId) (base : Option Addr) (n cap : Nat) (yu : Value) : Builtin.copy_ #[t, t2] ty #[.slice base n cap, yu] = (do
    let .slice elem ← underlying t | stuck "copy: slice type expected"
    let n := Nat.min (← Builtin.lenOf yu) n
    let cells ← Builtin.firstCells (← sizeOf elem) n yu
    if let some a := base then storeCells a cells.toList
    pure (goInt n)) := rfl
theorem acopy_sound (hr : Rl γ) {t t2 ty : TypeId} {x y v : AVal} {m' : AMem} {xu yu : Value} (h : acopy P γ.S t x y = some (v, m')) (hx : VR γ.cx x xu) (hy : VR γ.cx y yu) :
    ∃ v' γ', (Builtin.copy_ #[t, t2] ty #[xu, yu]).run P γ.w = .ok v' γ'.w ∧ Ext γ γ' ∧ Rl γ' ∧ γ'.S = m' ∧ VR γ'.cx v v' := by
  unfold acopy at h
  cases hI : tiOf P t with
  | none => simp [hI] at h
  | some I =>
    simp only [hI] at h
    obtain ⟨i, d, hi⟩ := tiOf_spec hI
    have hk := hi.k
    cases hkk : I.k <;> simp only [hkk, reduceCtorEq] at h
    rename_i e
    rw [hkk] at hk
    have := tk_slice hk; subst this
    cases hE : tiOf P e with
    | none => simp [hE] at h
    | some E =>
      simp only [hE] at h
      obtain ⟨i', d', hi'⟩ := tiOf_spec hE
      cases hal : alist γ.S y with
      | none => simp [hal] at h
      | some kd =>
        obtain ⟨k, ds⟩ := kd
        simp only [hal] at h
        split at h
        · rename_i r n cs
          split at h
          case isFalse => cases h
          rename_i hn
          subst hn
          cases h
          obtain ⟨base, cap, rfl⟩ : ∃ base cap, xu = .slice base 0 cap := by cases hx <;> exact ⟨_, _, rfl⟩
          obtain ⟨l, hl⟩ : ∃ l, (Builtin.lenOf yu).run P γ.w = .ok l γ.w := by
            cases y <;> simp only [alist, reduceCtorEq] at hal <;> cases hy <;> exact ⟨_, rfl⟩
          have hf : (Builtin.firstCells E.size 0 yu).run P γ.w = .ok #[] γ.w := by
            cases y <;> simp only [alist, reduceCtorEq] at hal <;> cases hy <;> simp [Builtin.firstCells, loadCells, loadCellsFrom]
          refine ⟨_, γ, ?_, Ext.refl γ, hr, rfl, .int _ _⟩
          have hmin : Nat.min l 0 = 0 := Nat.min_zero l
          rw [copy_def]
          cases base <;> simp [hi.run_under γ.w, hl, hi'.run_size γ.w, hf, storeCells, goInt]
        · rename_i b ep o n l
          cases hb : γ.S.H[b]? with
          | none => simp [hb] at h
          | some z =>
            cases z with
            | amap es => simp [hb] at h
            | iter _ _ _ => simp [hb] at h
            | loop _ _ _ _ _ _ _ => simp [hb] at h
            | cells e' cs =>
              simp only [hb] at h
              split at h
              case isFalse => cases h
              rename_i hc
              obtain ⟨rfl, hkn, hdl, hle⟩ := hc
              cases h
              obtain ⟨news, n1, n2, n3, n4, n5⟩ := read_alist (P := P) hr hy hal hdl
              cases hx with
              | msl _ _ _ _ _ g c cap hblk hn ho =>
                obtain ⟨z, hz, _, hz2⟩ := hblk
                rw [hb] at hz
                cases hz
                obtain ⟨rfl, _⟩ := hz2 rfl
                obtain ⟨γ', r1, r2, r3, r4⟩ := run_stores (P := P) news ds γ b ep o 0 cs hr hb n1.symm (by omega) (fun j hj => n2 j hj) (fun j hj => by
                  rw [List.getD_eq_getElem?_getD, List.getElem?_eq_getElem (by omega), Option.getD_some]
                  exact n3 _ (List.getElem_mem _))
                refine ⟨_, γ', ?_, r2, r3, by simpa using r4, .int _ _⟩
                have hmin : Nat.min k n = k := Nat.min_eq_left hkn
                rw [copy_def]
                simp only [Sem.run_bind, hi.run_under γ.w, Result.andThen_ok, n4, hi'.run_size γ.w, hmin, n5 γ.w rfl, r1]
                rfl
        · cases h

theorem zeroRow_AR {κ : Cx} {zs : List AVal} {zc : Array Value} (hz : AR κ zs zc) (hpos : 0 < zs.length) (n : Nat) : AR κ (zeroRow zs n) ((Array.range n).map (zc[· % zc.size]!)) := by
  refine ⟨by simp [zeroRow], fun j hj => ?_, fun j hj => ?_⟩
  · have hj' : j < n := by simpa [zeroRow] using hj
    have hm : j % zs.length < zs.length := Nat.mod_lt _ hpos
    have hm' : j % zs.length < zc.size := by rw [hz.size]; exact hm
    have := hz.vr _ hm
    simp only [zeroRow, List.getElem_map, List.getElem_range, Array.getD_eq_getD_getElem?, Array.getElem?_map, Array.getElem?_range, hj', if_pos, Option.map_some, Option.getD_some, hz.size, List.getD_eq_getElem?_getD, List.getElem?_eq_getElem hm]
    rw [getElem!_pos zc _ hm']
    simpa [Array.getD, hm'] using this
  · have hj' : j < n := by simpa [zeroRow] using hj
    have hm : j % zs.length < zs.length := Nat.mod_lt _ hpos
    have hm' : j % zs.length < zc.size := by rw [hz.size]; exact hm
    have := hz.one _ hm
    simp only [Array.getD_eq_getD_getElem?, Array.getElem?_map, Array.getElem?_range, hj', if_pos, Option.map_some, Option.getD_some, hz.size]
    rw [getElem!_pos zc _ hm']
    simpa [Array.getD, hm'] using this

/-- A row made and never written: cells that stay. -/
theorem did_row (hr : Rl γ) {cs : List AVal} {arr : Array Value} {ty : TypeId} (ha : AR γ.cx cs arr) {n cap : Nat} {r : Rt} (hn : n ≤ cap) (hrt : r = .no ∨ (r = .full ∧ cap = n)) :
    Ext γ { γ with w := γ.w.alloc (.cells arr ty) } ∧ Rl { γ with w := γ.w.alloc (.cells arr ty) } ∧ VR ({ γ with w := γ.w.alloc (.cells arr ty) } : Ghost).cx (.sl r n cs) (.slice (some ⟨γ.w.heap.size, 0, none⟩) n cap) := by
  have hg := Grow.alloc γ.w (.cells arr ty)
  refine ⟨ext_grow hg, rl_grow hr hg, .sl _ _ _ γ.w.heap.size 0 cap (fun j => arr.getD j undef) hn (fun j hj => ?_) (fun j hj => (ha.vr j hj).ext (ext_grow hg)) ?_⟩
  · rw [Nat.zero_add]
    exact cell_new hr (Nat.le_refl _) (heap_alloc_new γ.w _) (by rw [ha.size]; exact hj) (ha.one j hj)
  · rcases hrt with rfl | ⟨rfl, h⟩
    · trivial
    · exact h

theorem did_buildSlice (hr : Rl γ) {mu : Bool} {t : TypeId} {len : Nat} {parts : List (Nat × AVal)} {ws : List (Nat × Value)} {v : AVal} {m' : AMem} (hl : ws.length = parts.length)
    (hv : ∀ (i : Nat) (h : i < parts.length), ∃ v, ws[i]? = some ((parts[i]).1, v) ∧ VR γ.cx (parts[i]).2 v) (h : abuildSlice P mu γ.S t len parts = some (v, m')) :
    Did P γ (do pure (.value (← Instr.buildSlice t len ws.toArray))) v m' := by
  unfold abuildSlice at h
  cases hI : tiOf P t with
  | none => simp [hI] at h
  | some I =>
    simp only [hI] at h
    obtain ⟨i, d, hi⟩ := tiOf_spec hI
    have hk := hi.k
    cases hkk : I.k <;> simp only [hkk, reduceCtorEq] at h
    rename_i e
    rw [hkk] at hk
    have := tk_slice hk; subst this
    cases hE : tiOf P e with
    | none => simp [hE] at h
    | some E =>
      simp only [hE] at h
      obtain ⟨i', d', hi'⟩ := tiOf_spec hE
      cases hz : E.zero with
      | none => simp [hz] at h
      | some z =>
        simp only [hz, Option.bind_some] at h
        cases hzc : cellsOf z with
        | none => simp [hzc] at h
        | some zs =>
          simp only [hzc] at h
          split at h
          case isFalse => cases h
          rename_i hc
          obtain ⟨hpos, hzl, hbig⟩ := hc
          obtain ⟨zv, hrz, hiz, rfl⟩ := hi'.run_zero γ.w hz
          have hzr : AR γ.cx zs zv.cells := (VR.ofVal γ.cx zv).cells hzc
          have hz0 := zeroRow_AR hzr (by omega) (len * E.size)
          cases hf : afill (fun i => some (i * E.size, E.size)) (zeroRow zs (len * E.size)) parts with
          | none => simp [hf] at h
          | some cs =>
            simp only [hf] at h
            obtain ⟨arr, ha, har⟩ := afill_sound parts ws _ _ cs hl hv hz0 hf
            have hrun : (Instr.buildSlice t len ws.toArray).run P γ.w = .ok (.slice (some ⟨γ.w.heap.size, 0, none⟩) len len) (γ.w.alloc (.cells arr e)) := by
              by_cases hl0 : len * E.size = 0
              · have he : (Array.range (len * E.size)).map (zv.cells[· % zv.cells.size]!) = #[] := by rw [hl0]; simp
                rw [he] at ha
                have he2 : (Array.range (len * E.size)).map ((#[] : Array Value)[· % (#[] : Array Value).size]!) = #[] := by rw [hl0]; simp
                have hnb : ¬ (len * E.size > 2 ^ 24) := by omega
                simp only [Instr.buildSlice, Sem.run_bind, hi.run_under γ.w, Result.andThen_ok, hi'.run_size γ.w, Sem.run_ite, if_neg hnb, if_pos hl0, Sem.run_pure, he2, ha, newRow, run_newObj, World.alloc_eq]
              · have hnb : ¬ (len * E.size > 2 ^ 24) := by omega
                simp only [Instr.buildSlice, Sem.run_bind, hi.run_under γ.w, Result.andThen_ok, hi'.run_size γ.w, Sem.run_ite, if_neg hnb, if_neg hl0, hrz, Sem.run_pure, ha, newRow, run_newObj, World.alloc_eq]
            cases hmu : (mu && decide (1 < len)) with
            | true =>
              simp only [hmu, if_true, Option.some.injEq, Prod.mk.injEq] at h
              obtain ⟨rfl, rfl⟩ := h
              have hcl : cs.length = len * E.size := by
                have hal : ∀ (ps : List (Nat × AVal)) (a out : List AVal), afill (fun i => some (i * E.size, E.size)) a ps = some out → out.length = a.length := by
                  intro ps
                  induction ps with
                  | nil => intro a out h; simp only [afill, Option.some.injEq] at h; rw [h]
                  | cons p ps ih =>
                    intro a out h
                    obtain ⟨i, v⟩ := p
                    simp only [afill] at h
                    split at h
                    · split at h
                      · rw [ih _ _ h, length_setMany]
                      · cases h
                    · cases h
                rw [hal _ _ _ hf]; simp [zeroRow]
              obtain ⟨h1, h2, h3⟩ := did_push (ty := e) hr har (c := len) (z := E.size) (epo_ok E.size) (by rw [har.size, hcl]; exact Nat.le_refl _)
              exact ⟨.value (.slice (some ⟨γ.w.heap.size, 0, none⟩) len len), _, by simp [hrun]; rfl, .msl _ _ _ _ _ _ _ _ push_blk_ep (Nat.le_refl _) (fun _ => rfl), h1, h2, h3⟩
            | false =>
              simp only [hmu, Bool.false_eq_true, if_false, Option.some.injEq, Prod.mk.injEq] at h
              obtain ⟨rfl, rfl⟩ := h
              obtain ⟨h1, h2, h3⟩ := did_row (ty := e) hr har (n := len) (cap := len) (r := .full) (Nat.le_refl _) (.inr ⟨rfl, rfl⟩)
              exact ⟨.value (.slice (some ⟨γ.w.heap.size, 0, none⟩) len len), { γ with w := γ.w.alloc (.cells arr e) }, by simp [hrun], h3, h1, h2, rfl⟩

theorem did_makeSlice (hr : Rl γ) {mu : Bool} {t : TypeId} {l c v : AVal} {lu cu : Value} {m' : AMem} (h : amakeSlice P mu γ.S t l c = some (v, m')) (hl : VR γ.cx l lu) (hcv : VR γ.cx c cu) :
    Did P γ (do pure (.value (← Instr.makeSlice t lu cu))) v m' := by
  unfold amakeSlice at h
  cases l <;> simp only [reduceCtorEq] at h
  cases c <;> simp only [reduceCtorEq] at h
  rename_i lk l ck c
  cases hl; cases hcv
  cases hI : tiOf P t with
  | none => simp [hI] at h
  | some I =>
    simp only [hI] at h
    obtain ⟨i, d, hi⟩ := tiOf_spec hI
    have hk := hi.k
    cases hkk : I.k <;> simp only [hkk, reduceCtorEq] at h
    rename_i e
    rw [hkk] at hk
    have := tk_slice hk; subst this
    cases hE : tiOf P e with
    | none => simp [hE] at h
    | some E =>
      simp only [hE] at h
      obtain ⟨i', d', hi'⟩ := tiOf_spec hE
      cases hz : E.zero with
      | none => simp [hz] at h
      | some z =>
        simp only [hz, Option.bind_some] at h
        split at h
        case h_2 => cases h
        rename_i zz hzc
        split at h
        case isFalse => cases h
        rename_i hcond
        obtain ⟨hE1, h0, hlc, hcm, hby⟩ := hcond
        obtain ⟨zv, hrz, hiz, rfl⟩ := hi'.run_zero γ.w hz
        have hzr : AR γ.cx [zz] zv.cells := (VR.ofVal γ.cx zv).cells hzc
        have wl : IntKind.i64.wrap l = l := IntWalk.i64_in l (by omega)
        have wc : IntKind.i64.wrap c = c := IntWalk.i64_in c (by omega)
        have t1 : ¬ ((i'.bytes : Int) * c > 2 ^ 48) := by rw [← hi'.bytes]; omega
        have t2 : ¬ (c < 0) := by omega
        generalize hn : c.toNat = cn at *
        generalize hln : l.toNat = ln at *
        have hlcn : ln ≤ cn := by omega
        have hzsz : zv.cells.size = 1 := hzr.size
        have h00 : ∀ j, j < cn → ((Array.range cn).map (zv.cells[· % zv.cells.size]!)).getD j undef = zv.cells.getD 0 undef := by
          intro j hj
          simp [Array.getD, hj, hzsz, Nat.mod_one]
        have har : ∀ q, q ≤ cn → (∀ (j : Nat) (h : j < (List.replicate q zz).length), VR γ.cx ((List.replicate q zz)[j]) (((Array.range cn).map (zv.cells[· % zv.cells.size]!)).getD j undef)) ∧
            ∀ j, j < (List.replicate q zz).length → (((Array.range cn).map (zv.cells[· % zv.cells.size]!)).getD j undef).oneCell' = true := by
          intro q hq
          refine ⟨fun j hj => ?_, fun j hj => ?_⟩
          · have : j < q := by simpa using hj
            rw [h00 j (by omega), List.getElem_replicate]
            exact hzr.vr 0 (by simp)
          · have : j < q := by simpa using hj
            rw [h00 j (by omega)]
            exact hzr.one 0 (by simp)
        have hrun : (Instr.makeSlice t (.int lk l) (.int ck c)).run P γ.w = .ok (.slice (some ⟨γ.w.heap.size, 0, none⟩) ln cn) (γ.w.alloc (.cells ((Array.range cn).map (zv.cells[· % zv.cells.size]!)) e)) := by
          simp only [Instr.makeSlice, Sem.run_bind, hi.run_under γ.w, Result.andThen_ok, asInt, asIntOf, Sem.run_pure, hi'.run_info γ.w, wl, wc]
          rw [if_neg (by simp only [Bool.or_eq_true, decide_eq_true_eq]; omega)]
          simp only [Sem.run_bind, run_askRoom, Result.andThen_ok, hi'.run_size γ.w, hE1, Nat.mul_one, hn, hln]
          by_cases hc0 : cn = 0
          · subst hc0
            have e1 : ∀ f : Nat → Value, (Array.range 0).map f = #[] := fun f => by simp
            simp [newRow, e1]
          · simp [hc0, hrz, newRow]
        cases mu with
        | true =>
          simp only [if_true, Option.some.injEq, Prod.mk.injEq] at h
          obtain ⟨rfl, rfl⟩ := h
          have hpl : Rl (γ.push (.cells 1 (List.replicate ln zz)) cn 1 (.cells ((Array.range cn).map (zv.cells[· % zv.cells.size]!)) e)) :=
            rl_push hr (fun _ _ he => by cases he; exact .inr rfl) ⟨_, e, rfl, by simp; omega, by simp, (har ln hlcn).1, (har ln hlcn).2⟩
          exact ⟨.value (.slice (some ⟨γ.w.heap.size, 0, none⟩) ln cn), _, by simp [hrun]; rfl, .msl _ _ _ _ _ _ _ _ push_blk_ep hlcn (fun _ => rfl), ext_push, hpl, rfl⟩
        | false =>
          simp only [Bool.false_eq_true, if_false, Option.some.injEq, Prod.mk.injEq] at h
          obtain ⟨rfl, rfl⟩ := h
          have hg := Grow.alloc γ.w (.cells ((Array.range cn).map (zv.cells[· % zv.cells.size]!)) e)
          refine ⟨.value (.slice (some ⟨γ.w.heap.size, 0, none⟩) ln cn), { γ with w := γ.w.alloc (.cells ((Array.range cn).map (zv.cells[· % zv.cells.size]!)) e) }, by simp [hrun], ?_, ext_grow hg, rl_grow hr hg, rfl⟩
          refine .sl _ _ _ γ.w.heap.size 0 cn (fun j => ((Array.range cn).map (zv.cells[· % zv.cells.size]!)).getD j undef) hlcn (fun j hj => ?_) (fun j hj => ((har ln hlcn).1 j hj).ext (ext_grow hg)) ?_
          · rw [Nat.zero_add]
            have hj' : j < ln := by simpa using hj
            exact cell_new hr (Nat.le_refl _) (heap_alloc_new γ.w _) (by simp; omega) ((har ln hlcn).2 j hj)
          · by_cases hlc2 : l = c
            · rw [if_pos hlc2]; show cn = ln; omega
            · rw [if_neg hlc2]; trivial

theorem or_map {ρ : Operand → AVal} {σ : Operand → Value} {κ : Cx} (h : ∀ x, VR κ (ρ x) (σ x)) (x : Option Operand) : OR κ (x.map ρ) (x.map σ) := by
  cases x with
  | none => trivial
  | some x => exact h x

theorem parts_map {ρ : Operand → AVal} {σ : Operand → Value} {κ : Cx} (h : ∀ x, VR κ (ρ x) (σ x)) (ps : Array (Nat × Operand)) :
    (ps.toList.map fun p => (p.1, σ p.2)).length = (ps.toList.map fun p => (p.1, ρ p.2)).length ∧ ∀ (i : Nat) (hi : i < (ps.toList.map fun p => (p.1, ρ p.2)).length),
      ∃ v, (ps.toList.map fun p => (p.1, σ p.2))[i]? = some (((ps.toList.map fun p => (p.1, ρ p.2))[i]).1, v) ∧ VR κ ((ps.toList.map fun p => (p.1, ρ p.2))[i]).2 v := by
  refine ⟨by simp, fun i hi => ?_⟩
  have hi' : i < ps.size := by simpa using hi
  refine ⟨σ (ps[i]).2, by simp [hi'], ?_⟩
  simp only [List.getElem_map, Array.getElem_toList]
  exact h _

theorem fnvals {ρ : Operand → AVal} {σ : Operand → Value} {κ : Cx} (h : ∀ x, VR κ (ρ x) (σ x)) (xs : Array Operand) :
    (xs.map σ).size = (xs.toList.map ρ).length ∧ ∀ (j : Nat) (hj : j < (xs.toList.map ρ).length), VR κ ((xs.toList.map ρ)[j]) ((xs.map σ).getD j undef) := by
  refine ⟨by simp, fun j hj => ?_⟩
  have hj' : j < xs.size := by simpa using hj
  simp [Array.getD, hj']
  exact h _

theorem aop_sound (hr : Rl γ) {mu : Bool} {env : List (Nat × AVal)} {a : Act} (he : ER γ.cx env a.tmps) {o : Oper} {v : AVal} {m' : AMem} (h : aop P mu γ.S (ev env) o.op = some (v, m')) : Did P γ (execOp a.eval o) v m' := by
  have hE : ∀ x, VR γ.cx (ev env x) (a.eval x) := fun x => he.ev x
  have quietM : ∀ {s : Sem Value} {r : Option AVal}, (∀ v, r = some v → ∃ v', s.run P γ.w = .ok v' γ.w ∧ VR γ.cx v v') → r.map (·, γ.S) = some (v, m') → Did P γ (do pure (.value (← s))) v m' := by
    intro s r hs hm
    obtain ⟨x, hx, hxm⟩ := Option.map_eq_some_iff.1 hm
    cases hxm
    exact Did.quiet hr (hs _ hx)
  obtain ⟨dst, op, type, pos, after, guard⟩ := o
  simp only at h
  cases op <;> simp only [aop, reduceCtorEq] at h
  case move x => cases h; exact ⟨.value (a.eval x), γ, rfl, hE x, Ext.refl γ, hr, rfl⟩
  case assign x => cases h; exact ⟨.value (a.eval x), γ, rfl, hE x, Ext.refl γ, hr, rfl⟩
  case pick c x y =>
    have hc := hE c
    split at h
    case h_2 => cases h
    rename_i b hv
    cases h
    rw [hv] at hc
    cases hcv : a.eval c <;> rw [hcv] at hc <;> cases hc
    refine ⟨.value (if b then a.eval x else a.eval y), γ, by simp [execOp, hcv, asBool], ?_, Ext.refl γ, hr, rfl⟩
    cases b
    · exact hE y
    · exact hE x
  case alloc e =>
    cases hI : tiOf P e with
    | none => simp [hI] at h
    | some E =>
      simp only [hI] at h
      obtain ⟨i, d, hi⟩ := tiOf_spec hI
      cases hz : E.zero with
      | none => simp [hz] at h
      | some z =>
        simp only [hz, Option.bind_some] at h
        cases hzc : cellsOf z with
        | none => simp [hzc] at h
        | some zs =>
          simp only [hzc, Option.some.injEq] at h
          obtain ⟨zv, hrz, hiz, rfl⟩ := hi.run_zero γ.w hz
          have := did_new (P := P) (e := e) (s := Instr.alloc e true (.tuple #[])) hr (VR.ofVal γ.cx zv) hzc (by simp [Instr.alloc, hrz, newVar, newRow])
          rw [h] at this
          exact this
  case box e x =>
    cases hc : cellsOf (ev env x) with
    | none => simp [hc] at h
    | some vs =>
      simp only [hc, Option.some.injEq] at h
      have := did_box (P := P) (e := e) (s := Instr.box e (a.eval x)) hr (hE x) hc (by simp [Instr.box, newVar, newRow])
      rw [h] at this
      exact this
  case build t ps =>
    refine quietM (fun v hv => ?_) h
    obtain ⟨h1, h2⟩ := parts_map hE ps
    have := abuild_sound (P := P) γ.w h1 h2 hv
    have e : (ps.map fun (x : Nat × Operand) => (x.1, a.eval x.2)) = (ps.toList.map fun p => (p.1, a.eval p.2)).toArray := by rw [← Array.toList_map, Array.toArray_toList]
    rw [← e] at this
    exact this
  case buildSlice t n ps =>
    obtain ⟨h1, h2⟩ := parts_map hE ps
    have := did_buildSlice (P := P) hr h1 h2 h
    have e : (ps.map fun (x : Nat × Operand) => (x.1, a.eval x.2)) = (ps.toList.map fun p => (p.1, a.eval p.2)).toArray := by rw [← Array.toList_map, Array.toArray_toList]
    rw [← e] at this
    exact this
  case load t x => exact quietM (fun v hv => aload_sound hr hv (hE x)) h
  case store t x y => exact did_store hr h (hE x) (hE y)
  case makeMap t r =>
    cases r <;> simp only [reduceCtorEq] at h
    simp only [Option.some.injEq, Prod.mk.injEq] at h
    obtain ⟨rfl, rfl⟩ := h
    have hpl : Rl (γ.push (.amap []) 0 0 (.map #[] 0)) := rl_push hr (fun _ _ he => by cases he) ⟨rfl, rfl⟩
    exact ⟨.value (.map (some γ.w.heap.size)), _, by simp [execOp, Instr.makeMap]; rfl, .map _ _ 0 (push_blk rfl), ext_push, hpl, rfl⟩
  case lookup t x k ok => exact quietM (fun v hv => alookup_sound hr hv (hE x) (hE k)) h
  case mapUpdate t x k y =>
    obtain ⟨rfl, γ', r1, r2, r3, r4⟩ := amput_sound (P := P) hr h (hE x) (hE k) (hE y)
    exact ⟨.skip, γ', by simp [execOp, r1], rfl, r2, r3, r4⟩
  case insert t x k y =>
    obtain ⟨rfl, γ', r1, r2, r3, r4⟩ := amput_sound (P := P) hr h (hE x) (hE k) (hE y)
    exact ⟨.skip, γ', by simp [execOp, r1], rfl, r2, r3, r4⟩
  case nilCheck x =>
    obtain ⟨z, hz, hzm⟩ := Option.map_eq_some_iff.1 h
    cases hzm
    have hx := hE x
    cases hv : ev env x <;> rw [hv] at hz hx <;> simp only [anil, reduceCtorEq, Option.some.injEq] at hz <;> subst hz
    all_goals
      cases hav : a.eval x <;> rw [hav] at hx <;> try (cases hx; done)
      first
        | exact ⟨.value (a.eval x), γ, by simp only [execOp, hav]; cases hx; rfl, by rw [hav]; exact hx, Ext.refl γ, hr, rfl⟩
  case binOp op t x y yt => exact quietM (fun v hv => abin_sound γ.w γ.one x y hv (hE x) (hE y)) h
  case unOp op t x => exact quietM (fun v hv => aun_sound γ.w hv (hE x)) h
  case convert s d x => exact quietM (fun v hv => aconv_sound γ.w γ.reads γ.lies hv (hE x)) h
  case makeInterface t x =>
    cases hI : tiOf P t with
    | none => simp [hI] at h
    | some I =>
      simp only [hI] at h
      obtain ⟨i, d, hi⟩ := tiOf_spec hI
      have hk := hi.k
      have hd : (Instr.makeInterface t (a.eval x)).run P γ.w = .ok (.iface t (a.eval x)) γ.w ∨ (I.k = .iface ∨ I.k = .other) := by
        cases hdd : d <;> subst hdd <;> first | (refine .inl ?_; simp [Instr.makeInterface, hi.run_under γ.w]; done) | (refine .inr ?_; rw [hk]; simp [tkOf]; done)
      rcases hd with hd | hd | hd
      · have : v = .ifc t (ev env x) ∧ m' = γ.S := by
          split at h <;> first | (cases h; done) | (cases h; exact ⟨rfl, rfl⟩)
        obtain ⟨rfl, rfl⟩ := this
        exact Did.quiet hr ⟨_, hd, .ifc t _ _ (hE x)⟩
      · simp [hd] at h
      · simp [hd] at h
  case makeFunc fn first caps =>
    cases fn <;> simp only [reduceCtorEq, Option.some.injEq, Prod.mk.injEq] at h
    obtain ⟨rfl, rfl⟩ := h
    obtain ⟨a1, a2⟩ := fnvals hE first
    obtain ⟨b1, b2⟩ := fnvals hE caps
    exact Did.quiet hr ⟨_, by simp [Instr.makeFunc], .fn _ _ _ _ _ a1 b1 a2 b2⟩
  case makeSlice t l c => exact did_makeSlice hr h (hE l) (hE c)
  case slice t x lo hi mx => exact quietM (fun v hv => aslice_sound γ.w hv (hE x) (or_map hE lo) (or_map hE hi) (or_map hE mx)) h
  case fieldAddr t x f => exact quietM (fun v hv => afieldAddr_sound γ.w hv (hE x)) h
  case field t x f => exact quietM (fun v hv => afield_sound γ.w hv (hE x)) h
  case indexAddr t x i => exact quietM (fun v hv => aindexAddr_sound γ.w hv (hE x) (hE i)) h
  case index t x i => exact quietM (fun v hv => aindex_sound γ.w hv (hE x) (hE i)) h
  case extract x i => exact quietM (fun v hv => aextract_sound γ.w hv (hE x)) h
  case range t x =>
    obtain ⟨v', γ', r1, r2, r3, r4, r5⟩ := arange_sound (P := P) hr h (hE x)
    exact ⟨.value v', γ', by simp [execOp, r1], r5, r2, r3, r4⟩
  case entry x => exact quietM (fun v hv => aentry_sound hr hv (hE x)) h
  case typeAssert x xt t ok => exact quietM (fun v hv => atassert_sound hv (hE x)) h
  case call c =>
    obtain ⟨callee, args, argTypes⟩ := c
    cases callee <;> simp only [reduceCtorEq] at h
    rename_i b
    have hargs : args.toList.map a.eval = (args.map a.eval).toList := by simp
    have hx : execOp a.eval ⟨dst, .call ⟨.builtin b, args, argTypes⟩, type, pos, after, guard⟩ = builtin b argTypes type (args.map fun | .const _ => true | _ => false) (args.map a.eval) := rfl
    cases b <;> simp only [abuiltin, reduceCtorEq] at h
    case len =>
      split at h
      · rename_i t x h1 h2
        obtain ⟨o1, ho1, hx1⟩ : ∃ o1, args.toList = [o1] ∧ ev env o1 = x := by
          cases hl : args.toList with
          | nil => rw [hl] at h2; simp at h2
          | cons y l => cases l with
            | nil => rw [hl] at h2; simp at h2; exact ⟨y, rfl, h2⟩
            | cons => rw [hl] at h2; simp at h2
        have e1 : args = #[o1] := by rw [← Array.toArray_toList (xs := args), ho1]
        have e2 : argTypes = #[t] := by rw [← Array.toArray_toList (xs := argTypes), h1]
        subst e1 e2 hx1
        obtain ⟨z, hz, hzm⟩ := Option.map_eq_some_iff.1 h
        cases hzm
        obtain ⟨v', r1, r2⟩ := alen_sound (P := P) (ty := type) hr hz (hE o1)
        exact ⟨.value v', γ, by rw [hx]; simp [builtin, r1], r2, Ext.refl γ, hr, rfl⟩
      · cases h
    case append =>
      split at h
      · rename_i t t2 s x h1 h2
        obtain ⟨o1, o2, ho1, hx1, hx2⟩ : ∃ o1 o2, args.toList = [o1, o2] ∧ ev env o1 = s ∧ ev env o2 = x := by
          cases hl : args.toList with
          | nil => rw [hl] at h2; simp at h2
          | cons y l => cases l with
            | nil => rw [hl] at h2; simp at h2
            | cons z l => cases l with
              | nil => rw [hl] at h2; simp at h2; exact ⟨y, z, rfl, h2.1, h2.2⟩
              | cons => rw [hl] at h2; simp at h2
        have e1 : args = #[o1, o2] := by rw [← Array.toArray_toList (xs := args), ho1]
        have e2 : argTypes = #[t, t2] := by rw [← Array.toArray_toList (xs := argTypes), h1]
        subst e1 e2 hx1 hx2
        obtain ⟨v', γ', r1, r2, r3, r4, r5⟩ : ∃ v' γ', (Builtin.append_ #[t, t2] type #[a.eval o1, a.eval o2]).run P γ.w = .ok v' γ'.w ∧ Ext γ γ' ∧ Rl γ' ∧ γ'.S = m' ∧ VR γ'.cx v v' := by
          cases mu with
          | true => exact amapp_sound (P := P) (ty := type) hr h (hE o1) (hE o2)
          | false => exact aappend_sound (P := P) (ty := type) hr h (hE o1) (hE o2)
        exact ⟨.value v', γ', by rw [hx]; simp [builtin, r1], r5, r2, r3, r4⟩
      · cases h
    case cap =>
      split at h
      · rename_i t x h1 h2
        obtain ⟨o1, ho1, hx1⟩ : ∃ o1, args.toList = [o1] ∧ ev env o1 = x := by
          cases hl : args.toList with
          | nil => rw [hl] at h2; simp at h2
          | cons y l => cases l with
            | nil => rw [hl] at h2; simp at h2; exact ⟨y, rfl, h2⟩
            | cons => rw [hl] at h2; simp at h2
        have e1 : args = #[o1] := by rw [← Array.toArray_toList (xs := args), ho1]
        have e2 : argTypes = #[t] := by rw [← Array.toArray_toList (xs := argTypes), h1]
        subst e1 e2 hx1
        obtain ⟨z, hz, hzm⟩ := Option.map_eq_some_iff.1 h
        cases hzm
        obtain ⟨v', r1, r2⟩ := acap_sound (P := P) (ty := type) hz (hE o1)
        exact ⟨.value v', γ, by rw [hx]; simp [builtin, r1], r2, Ext.refl γ, hr, rfl⟩
      · cases h
    case unsafeSliceData =>
      split at h
      · rename_i x h2
        obtain ⟨o1, ho1, hx1⟩ : ∃ o1, args.toList = [o1] ∧ ev env o1 = x := by
          cases hl : args.toList with
          | nil => rw [hl] at h2; simp at h2
          | cons y l => cases l with
            | nil => rw [hl] at h2; simp at h2; exact ⟨y, rfl, h2⟩
            | cons => rw [hl] at h2; simp at h2
        have e1 : args = #[o1] := by rw [← Array.toArray_toList (xs := args), ho1]
        subst e1 hx1
        obtain ⟨z, hz, hzm⟩ := Option.map_eq_some_iff.1 h
        cases hzm
        obtain ⟨v', r1, r2⟩ := adata_sound (P := P) (ts := argTypes) (ty := type) hz (hE o1)
        exact ⟨.value v', γ, by rw [hx]; simp [builtin, r1], r2, Ext.refl γ, hr, rfl⟩
      · cases h
    case copy =>
      split at h
      · rename_i t t2 s x h1 h2
        obtain ⟨o1, o2, ho1, hx1, hx2⟩ : ∃ o1 o2, args.toList = [o1, o2] ∧ ev env o1 = s ∧ ev env o2 = x := by
          cases hl : args.toList with
          | nil => rw [hl] at h2; simp at h2
          | cons y l => cases l with
            | nil => rw [hl] at h2; simp at h2
            | cons z l => cases l with
              | nil => rw [hl] at h2; simp at h2; exact ⟨y, z, rfl, h2.1, h2.2⟩
              | cons => rw [hl] at h2; simp at h2
        have e1 : args = #[o1, o2] := by rw [← Array.toArray_toList (xs := args), ho1]
        have e2 : argTypes = #[t, t2] := by rw [← Array.toArray_toList (xs := argTypes), h1]
        subst e1 e2 hx1 hx2
        obtain ⟨v', γ', r1, r2, r3, r4, r5⟩ := acopy_sound (P := P) (t2 := t2) (ty := type) hr h (hE o1) (hE o2)
        exact ⟨.value v', γ', by rw [hx]; simp [builtin, r1], r5, r2, r3, r4⟩
      · cases h
    case delete =>
      split at h
      · rename_i t t2 s x h1 h2
        obtain ⟨o1, o2, ho1, hx1, hx2⟩ : ∃ o1 o2, args.toList = [o1, o2] ∧ ev env o1 = s ∧ ev env o2 = x := by
          cases hl : args.toList with
          | nil => rw [hl] at h2; simp at h2
          | cons y l => cases l with
            | nil => rw [hl] at h2; simp at h2
            | cons z l => cases l with
              | nil => rw [hl] at h2; simp at h2; exact ⟨y, z, rfl, h2.1, h2.2⟩
              | cons => rw [hl] at h2; simp at h2
        have e1 : args = #[o1, o2] := by rw [← Array.toArray_toList (xs := args), ho1]
        have e2 : argTypes = #[t, t2] := by rw [← Array.toArray_toList (xs := argTypes), h1]
        subst e1 e2 hx1 hx2
        obtain ⟨v', γ', r1, r2, r3, r4, r5⟩ := adelete_sound (P := P) (t2 := t2) (ty := type) hr h (hE o1) (hE o2)
        exact ⟨.value v', γ', by rw [hx]; simp [builtin, r1], r5, r2, r3, r4⟩
      · cases h
    case unsafeString =>
      split at h
      · rename_i t t2 s x h1 h2
        obtain ⟨o1, o2, ho1, hx1, hx2⟩ : ∃ o1 o2, args.toList = [o1, o2] ∧ ev env o1 = s ∧ ev env o2 = x := by
          cases hl : args.toList with
          | nil => rw [hl] at h2; simp at h2
          | cons y l => cases l with
            | nil => rw [hl] at h2; simp at h2
            | cons z l => cases l with
              | nil => rw [hl] at h2; simp at h2; exact ⟨y, z, rfl, h2.1, h2.2⟩
              | cons => rw [hl] at h2; simp at h2
        have e1 : args = #[o1, o2] := by rw [← Array.toArray_toList (xs := args), ho1]
        have e2 : argTypes = #[t, t2] := by rw [← Array.toArray_toList (xs := argTypes), h1]
        subst e1 e2 hx1 hx2
        obtain ⟨z, hz, hzm⟩ := Option.map_eq_some_iff.1 h
        cases hzm
        obtain ⟨v', γ', r1, r2, r3, r4, r5⟩ := austr_sound (P := P) (it := t2) (ty := type) hr hz (hE o1) (hE o2)
        exact ⟨.value v', γ', by rw [hx]; simp [builtin, r1], r5, r2, r3, r4⟩
      · cases h
    case max =>
      split at h
      · rename_i k x k' y h2
        obtain ⟨o1, o2, ho1, hx1, hx2⟩ : ∃ o1 o2, args.toList = [o1, o2] ∧ ev env o1 = .int k x ∧ ev env o2 = .int k' y := by
          cases hl : args.toList with
          | nil => rw [hl] at h2; simp at h2
          | cons y l => cases l with
            | nil => rw [hl] at h2; simp at h2
            | cons z l => cases l with
              | nil => rw [hl] at h2; simp at h2; exact ⟨y, z, rfl, h2.1, h2.2⟩
              | cons => rw [hl] at h2; simp at h2
        have e1 : args = #[o1, o2] := by rw [← Array.toArray_toList (xs := args), ho1]
        subst e1
        cases h
        have v1 := hE o1
        have v2 := hE o2
        rw [hx1] at v1; rw [hx2] at v2
        cases q1 : a.eval o1 <;> rw [q1] at v1 <;> cases v1
        cases q2 : a.eval o2 <;> rw [q2] at v2 <;> cases v2
        exact ⟨.value (.int k (imax x y)), γ, by rw [hx]; simp [builtin, q1, q2, run_max_int2, imax], .int _ _, Ext.refl γ, hr, rfl⟩
      · cases h
    case min =>
      split at h
      · rename_i k x k' y h2
        obtain ⟨o1, o2, ho1, hx1, hx2⟩ : ∃ o1 o2, args.toList = [o1, o2] ∧ ev env o1 = .int k x ∧ ev env o2 = .int k' y := by
          cases hl : args.toList with
          | nil => rw [hl] at h2; simp at h2
          | cons y l => cases l with
            | nil => rw [hl] at h2; simp at h2
            | cons z l => cases l with
              | nil => rw [hl] at h2; simp at h2; exact ⟨y, z, rfl, h2.1, h2.2⟩
              | cons => rw [hl] at h2; simp at h2
        have e1 : args = #[o1, o2] := by rw [← Array.toArray_toList (xs := args), ho1]
        subst e1
        cases h
        have v1 := hE o1
        have v2 := hE o2
        rw [hx1] at v1; rw [hx2] at v2
        cases q1 : a.eval o1 <;> rw [q1] at v1 <;> cases v1
        cases q2 : a.eval o2 <;> rw [q2] at v2 <;> cases v2
        exact ⟨.value (.int k (imin x y)), γ, by rw [hx]; simp [builtin, q1, q2, run_min_int2, imin], .int _ _, Ext.refl γ, hr, rfl⟩
      · cases h
end

end Go.Hk
