/- Tokens: what may be appended to; the built-in append. -/
import Derived.Test.YtojahfdjfacgaaaHkQ06
namespace Go.Hk
open Go.RowKit

theorem frozen_high {w : World} {g o : Nat} {arr : Array Value} {ty : TypeId} {lo hi : Nat} (hg : w.heap[g]? = some (.cells arr ty (lo, hi))) (h : hi ≤ o) : w.frozen? ⟨g, o, none⟩ = false := by
  simp only [World.frozen?, hg]
  simp; omega

theorem heap_setCell_fr (w : World) (g i : Nat) (cs : Array Value) (t : TypeId) (fr : Nat × Nat) (v : Value) (hg : w.heap[g]? = some (.cells cs t fr)) :
    (w.setCell ⟨g, i, none⟩ v).heap[g]? = some (.cells (cs.setIfInBounds i v) t fr) := by
  simp only [World.setCell, Array.getElem?_modify, if_true, hg]
  simp

/-- Cells stored into a row behind what a string shares. -/
theorem run_storeRow {P : Program} {g ty lo hi : Nat} {o : Nat} : ∀ (vs : List Value) (w : World) (i : Nat) (arr : Array Value), w.heap[g]? = some (.cells arr ty (lo, hi)) → hi ≤ o + i → o + i + vs.length ≤ arr.size → (∀ v ∈ vs, v.oneCell' = true) →
    ∃ w' arr', (storeCells ⟨g, o, none⟩ vs i).run P w = .ok () w' ∧ w'.heap[g]? = some (.cells arr' ty (lo, hi)) ∧ arr'.size = arr.size ∧ (∀ j, j < vs.length → arr'.getD (o + i + j) undef = vs.getD j undef) ∧
      (∀ j, j < o + i → arr'.getD j undef = arr.getD j undef) ∧ (∀ k, k ≠ g → w'.heap[k]? = w.heap[k]?) ∧ w'.heap.size = w.heap.size ∧ w'.os = w.os ∧ w'.tape = w.tape ∧ w'.output = w.output
  | [], w, i, arr, hg, _, _, _ => ⟨w, arr, rfl, hg, rfl, fun j hj => absurd hj (Nat.not_lt_zero j), fun _ _ => rfl, fun _ _ => rfl, rfl, rfl, rfl, rfl⟩
  | v :: vs, w, i, arr, hg, hhi, hle, h1 => by
    simp only [List.length_cons] at hle
    have h10 : v.oneCell' = true := h1 v (by simp)
    have hs : (Go.store ⟨g, o + i, none⟩ v).run P w = .ok () (w.setCell ⟨g, o + i, none⟩ v) := by
      rw [run_store P w _ v _ h10, cell_of_row w g _ arr ty (lo, hi) hg, Array.getElem?_eq_getElem (by omega)]
      simp [frozen_high hg hhi]
    obtain ⟨w', arr', e1, e2, e3, e4, e5, e6, e7, e8, e9, e10⟩ := run_storeRow (P := P) (o := o) vs (w.setCell ⟨g, o + i, none⟩ v) (i + 1) (arr.setIfInBounds (o + i) v) (heap_setCell_fr w g _ arr ty _ v hg) (by omega) (by simp; omega) (fun u hu => h1 u (by simp [hu]))
    refine ⟨w', arr', ?_, e2, by simpa using e3, fun j hj => ?_, fun j hj => ?_, fun k hk => (e6 k hk).trans (heap_setCell_other w ⟨g, o + i, none⟩ k v hk), by simpa using e7, e8, e9, e10⟩
    · simp only [storeCells, Sem.run_bind, Addr.add_lit, hs, Result.andThen_ok]
      exact e1
    · cases j with
      | zero =>
        have := e5 (o + i) (by omega)
        simp only [Nat.add_zero]
        rw [this]
        have hlt : o + i < arr.size := by omega
        simp [Array.getD, hlt]
      | succ j =>
        have := e4 j (by simpa using hj)
        rw [show o + i + (j + 1) = o + (i + 1) + j by omega, this]
        simp
    · rw [e5 j (by omega)]
      simp only [Array.getD_eq_getD_getElem?, Array.getElem?_setIfInBounds_ne (show o + i ≠ j by omega)]

/-- A token is laid, or goes on. -/
def Ghost.tok (γ : Ghost) (t : Nat) (T' : List (Nat × (Nat × Nat))) (base : Option Nat) (cap : Nat) (w' : World) : Ghost :=
  { γ with S := { γ.S with T := T' }, ι := { γ.ι with tb := fun x => if x = t then base else γ.ι.tb x, tc := fun x => if x = t then cap else γ.ι.tc x }, w := w' }

/-- What is asked of a step that turns token t alone. -/
structure TokStep (γ : Ghost) (t : Nat) (T' : List (Nat × (Nat × Nat))) (tp : Nat) (sz : Nat × Nat) (base : Option Nat) (cap : Nat) (w' : World) : Prop where
  os : w'.os = γ.w.os
  tape : w'.tape = γ.w.tape
  output : w'.output = γ.w.output
  size : γ.w.heap.size ≤ w'.heap.size
  at_ : T'[t]? = some (tp, sz)
  other : ∀ x, x ≠ t → T'[x]? = γ.S.T[x]?
  old : ∀ tp0 sz0, γ.S.T[t]? = some (tp0, sz0) → sz0 = sz ∧ tp0 ≤ tp ∧ (tp0 = tp → base = γ.ι.tb t ∧ cap = γ.ι.tc t)
  block : ∀ k, k < γ.w.heap.size → ¬ γ.tokOwns t k → w'.heap[k]? = γ.w.heap[k]?
  low : ∀ k tp0 sz0 o, γ.tokOwns t k → γ.S.T[t]? = some (tp0, sz0) → o < tp0 → w'.cell? ⟨k, o, none⟩ = γ.w.cell? ⟨k, o, none⟩
  new : ∀ g, base = some g → tp < cap * sz.1 → (γ.tokOwns t g ∨ γ.w.heap.size ≤ g) ∧ g < w'.heap.size ∧ ∃ arr lo hi, w'.heap[g]? = some (.cells arr sz.2 (lo, hi)) ∧ cap * sz.1 ≤ arr.size ∧ hi ≤ tp
  typed : 0 < tp → ∀ g, base = some g → γ.lo ≤ g ∧ ∃ arr fz, w'.heap[g]? = some (.cells arr sz.2 fz) ∧ 0 ≤ arr.size
  tys : ∀ k arr ty fz, γ.tokOwns t k → γ.w.heap[k]? = some (.cells arr ty fz) → ∃ arr' fz', w'.heap[k]? = some (.cells arr' ty fz') ∧ arr.size ≤ arr'.size

section tok
variable {γ : Ghost} {t : Nat} {T' : List (Nat × (Nat × Nat))} {tp : Nat} {sz : Nat × Nat} {base : Option Nat} {cap : Nat} {w' : World}

theorem tok_owns_other {x g : Nat} (h : TokStep γ t T' tp sz base cap w') (hx : x ≠ t) : (γ.tok t T' base cap w').tokOwns x g ↔ γ.tokOwns x g := by
  simp only [Ghost.tokOwns, Ghost.tok, h.other x hx, if_neg hx]

theorem tok_owns_self {g : Nat} (h : TokStep γ t T' tp sz base cap w') : (γ.tok t T' base cap w').tokOwns t g ↔ base = some g ∧ tp < cap * sz.1 := by
  simp only [Ghost.tokOwns, Ghost.tok, h.at_, if_pos]
  constructor
  · rintro ⟨a, b, h1, h2, h3⟩
    cases h1
    exact ⟨h2, h3⟩
  · rintro ⟨h1, h2⟩
    exact ⟨tp, sz, rfl, h1, h2⟩

theorem own_tok (h : TokStep γ t T' tp sz base cap w') {g : Nat} {ty : TypeId} {n : Nat} (ho : γ.own g ty n) : (γ.tok t T' base cap w').own g ty n :=
  own_of (γ := γ) (γ' := γ.tok t T' base cap w') rfl (fun g arr ty fz hg => by
    by_cases hk : γ.tokOwns t g
    · exact h.tys g arr ty fz hk hg
    · exact ⟨arr, fz, (h.block g (heap_lt hg) hk).trans hg, Nat.le_refl _⟩) ho
theorem ext_tok (h : TokStep γ t T' tp sz base cap w') : Ext γ (γ.tok t T' base cap w') where
  bad := rfl
  lo := rfl
  size := h.size
  os := h.os
  tape := h.tape
  output := h.output
  cell := fun g o v hc => by
    have hlt := cell_lt hc.1
    simp only at hlt
    refine ⟨?_, hc.2.1, hc.2.2.1, hc.2.2.2.1, fun x hx => ?_⟩
    · show w'.cell? _ = _
      by_cases ho : γ.tokOwns t g
      · obtain ⟨tp0, sz0, h1, h2⟩ := hc.2.2.2.2 t ho
        rw [h.low g tp0 sz0 o ho h1 h2]
        exact hc.1
      · rw [World.cell?_of_block (w := γ.w) (h.block g hlt ho)]
        exact hc.1
    · by_cases hxt : x = t
      · subst hxt
        obtain ⟨hb, hl⟩ := (tok_owns_self h).1 hx
        refine ⟨tp, sz, h.at_, ?_⟩
        rcases (h.new g hb hl).1 with ho | ho
        · obtain ⟨tp0, sz0, h1, h2⟩ := hc.2.2.2.2 x ho
          have := (h.old tp0 sz0 h1).2.1
          omega
        · omega
      · obtain ⟨tp0, sz0, h1, h2⟩ := hc.2.2.2.2 x ((tok_owns_other h hxt).1 hx)
        exact ⟨tp0, sz0, (h.other x hxt).trans h1, h2⟩
  blk := fun _ _ _ _ hb => hb
  tip := fun x len b c ⟨tp0, sz0, h1, h2, h3, h9⟩ => by
    by_cases hxt : x = t
    · subst hxt
      obtain ⟨rfl, h5, h6⟩ := h.old tp0 sz0 h1
      refine ⟨tp, sz0, h.at_, by omega, fun he => ?_, fun hl g hg => own_tok h (h9 hl g hg)⟩
      obtain ⟨k1, k2⟩ := h6 (by omega)
      obtain ⟨k3, k4⟩ := h3 (by omega)
      exact ⟨by show (if x = x then _ else _) = _; rw [if_pos rfl, k1, k3], by show (if x = x then _ else _) = _; rw [if_pos rfl, k2, k4]⟩
    · refine ⟨tp0, sz0, (h.other x hxt).trans h1, h2, fun he => ?_, fun hl g hg => own_tok h (h9 hl g hg)⟩
      obtain ⟨k3, k4⟩ := h3 he
      exact ⟨by show (if x = t then _ else _) = _; rw [if_neg hxt, k3], by show (if x = t then _ else _) = _; rw [if_neg hxt, k4]⟩
  own := fun _ _ _ => own_tok h
  frame := fun k hk ho => .inl (h.block k hk fun hx => ho (.inr ⟨t, hx⟩))
  owns := fun k hk => by
    rcases hk with hk | ⟨x, hx⟩
    · exact .inl (.inl hk)
    · by_cases hxt : x = t
      · subst hxt
        obtain ⟨hb, hl⟩ := (tok_owns_self h).1 hx
        rcases (h.new k hb hl).1 with ho | ho
        · exact .inl (.inr ⟨x, ho⟩)
        · exact .inr ho
      · exact .inl (.inr ⟨x, (tok_owns_other h hxt).1 hx⟩)

theorem rl_tok (hr : Rl γ) (h : TokStep γ t T' tp sz base cap w') : Rl (γ.tok t T' base cap w') where
  lo := Nat.le_trans hr.lo h.size
  bad := hr.bad
  objs := fun b x hb => by
    obtain ⟨o, k1, k2⟩ := hr.objs b x hb
    exact ⟨o, (h.block _ (hr.inw hb).2 (hr.net hb)).trans k1, k2.mono (ext_tok h).le⟩
  its := fun b mb left cur hb => by
    obtain ⟨es, en, clk, since, seen, c0, g1, g2, g3, g4⟩ := hr.its b mb left cur hb
    exact ⟨es, en, clk, since, seen, c0, g1, (h.block _ (hr.inw hb).2 (hr.net hb)).trans g2, (h.block _ (hr.inw g1).2 (hr.net g1)).trans g3, g4.mono (ext_tok h).le⟩
  toks := fun x g hx => by
    by_cases hxt : x = t
    · subst hxt
      obtain ⟨hb, hl⟩ := (tok_owns_self h).1 hx
      obtain ⟨_, _, arr, lo, hi, a1, a2, a3⟩ := h.new g hb hl
      refine ⟨arr, lo, hi, tp, sz, a1, h.at_, ?_, a3⟩
      show (if x = x then _ else _) * _ ≤ _
      rw [if_pos rfl]
      exact a2
    · have hx' := (tok_owns_other h hxt).1 hx
      obtain ⟨arr, lo, hi, tp0, sz0, a1, a2, a3, a4⟩ := hr.toks x g hx'
      refine ⟨arr, lo, hi, tp0, sz0, (h.block g (hr.own g (.inr ⟨x, hx'⟩)).2 fun ho => hxt (hr.tt x t g hx' ho)).trans a1, (h.other x hxt).trans a2, ?_, a4⟩
      show (if x = t then _ else _) * _ ≤ _
      rw [if_neg hxt]
      exact a3
  own := fun g hg => by
    rcases hg with ⟨b, hb⟩ | ⟨x, hx⟩
    · have := hr.own g (.inl ⟨b, hb⟩)
      exact ⟨this.1, Nat.lt_of_lt_of_le this.2 h.size⟩
    · by_cases hxt : x = t
      · subst hxt
        obtain ⟨hb, hl⟩ := (tok_owns_self h).1 hx
        obtain ⟨h1, h2, _⟩ := h.new g hb hl
        rcases h1 with h1 | h1
        · exact ⟨(hr.own g (.inr ⟨x, h1⟩)).1, h2⟩
        · exact ⟨Nat.le_trans hr.lo h1, h2⟩
      · have := hr.own g (.inr ⟨x, (tok_owns_other h hxt).1 hx⟩)
        exact ⟨this.1, Nat.lt_of_lt_of_le this.2 h.size⟩
  hh := hr.hh
  ht := fun b x g hb hx => by
    by_cases hxt : x = t
    · subst hxt
      obtain ⟨hb', hl⟩ := (tok_owns_self h).1 hx
      rcases (h.new g hb' hl).1 with h1 | h1
      · exact hr.ht b x g hb h1
      · have := (hr.own g (.inl ⟨b, hb⟩)).2; omega
    · exact hr.ht b x g hb ((tok_owns_other h hxt).1 hx)
  tt := fun x y g hx hy => by
    by_cases hxt : x = t
    · by_cases hyt : y = t
      · omega
      · subst hxt
        obtain ⟨hb', hl⟩ := (tok_owns_self h).1 hx
        have hy' := (tok_owns_other h hyt).1 hy
        rcases (h.new g hb' hl).1 with h1 | h1
        · exact hr.tt _ _ g h1 hy'
        · have := (hr.own g (.inr ⟨y, hy'⟩)).2; omega
    · have hx' := (tok_owns_other h hxt).1 hx
      by_cases hyt : y = t
      · subst hyt
        obtain ⟨hb', hl⟩ := (tok_owns_self h).1 hy
        rcases (h.new g hb' hl).1 with h1 | h1
        · exact hr.tt _ _ g hx' h1
        · have := (hr.own g (.inr ⟨x, hx'⟩)).2; omega
      · exact hr.tt _ _ g hx' ((tok_owns_other h hyt).1 hy)
end tok

/-! ### append -/

def okR (T : List (Nat × (Nat × Nat))) (r : Rt) (len : Nat) (sz : Nat × Nat) : Bool :=
  match r with
  | .no => false
  | .full => true
  | .nil => true
  | .tok t => T[t]? == some (len, sz)
def nxR (T : List (Nat × (Nat × Nat))) (r : Rt) : Rt :=
  match r with
  | .tok t => .tok t
  | _ => .tok T.length
def nxT (T : List (Nat × (Nat × Nat))) (r : Rt) (len : Nat) (sz : Nat × Nat) : List (Nat × (Nat × Nat)) :=
  match r with
  | .tok t => T.set t (len, sz)
  | _ => T ++ [(len, sz)]

/-- What a second operand of append bears: how many elements, and their cells. -/
def alist (m : AMem) : AVal → Option (Nat × List AVal)
  | .sl _ n cs => some (n, cs)
  | .str s => some (s.length, s.map fun c => .int .u8 c.toNat)
  | .msl b e o n k => (match m.H[b]? with
    | some (.cells e' cs) => if e = e' ∧ o + k ≤ cs.length then some (n, (cs.drop o).take k) else none
    | _ => none)
  | _ => none

structure AppT where
  e : TypeId
  size : Nat
  bytes : Nat

def appT (P : Program) (t t2 : TypeId) : Option AppT :=
  match tiOf P t, tiOf P t2 with
  | some I, some J => (match I.k, J.k with
    | .slice e, .slice _ => (match tiOf P e with
      | some E => (match E.zero.bind cellsOf with
        | some zs => if 0 < E.size ∧ zs.length = E.size then some ⟨e, E.size, E.bytes⟩ else none
        | none => none)
      | none => none)
    | .slice e, .str => (match tiOf P e with
      | some E => (match E.zero.bind cellsOf with
        | some zs => if 0 < E.size ∧ zs.length = E.size then some ⟨e, E.size, E.bytes⟩ else none
        | none => none)
      | none => none)
    | _, _ => none)
  | _, _ => none

def aappend (P : Program) (t t2 : TypeId) (m : AMem) (s x : AVal) : Option (AVal × AMem) :=
  match appT P t t2 with
  | some A => (match alist m x with
    | some (k, ds) => (match s with
      | .sl r n cs =>
        if ds.length = k * A.size ∧ cs.length = n * A.size ∧ (n + k) * A.bytes ≤ 140737488355328 ∧ n + k ≤ 4611686018427387903 ∧ okR m.T r cs.length (A.size, A.e) = true ∧ (r = .full → n = 0 ∨ 0 < k) then
          some (.sl (nxR m.T r) (n + k) (cs ++ ds), { m with T := nxT m.T r (cs.length + ds.length) (A.size, A.e) })
        else none
      | _ => none)
    | none => none)
  | none => none

def optStore (base : Option Addr) (n : Nat) (news : List Value) : Sem Unit :=
  match base with
  | some a => storeCells (a.add n) news
  | none => pure ()

/-- The machine's append: in the row, or into a new one. -/
theorem run_append_two {P : Program} {w : World} {t t2 ty e : TypeId} {i : TypeInfo} {d2 : TypeDesc} {z : Value} (ht : P.underlying t = some (.slice e)) (ht2 : P.underlying t2 = some d2) (hd2 : d2 = .string ∨ ∃ e2, d2 = .slice e2) (hi : P.info? e = some i) (hz : i.zero = some z)
    {base : Option Addr} {n cap k : Nat} {x : Value} {olds news : List Value}
    (hlen : ∀ w', (Builtin.lenOf x).run P w' = .ok k w')
    (hnew : ∀ w' : World, w'.heap = w.heap → (Builtin.firstCells i.size k x).run P w' = .ok news.toArray w')
    (hold : ∀ w' : World, w'.heap = w.heap → (Builtin.firstCells i.size n (.slice base n cap)).run P w' = .ok olds.toArray w')
    (hby : (n + k) * i.bytes ≤ 140737488355328) (hle : n + k ≤ 4611686018427387903) :
    (n + k ≤ cap → (Builtin.append_ #[t, t2] ty #[.slice base n cap, x]).run P w =
      ((optStore base (n * i.size) news).run P w).andThen fun _ w' => .ok (.slice base (n + k) cap) w') ∧
    (cap < n + k → (Builtin.append_ #[t, t2] ty #[.slice base n cap, x]).run P w =
      .ok (.slice (some ⟨w.heap.size, 0, none⟩) (n + k) (grownCap w (n + k) cap e)) (w.drew.alloc (.cells ((olds ++ news).toArray ++ Builtin.zeroCells z.cells (grownCap w (n + k) cap e - (n + k))) e))) := by
  refine ⟨fun h => ?_, fun h => ?_⟩
  · have e1 := hnew w rfl
    have e0 := hlen w
    rcases hd2 with rfl | ⟨e2, rfl⟩ <;> cases base <;> simp [Builtin.append_, run_underlying ht, run_underlying ht2, sizeOf, typeInfo, hi, e0, h, e1, optStore]
  · have h1 : ¬ (n + k ≤ cap) := by omega
    have h63 : ¬ (9223372036854775807 < ((n : Int) + (k : Int))) := by omega
    have h48 : ¬ (281474976710656 < Builtin.nextslicecap (n + k) cap * i.bytes) := by have := growslice_fits h hby; omega
    have e0 := hlen w
    have e1 := hnew w.drew rfl
    have e3 := hold w.drew rfl
    rcases hd2 with rfl | ⟨e2, rfl⟩ <;> simp [Builtin.append_, run_underlying ht, run_underlying ht2, sizeOf, typeInfo, zeroValue, hi, hz, e0, h1, h63, h48, Question.forced, e1, e3, newRow, grownCap] <;>
      (congr 2; apply Array.ext'; simp [List.append_assoc])

/-- What a slice bears, read off the machine's memory. -/
theorem read_alist {P : Program} {γ : Ghost} (hr : Rl γ) {x : AVal} {u : Value} {k size : Nat} {ds : List AVal} (hx : VR γ.cx x u) (h : alist γ.S x = some (k, ds)) (hl : ds.length = k * size) :
    ∃ news : List Value, news.length = ds.length ∧ (∀ (j : Nat) (h : j < ds.length), VR γ.cx (ds[j]) (news.getD j undef)) ∧ (∀ v ∈ news, v.oneCell' = true) ∧
      (∀ w', (Builtin.lenOf u).run P w' = .ok k w') ∧ ∀ w' : World, w'.heap = γ.w.heap → (Builtin.firstCells size k u).run P w' = .ok news.toArray w' := by
  have cells : ∀ (g o n cap : Nat) (f : Nat → Value) (cs : List AVal), cs.length = n * size → (∀ j, j < cs.length → γ.w.cell? ⟨g, o + j, none⟩ = some (f j) ∧ (f j).oneCell' = true) → (∀ (j : Nat) (h : j < cs.length), VR γ.cx (cs[j]) (f j)) →
      ∃ news : List Value, news.length = cs.length ∧ (∀ (j : Nat) (h : j < cs.length), VR γ.cx (cs[j]) (news.getD j undef)) ∧ (∀ v ∈ news, v.oneCell' = true) ∧
        ∀ w' : World, w'.heap = γ.w.heap → (Builtin.firstCells size n (.slice (some ⟨g, o, none⟩) n cap)).run P w' = .ok news.toArray w' := by
    intro g o n cap f cs hl hc hv
    refine ⟨(List.range cs.length).map f, by simp, fun j hj => by simpa [List.getD_eq_getElem?_getD, hj] using hv j hj, fun v hv' => ?_, fun w' hw' => ?_⟩
    · obtain ⟨j, hj, rfl⟩ := List.mem_map.1 hv'
      exact (hc j (by simpa using hj)).2
    · have := run_loadCells (P := P) w' ⟨g, o, none⟩ (n * size) f (fun j hj => by
        rw [Addr.add_lit]
        have := (hc j (by omega)).1
        simpa [World.cell?, hw'] using this)
      simp only [Builtin.firstCells, this, hl]
  cases x <;> simp only [alist, reduceCtorEq] at h
  case str s =>
    simp only [Option.some.injEq, Prod.mk.injEq] at h
    obtain ⟨rfl, rfl⟩ := h
    cases hx
    refine ⟨s.map fun c => .int .u8 c.toNat, by simp, fun j hj => ?_, fun v hv => ?_, fun w' => ?_, fun w' _ => ?_⟩
    · have hj' : j < s.length := by simpa using hj
      simp only [List.getElem_map, List.getD_eq_getElem?_getD, List.getElem?_map, List.getElem?_eq_getElem hj', Option.map_some, Option.getD_some]
      exact .int _ _
    · obtain ⟨c, _, rfl⟩ := List.mem_map.1 hv
      rfl
    · simp [Builtin.lenOf, ByteArray.size]
    · have : (ByteArray.mk s.toArray).extract 0 s.length = ByteArray.mk s.toArray := by rw [extract_str]; simp
      simp [Builtin.firstCells, this]
  case sl r n cs =>
    simp only [Option.some.injEq, Prod.mk.injEq] at h
    obtain ⟨rfl, rfl⟩ := h
    cases hx with
    | slnil => exact ⟨[], rfl, fun j hj => absurd hj (Nat.not_lt_zero j), fun v hv => absurd hv (by simp), fun w' => by simp [Builtin.lenOf], fun w' _ => by simp [Builtin.firstCells]⟩
    | slz => exact ⟨[], rfl, fun j hj => absurd hj (Nat.not_lt_zero j), fun v hv => absurd hv (by simp), fun w' => by simp [Builtin.lenOf], fun w' _ => by simp [Builtin.firstCells, loadCells, loadCellsFrom]⟩
    | sl _ _ _ g o cap f hn hc hv hrr =>
      obtain ⟨news, a1, a2, a3, a4⟩ := cells g o n cap f cs hl (fun j hj => ⟨(hc j hj).1, (hc j hj).2.1⟩) hv
      exact ⟨news, a1, a2, a3, fun w' => by simp [Builtin.lenOf], a4⟩
  case msl b e o n k' =>
    cases hb : γ.S.H[b]? with
    | none => simp [hb] at h
    | some y =>
      cases y with
      | amap es => simp [hb] at h
      | iter _ _ _ => simp [hb] at h
      | loop _ _ _ _ _ _ _ => simp [hb] at h
      | cells e' cs =>
        simp only [hb] at h
        split at h
        · rename_i hcond
          obtain ⟨rfl, hle⟩ := hcond
          simp only [Option.some.injEq, Prod.mk.injEq] at h
          obtain ⟨rfl, rfl⟩ := h
          obtain ⟨arr, ty, hh, hlen, _, hv, ho⟩ := hr.cells b e cs hb
          cases hx with
          | msl _ _ _ _ _ g c cap hblk hn hoo =>
            obtain ⟨y, hy, _, hy2⟩ := hblk
            rw [hb] at hy
            cases hy
            obtain ⟨rfl, _⟩ := hy2 rfl
            obtain ⟨news, a1, a2, a3, a4⟩ := cells (γ.ι.h b) o n cap (fun j => arr.getD (o + j) undef) ((cs.drop o).take k') hl (fun j hj => by
              simp only [List.length_take, List.length_drop] at hj
              rw [cell_of_row _ _ _ _ _ _ hh]
              have : o + j < arr.size := by omega
              exact ⟨by simp [Array.getD, this], ho _ (by omega)⟩) (fun j hj => by
              simp only [List.length_take, List.length_drop] at hj
              simp only [List.getElem_take, List.getElem_drop]
              exact hv _ (by omega))
            exact ⟨news, a1, a2, a3, fun w' => by simp [Builtin.lenOf], a4⟩
        · cases h

theorem appT_spec {P : Program} {t t2 : TypeId} {A : AppT} (h : appT P t t2 = some A) :
    ∃ d2 i z, P.underlying t = some (.slice A.e) ∧ P.underlying t2 = some d2 ∧ (d2 = .string ∨ ∃ e2, d2 = .slice e2) ∧ P.info? A.e = some i ∧ i.size = A.size ∧ i.bytes = A.bytes ∧ i.zero = some z ∧ z.cells.size = A.size ∧ 0 < A.size := by
  unfold appT at h
  cases hI : tiOf P t with
  | none => simp [hI] at h
  | some I =>
    cases hJ : tiOf P t2 with
    | none => simp [hI, hJ] at h
    | some J =>
      simp only [hI, hJ] at h
      obtain ⟨i1, d1, h1⟩ := tiOf_spec hI
      obtain ⟨i2, d2, h2⟩ := tiOf_spec hJ
      have k1 := h1.k
      have k2 := h2.k
      have fin : ∀ e, d1 = .slice e → (d2 = .string ∨ ∃ e2, d2 = .slice e2) → (match tiOf P e with
        | some E => (match E.zero.bind cellsOf with
          | some zs => if 0 < E.size ∧ zs.length = E.size then some (⟨e, E.size, E.bytes⟩ : AppT) else none
          | none => none)
        | none => none) = some A → ∃ d2 i z, P.underlying t = some (.slice A.e) ∧ P.underlying t2 = some d2 ∧ (d2 = .string ∨ ∃ e2, d2 = .slice e2) ∧ P.info? A.e = some i ∧ i.size = A.size ∧ i.bytes = A.bytes ∧ i.zero = some z ∧ z.cells.size = A.size ∧ 0 < A.size := by
        intro e hd1 hd2 h
        cases hE : tiOf P e with
        | none => simp [hE] at h
        | some E =>
          simp only [hE] at h
          obtain ⟨i, d, hi⟩ := tiOf_spec hE
          cases hz : E.zero with
          | none => simp [hz] at h
          | some z =>
            simp only [hz, Option.bind_some] at h
            cases hzc : cellsOf z with
            | none => simp [hzc] at h
            | some zs =>
              simp only [hzc] at h
              split at h
              · rename_i hc
                simp only [Option.some.injEq] at h; subst h
                obtain ⟨zv, _, hiz, rfl⟩ := hi.run_zero (default : World) hz
                have hzr := (VR.ofVal (⟨fun _ _ _ => False, fun _ _ _ _ => False, fun _ _ _ _ => False, fun _ _ _ => False⟩ : Cx) zv).cells hzc
                exact ⟨d2, i, zv, by rw [h1.under, hd1], h2.under, hd2, hi.info, hi.size.symm, hi.bytes.symm, hiz, by rw [hzr.size]; exact hc.2, hc.1⟩
              · cases h
      cases hk1 : I.k <;> cases hk2 : J.k <;> simp only [hk1, hk2, reduceCtorEq] at h
      · rw [hk1] at k1; rw [hk2] at k2
        exact fin _ (tk_slice k1) (.inl (tk_str k2)) h
      · rw [hk1] at k1; rw [hk2] at k2
        exact fin _ (tk_slice k1) (.inr ⟨_, tk_slice k2⟩) h

/-- The values of cells that are known. -/
theorem vr_list {κ : Cx} {cs : List AVal} {vs : List Value} (hl : vs.length = cs.length) {ds : List AVal} {us : List Value} 
    (h1 : ∀ (j : Nat) (h : j < cs.length), VR κ (cs[j]) (vs.getD j undef)) (h2 : ∀ (j : Nat) (h : j < ds.length), VR κ (ds[j]) (us.getD j undef)) :
    ∀ (j : Nat) (h : j < (cs ++ ds).length), VR κ ((cs ++ ds)[j]) ((vs ++ us).getD j undef) := by
  intro j h
  by_cases hj : j < cs.length
  · have := h1 j hj
    rw [List.getElem_append_left hj]
    simp only [List.getD_eq_getElem?_getD] at this ⊢
    rw [List.getElem?_append_left (by omega)]
    exact this
  · have hj2 : j - cs.length < ds.length := by simp at h; omega
    have := h2 _ hj2
    rw [List.getElem_append_right (by omega)]
    simp only [List.getD_eq_getElem?_getD] at this ⊢
    rw [List.getElem?_append_right (by omega), hl]
    exact this

theorem aappend_sound0 {P : Program} {γ : Ghost} (hr : Rl γ) {t t2 ty : TypeId} {s x v : AVal} {m' : AMem} {su xu : Value} (h : aappend P t t2 γ.S s x = some (v, m')) (hs : VR γ.cx s su) (hnn : ∀ n cs, s ≠ .sl .nil n cs) (hx : VR γ.cx x xu) :
    ∃ v' γ', (Builtin.append_ #[t, t2] ty #[su, xu]).run P γ.w = .ok v' γ'.w ∧ Ext γ γ' ∧ Rl γ' ∧ γ'.S = m' ∧ VR γ'.cx v v' := by
  unfold aappend at h
  cases hA : appT P t t2 with
  | none => simp [hA] at h
  | some A =>
    simp only [hA] at h
    obtain ⟨d2, i, z, ht, ht2, hd2, hi, hisz, hiby, hiz, hzsz, hpos⟩ := appT_spec hA
    cases hal : alist γ.S x with
    | none => simp [hal] at h
    | some kd =>
      obtain ⟨k, ds⟩ := kd
      simp only [hal] at h
      cases s <;> simp only [reduceCtorEq] at h
      rename_i r n cs
      split at h
      case isFalse => cases h
      rename_i hc
      obtain ⟨hdl, hcl, hby, hle, hok, hfull⟩ := hc
      simp only [Option.some.injEq, Prod.mk.injEq] at h
      obtain ⟨rfl, rfl⟩ := h
      obtain ⟨news, n1, n2, n3, n4, n5⟩ := read_alist (P := P) hr hx hal hdl
      obtain ⟨olds, o1, o2, o3, _, o5⟩ := read_alist (P := P) (size := A.size) hr hs (show alist γ.S (.sl r n cs) = some (n, cs) from rfl) hcl
      obtain ⟨base, cap, rfl, hncap⟩ : ∃ base cap, su = .slice base n cap ∧ n ≤ cap := by
        cases hs with
        | slnil => exact ⟨_, _, rfl, Nat.le_refl _⟩
        | slz => exact ⟨_, _, rfl, Nat.zero_le _⟩
        | sl _ _ _ g k cap f hn => exact ⟨_, _, rfl, hn⟩
      obtain ⟨hroom, hgrow⟩ := run_append_two (P := P) (w := γ.w) (t := t) (t2 := t2) (ty := ty) ht ht2 hd2 hi hiz n4 (by rw [hisz]; exact n5) (by rw [hisz]; exact o5) (by rw [hiby]; exact hby) hle
      -- the token
      obtain ⟨tk, htk⟩ : ∃ tk, nxR γ.S.T r = .tok tk := by cases r <;> exact ⟨_, rfl⟩
      have hT1 : (nxT γ.S.T r (cs.length + ds.length) (A.size, A.e))[tk]? = some (cs.length + ds.length, A.size, A.e) := by
        cases r with
        | no => simp [okR] at hok
        | nil => exact absurd rfl (hnn _ _)
        | full => simp only [nxR, Rt.tok.injEq] at htk; subst htk; simp [nxT]
        | tok q =>
          simp only [nxR, Rt.tok.injEq] at htk; subst htk
          simp only [okR, beq_iff_eq] at hok
          have := (List.getElem?_eq_some_iff.1 hok).1
          simp [nxT, this]
      have hT2 : ∀ y, y ≠ tk → (nxT γ.S.T r (cs.length + ds.length) (A.size, A.e))[y]? = γ.S.T[y]? := by
        intro y hy
        cases r with
        | no => simp [okR] at hok
        | nil => exact absurd rfl (hnn _ _)
        | full =>
          simp only [nxR, Rt.tok.injEq] at htk; subst htk
          simp only [nxT]
          rcases Nat.lt_or_gt_of_ne hy with h | h
          · rw [List.getElem?_append_left h]
          · rw [List.getElem?_eq_none (by simp; omega), List.getElem?_eq_none (by omega)]
        | tok q =>
          simp only [nxR, Rt.tok.injEq] at htk; subst htk
          simp only [nxT]
          rw [List.getElem?_set_ne (Ne.symm hy)]
      have hT3 : ∀ tp0 sz0, γ.S.T[tk]? = some (tp0, sz0) → r = .tok tk ∧ tp0 = cs.length ∧ sz0 = (A.size, A.e) := by
        intro tp0 sz0 h0
        cases r with
        | no => simp [okR] at hok
        | nil => exact absurd rfl (hnn _ _)
        | full =>
          simp only [nxR, Rt.tok.injEq] at htk; subst htk
          have := (List.getElem?_eq_some_iff.1 h0).1
          omega
        | tok q =>
          simp only [nxR, Rt.tok.injEq] at htk; subst htk
          simp only [okR, beq_iff_eq] at hok
          rw [hok] at h0
          cases h0
          exact ⟨rfl, rfl, rfl⟩
      have hlenall : (cs ++ ds).length = (n + k) * A.size := by rw [List.length_append, hcl, hdl, Nat.add_mul]
      rw [htk]
      by_cases hcase : n + k ≤ cap
      · -- there is room
        rw [hroom hcase]
        by_cases hk : k = 0
        · -- nothing is appended
          subst hk
          have hd0 : ds = [] := List.eq_nil_of_length_eq_zero (by omega)
          subst hd0
          have hn0 : news = [] := List.eq_nil_of_length_eq_zero (by simpa using n1)
          subst hn0
          -- where the slice lies
          obtain ⟨g0, off, hbase, hrt⟩ : ∃ g0 off, base = g0.map (fun g => (⟨g, off, none⟩ : Addr)) ∧ rtOK γ.cx r n cs.length g0 off cap := by
            cases hs with
            | slnil _ hr' => exact ⟨none, 0, rfl, hr'⟩
            | slz => simp [okR] at hok
            | sl _ _ _ g o _ f _ _ _ hr' => exact ⟨some g, o, rfl, hr'⟩
          have hrun : ((optStore base (n * i.size) []).run P γ.w).andThen (fun _ w' => (.ok (.slice base (n + 0) cap) w' : Result Value)) = .ok (.slice base n cap) γ.w := by
            cases base <;> rfl
          rw [hrun]
          have htok : ∀ q, r = .tok q → γ.ι.tb q = g0 ∧ γ.ι.tc q = cap ∧ (off = 0 ∨ cap = 0) ∧ (0 < cs.length → ∀ g, g0 = some g → γ.own g A.e 0) := by
            intro q hq
            subst hq
            obtain ⟨⟨tp, sz, h1, h2, h3, h9⟩, h4⟩ := hrt
            simp only [okR, beq_iff_eq] at hok
            rw [hok] at h1
            cases h1
            obtain ⟨a1, a2⟩ := h3 rfl
            exact ⟨a1, a2, h4, h9⟩
          have hn0' : r = .full → cs.length = 0 := fun hr0 => by
            rcases hfull hr0 with h | h
            · rw [hcl, h, Nat.zero_mul]
            · omega
          have hown : 0 < cs.length → ∀ g, g0 = some g → γ.own g A.e 0 := by
            intro hl g hg
            cases r with
            | no => simp [okR] at hok
            | nil => exact absurd rfl (hnn _ _)
            | full => have := hn0' rfl; omega
            | tok q => exact (htok q rfl).2.2.2 hl g hg
          have hstep : TokStep γ tk (nxT γ.S.T r (cs.length + ([] : List AVal).length) (A.size, A.e)) (cs.length + ([] : List AVal).length) (A.size, A.e) g0 cap γ.w :=
            { os := rfl, tape := rfl, output := rfl, size := Nat.le_refl _, at_ := hT1, other := hT2
              old := fun tp0 sz0 h0 => by
                obtain ⟨hrt', rfl, rfl⟩ := hT3 tp0 sz0 h0
                obtain ⟨a1, a2, _, _⟩ := htok tk hrt'
                exact ⟨rfl, by simp, fun _ => ⟨a1.symm, a2.symm⟩⟩
              block := fun _ _ _ => rfl
              typed := fun hl g hg => by
                have := hown (by simpa using hl) g hg
                exact this
              tys := fun k arr ty fz _ h => ⟨arr, fz, h, Nat.le_refl _⟩
              low := fun _ _ _ _ _ _ _ => rfl
              new := fun g hg hlt => by
                cases r with
                | no => simp [okR] at hok
                | nil => exact absurd rfl (hnn _ _)
                | full =>
                  have : cap = n := hrt
                  subst this
                  simp at hlt
                  omega
                | tok q =>
                  simp only [nxR, Rt.tok.injEq] at htk; subst htk
                  obtain ⟨a1, a2, _, _⟩ := htok q rfl
                  simp only [okR, beq_iff_eq] at hok
                  have hown : γ.tokOwns q g := ⟨cs.length, (A.size, A.e), hok, a1.trans hg, by rw [a2]; simpa using hlt⟩
                  obtain ⟨arr, lo, hi', tp, sz, b1, b2, b3, b4⟩ := hr.toks q g hown
                  rw [hok] at b2
                  cases b2
                  exact ⟨.inl hown, (hr.own g (.inr ⟨q, hown⟩)).2, arr, lo, hi', b1, by rw [← a2]; exact b3, by simpa using b4⟩ }
          have hext := ext_tok hstep
          refine ⟨_, γ.tok tk (nxT γ.S.T r (cs.length + ([] : List AVal).length) (A.size, A.e)) g0 cap γ.w, rfl, hext, rl_tok hr hstep, rfl, ?_⟩
          have hoff : off = 0 ∨ cap = 0 := by
            cases r with
            | no => simp [okR] at hok
            | nil => exact absurd rfl (hnn _ _)
            | full =>
              refine .inr ?_
              have h0 : n = 0 := by rcases hfull rfl with h | h <;> omega
              have : cap = n := hrt
              omega
            | tok q => exact (htok q rfl).2.2.1
          have htip : (γ.tok tk (nxT γ.S.T r (cs.length + ([] : List AVal).length) (A.size, A.e)) g0 cap γ.w).cx.tip tk cs.length g0 cap :=
            ⟨cs.length + ([] : List AVal).length, (A.size, A.e), hT1, by simp, fun _ => ⟨by show (if tk = tk then _ else _) = _; rw [if_pos rfl], by show (if tk = tk then _ else _) = _; rw [if_pos rfl]⟩, fun hl g hg => own_tok hstep (hown hl g hg)⟩
          simp only [List.append_nil, Nat.add_zero]
          cases hs with
          | slnil _ hr' =>
            have hg0 : g0 = none := by cases g0 with
              | none => rfl
              | some g => simp at hbase
            subst hg0
            exact .slnil _ ⟨htip, .inl rfl⟩
          | slz => simp [okR] at hok
          | sl _ _ _ g o _ f hn hc hv hr' =>
            cases g0 with
            | none => simp at hbase
            | some g1 =>
              simp only [Option.map_some, Option.some.injEq, Addr.mk.injEq] at hbase
              obtain ⟨rfl, rfl, _⟩ := hbase
              exact .sl _ _ _ g o cap f hn (fun j hj => hext.cell _ _ _ (hc j hj)) (fun j hj => (hv j hj).ext hext) ⟨htip, hoff⟩
        · -- stored behind the tip
          cases r with
          | no => simp [okR] at hok
          | nil => exact absurd rfl (hnn _ _)
          | full =>
            exfalso
            cases hs with
            | slnil => omega
            | sl _ _ _ g o _ f hn hc hv hr' => have : cap = n := hr'; omega
          | tok q =>
            simp only [nxR, Rt.tok.injEq] at htk; subst htk
            simp only [okR, beq_iff_eq] at hok
            cases hs with
            | slnil => omega
            | sl _ _ _ g o _ f hn hc hv hr' =>
              obtain ⟨⟨tp, sz, h1, h2, h3, h9⟩, h4⟩ := hr'
              rw [hok] at h1
              cases h1
              obtain ⟨a1, a2⟩ := h3 rfl
              have ho : o = 0 := by rcases h4 with h | h <;> omega
              subst ho
              have hmul : (n + k) * A.size ≤ cap * A.size := Nat.mul_le_mul_right _ hcase
              have hmul2 : n * A.size + A.size ≤ (n + k) * A.size := by
                rw [Nat.add_mul]
                have : 1 * A.size ≤ k * A.size := Nat.mul_le_mul_right _ (by omega)
                omega
              have hown : γ.tokOwns q g := ⟨cs.length, (A.size, A.e), hok, a1, by rw [a2, hcl]; simp only; omega⟩
              obtain ⟨arr, lo, hi', tp, sz, b1, b2, b3, b4⟩ := hr.toks q g hown
              rw [hok] at b2
              cases b2
              rw [a2] at b3
              simp only at b3
              have hlen2 : n * A.size + news.length ≤ arr.size := by rw [n1, hdl, ← Nat.add_mul]; omega
              obtain ⟨w', arr', e1, e2, e3, e4, e5, e6, e7, e8, e9, e10⟩ := run_storeRow (P := P) (o := n * A.size) news γ.w 0 arr b1 (by simp only [Nat.add_zero]; omega) (by simpa using hlen2) n3
              simp only [hisz, optStore, Addr.add_lit, Nat.zero_add]
              rw [e1]
              simp only [Nat.add_zero] at e4 e5
              have hstep : TokStep γ q (nxT γ.S.T (.tok q) (cs.length + ds.length) (A.size, A.e)) (cs.length + ds.length) (A.size, A.e) (some g) cap w' :=
                { os := e8, tape := e9, output := e10, size := Nat.le_of_eq e7.symm, at_ := hT1, other := hT2
                  old := fun tp0 sz0 h0 => by
                    rw [hok] at h0
                    cases h0
                    refine ⟨rfl, by omega, fun _ => ⟨a1.symm, a2.symm⟩⟩
                  block := fun x _ hx => e6 x fun he => hx (he ▸ hown)
                  typed := fun _ x hx => by
                    cases hx
                    exact ⟨(hr.own g (.inr ⟨q, hown⟩)).1, arr', _, e2, Nat.zero_le _⟩
                  tys := fun x ar ty fz hx h => by
                    have hxg : x = g := by
                      obtain ⟨_, _, _, c2, _⟩ := hx
                      rw [a1] at c2
                      exact (Option.some.inj c2).symm
                    subst hxg
                    rw [b1] at h
                    cases h
                    exact ⟨arr', _, e2, Nat.le_of_eq e3.symm⟩
                  low := fun x tp0 sz0 o hx h0 ho => by
                    rw [hok] at h0
                    cases h0
                    have hxg : x = g := by
                      obtain ⟨_, _, _, c2, _⟩ := hx
                      rw [a1] at c2
                      exact (Option.some.inj c2).symm
                    subst hxg
                    rw [cell_of_row _ _ _ _ _ _ e2, cell_of_row _ _ _ _ _ _ b1]
                    have := e5 o (by omega)
                    have l1 : o < arr'.size := by omega
                    have l2 : o < arr.size := by omega
                    simpa [Array.getD, l1, l2] using this
                  new := fun x hx _ => by
                    cases hx
                    exact ⟨.inl hown, by rw [e7]; exact (hr.own g (.inr ⟨q, hown⟩)).2, arr', lo, hi', e2, by simp only at b3 ⊢; omega, by omega⟩ }
              have hext := ext_tok hstep
              refine ⟨_, γ.tok q (nxT γ.S.T (.tok q) (cs.length + ds.length) (A.size, A.e)) (some g) cap w', rfl, hext, rl_tok hr hstep, rfl, ?_⟩
              refine .sl _ _ _ g 0 cap (fun j => if j < cs.length then f j else news.getD (j - cs.length) undef) hcase (fun j hj => ?_) (fun j hj => ?_) ⟨⟨cs.length + ds.length, (A.size, A.e), hT1, by simp, fun _ => ⟨?_, ?_⟩, fun hl g' hg' => hstep.typed (by simpa using hl) g' hg'⟩, .inl rfl⟩
              · by_cases hjc : j < cs.length
                · simp only [if_pos hjc]
                  exact hext.cell _ _ _ (hc j hjc)
                · simp only [if_neg hjc, Nat.zero_add]
                  have hj2 : j - cs.length < news.length := by simp at hj; omega
                  have hj3 : j = n * A.size + (j - cs.length) := by omega
                  have hget := e4 (j - cs.length) hj2
                  rw [← hj3] at hget
                  have l1 : j < arr'.size := by rw [e3]; omega
                  refine ⟨?_, ?_, fun hbad => ?_, fun b hb => hr.ht b q g hb hown, fun y hy => ?_⟩
                  · show w'.cell? _ = _
                    rw [cell_of_row _ _ _ _ _ _ e2, ← hget]
                    simp [Array.getD, l1]
                  · rw [List.getD_eq_getElem?_getD, List.getElem?_eq_getElem hj2, Option.getD_some]
                    exact n3 _ (List.getElem_mem _)
                  · have := hr.bad _ _ hbad; have := (hr.own g (.inr ⟨q, hown⟩)).1; omega
                  · by_cases hyt : y = q
                    · subst hyt; exact ⟨_, _, hT1, by simpa using hj⟩
                    · exact absurd (hr.tt y q g ((tok_owns_other hstep hyt).1 hy) hown) hyt
              · by_cases hjc : j < cs.length
                · simp only [if_pos hjc, List.getElem_append_left hjc]
                  exact (hv j hjc).ext hext
                · have hj2 : j - cs.length < ds.length := by simp at hj; omega
                  simp only [if_neg hjc, List.getElem_append_right (by omega : cs.length ≤ j)]
                  exact (n2 _ hj2).ext hext
              · show (if q = q then _ else _) = _
                rw [if_pos rfl]
              · show (if q = q then _ else _) = _
                rw [if_pos rfl]
      · -- a new row
        have hcap : cap < n + k := by omega
        rw [hgrow hcap]
        have hge := grownCap_ge γ.w (n + k) cap A.e
        generalize hcp : grownCap γ.w (n + k) cap A.e = c at *
        generalize harr : (olds ++ news).toArray ++ Builtin.zeroCells z.cells (c - (n + k)) = arr at *
        have hasz : arr.size = c * A.size := by
          rw [← harr]
          simp only [Array.size_append, List.size_toArray, List.length_append, size_zeroCells, hzsz, n1, o1, hcl, hdl, ← Nat.add_mul]
          congr 1
          omega
        have hgetD : ∀ j, j < (cs ++ ds).length → arr.getD j undef = (olds ++ news).getD j undef := by
          intro j hj
          have hj' : j < (olds ++ news).length := by simp at hj ⊢; omega
          rw [← harr]
          simp only [Array.getD_eq_getD_getElem?, List.getD_eq_getElem?_getD]
          rw [Array.getElem?_append_left (by simpa using hj')]
          simp
        have hgw : Grow γ.w (γ.w.drew.alloc (.cells arr A.e)) := (Grow.drew γ.w).trans (Grow.alloc _ _)
        have hstep : TokStep γ tk (nxT γ.S.T r (cs.length + ds.length) (A.size, A.e)) (cs.length + ds.length) (A.size, A.e) (some γ.w.heap.size) c (γ.w.drew.alloc (.cells arr A.e)) :=
          { os := rfl, tape := rfl, output := rfl, size := hgw.size, at_ := hT1, other := hT2
            old := fun tp0 sz0 h0 => by
              obtain ⟨hrt, rfl, rfl⟩ := hT3 tp0 sz0 h0
              refine ⟨rfl, by omega, fun he => ?_⟩
              exfalso
              have hd0 : ds.length = 0 := by omega
              have hk0 : k = 0 := by
                rw [hdl] at hd0
                rcases Nat.mul_eq_zero.1 hd0 with h | h
                · exact h
                · omega
              omega
            block := fun q hq _ => hgw.block q hq
            typed := fun _ g hg => by
              cases hg
              exact ⟨hr.lo, arr, (0, 0), heap_alloc_new _ _, Nat.zero_le _⟩
            tys := fun x ar ty fz hx h => ⟨ar, fz, (hgw.block x (hr.own x (.inr ⟨tk, hx⟩)).2).trans h, Nat.le_refl _⟩
            low := fun q _ _ o hown _ _ => World.cell?_of_block (w := γ.w) (hgw.block q (hr.own q (.inr ⟨tk, hown⟩)).2)
            new := fun g hg _ => by
              cases hg
              exact ⟨.inr (Nat.le_refl _), by simp, arr, 0, 0, heap_alloc_new _ _, by simp only; omega, Nat.zero_le _⟩ }
        have hext := ext_tok hstep
        refine ⟨_, γ.tok tk (nxT γ.S.T r (cs.length + ds.length) (A.size, A.e)) (some γ.w.heap.size) c (γ.w.drew.alloc (.cells arr A.e)), rfl, hext, rl_tok hr hstep, rfl, ?_⟩
        have hvl := vr_list o1 o2 n2
        refine .sl _ _ _ γ.w.heap.size 0 c (fun j => arr.getD j undef) hge (fun j hj => ?_) (fun j hj => ?_) ⟨⟨cs.length + ds.length, (A.size, A.e), hT1, by simp, fun _ => ⟨?_, ?_⟩, fun hl g' hg' => hstep.typed (by simpa using hl) g' hg'⟩, .inl rfl⟩
        · rw [Nat.zero_add]
          have hj' : j < arr.size := by rw [hasz]; have := Nat.mul_le_mul_right A.size hge; omega
          refine ⟨?_, ?_, fun hbad => ?_, fun b hb => ?_, fun y hy => ?_⟩
          · show (γ.w.drew.alloc (.cells arr A.e)).cell? _ = _
            rw [cell_of_row (γ.w.drew.alloc (.cells arr A.e)) γ.w.heap.size j arr A.e (0, 0) (heap_alloc_new γ.w.drew _)]
            simp [Array.getD, hj']
          · rw [hgetD j hj]
            have hj2 : j < (olds ++ news).length := by simp at hj ⊢; omega
            rw [List.getD_eq_getElem?_getD, List.getElem?_eq_getElem hj2, Option.getD_some]
            rcases List.mem_append.1 (List.getElem_mem hj2) with h | h
            · exact o3 _ h
            · exact n3 _ h
          · have := hr.bad _ _ hbad; have := hr.lo; omega
          · have := (hr.own _ (.inl ⟨b, hb⟩)).2; omega
          · by_cases hyt : y = tk
            · subst hyt; exact ⟨_, _, hT1, by simpa using hj⟩
            · have := (hr.own _ (.inr ⟨y, (tok_owns_other hstep hyt).1 hy⟩)).2; omega
        · rw [hgetD j hj]
          exact (hvl j hj).ext hext
        · show (if tk = tk then _ else _) = _
          rw [if_pos rfl]
        · show (if tk = tk then _ else _) = _
          rw [if_pos rfl]

/-! ### append to what may be written -/

theorem aappend_sound {P : Program} {γ : Ghost} (hr : Rl γ) {t t2 ty : TypeId} {s x v : AVal} {m' : AMem} {su xu : Value} (h : aappend P t t2 γ.S s x = some (v, m')) (hs : VR γ.cx s su) (hx : VR γ.cx x xu) :
    ∃ v' γ', (Builtin.append_ #[t, t2] ty #[su, xu]).run P γ.w = .ok v' γ'.w ∧ Ext γ γ' ∧ Rl γ' ∧ γ'.S = m' ∧ VR γ'.cx v v' := by
  by_cases hn : ∃ n cs, s = .sl .nil n cs
  · obtain ⟨n, cs, rfl⟩ := hn
    cases hs with
    | slnil _ _ =>
      refine aappend_sound0 hr (s := .sl .full 0 []) ?_ (.slnil .full rfl) (fun n cs h => by cases h) hx
      unfold aappend at h ⊢
      cases hA : appT P t t2 with
      | none => simp [hA] at h
      | some A =>
        cases hal : alist γ.S x with
        | none => simp [hA, hal] at h
        | some kd =>
          simp only [hA, hal] at h ⊢
          split at h
          · rename_i hc
            rw [if_pos ⟨hc.1, hc.2.1, hc.2.2.1, hc.2.2.2.1, rfl, fun _ => .inl (by first | rfl | trivial)⟩]
            exact h
          · cases h
    | sl _ _ _ g k cap f hn hc hv hr' => exact absurd hr'.1 (by simp)
  · exact aappend_sound0 hr h hs (fun n cs he => hn ⟨n, cs, he⟩) hx

def Ghost.bump (γ : Ghost) (b e : Nat) (cs : List AVal) (g c z : Nat) (w' : World) : Ghost :=
  { γ with S := { γ.S with H := γ.S.H.set b (.cells e cs) }, ι := { γ.ι with h := fun x => if x = b then g else γ.ι.h x, c := fun x => if x = b then c else γ.ι.c x, z := fun x => if x = b then z else γ.ι.z x }, w := w' }

structure BlkStep (γ : Ghost) (b e : Nat) (cs : List AVal) (e' : Nat) (cs' : List AVal) (g c z : Nat) (w' : World) : Prop where
  os : w'.os = γ.w.os
  tape : w'.tape = γ.w.tape
  output : w'.output = γ.w.output
  size : γ.w.heap.size ≤ w'.heap.size
  at_ : γ.S.H[b]? = some (.cells e cs)
  ep : e < e'
  nz : 0 < e
  zs : e' % 64 = 0 ∨ e' % 64 = z
  block : ∀ k, k < γ.w.heap.size → k ≠ γ.ι.h b → w'.heap[k]? = γ.w.heap[k]?
  place : g = γ.ι.h b ∨ γ.w.heap.size ≤ g
  inw : g < w'.heap.size
  tys : ∀ arr ty fz, γ.w.heap[γ.ι.h b]? = some (.cells arr ty fz) → ∃ arr' fz', w'.heap[γ.ι.h b]? = some (.cells arr' ty fz') ∧ arr.size ≤ arr'.size
  new : ∃ arr ty, w'.heap[g]? = some (.cells arr ty (0, 0)) ∧ cs'.length ≤ arr.size ∧ c * z ≤ arr.size ∧ (∀ (j : Nat) (h : j < cs'.length), VR γ.cx (cs'[j]) (arr.getD j undef)) ∧ ∀ j, j < cs'.length → (arr.getD j undef).oneCell' = true

section bump
variable {γ : Ghost} {b e : Nat} {cs : List AVal} {e' : Nat} {cs' : List AVal} {g c z : Nat} {w' : World}

theorem bump_lt (h : BlkStep γ b e cs e' cs' g c z w') : b < γ.S.H.length := (List.getElem?_eq_some_iff.1 h.at_).1

theorem bump_owns_other {x q : Nat} (hx : x ≠ b) : (γ.bump b e' cs' g c z w').blkOwns x q ↔ γ.blkOwns x q := by
  simp [Ghost.blkOwns, Ghost.bump, hx]
theorem bump_owns_self (h : BlkStep γ b e cs e' cs' g c z w') {q : Nat} : (γ.bump b e' cs' g c z w').blkOwns b q ↔ g = q := by
  have := bump_lt h
  simp [Ghost.blkOwns, Ghost.bump, this]
theorem bump_get_self (h : BlkStep γ b e cs e' cs' g c z w') : (γ.bump b e' cs' g c z w').S.H[b]? = some (.cells e' cs') := by
  have := bump_lt h
  simp [Ghost.bump, this]
theorem bump_get_other {x : Nat} (hx : x ≠ b) : (γ.bump b e' cs' g c z w').S.H[x]? = γ.S.H[x]? := by
  simp only [Ghost.bump]; rw [List.getElem?_set_ne (Ne.symm hx)]

theorem own_bump (h : BlkStep γ b e cs e' cs' g c z w') {q : Nat} {t : TypeId} {n : Nat} (ho : γ.own q t n) : (γ.bump b e' cs' g c z w').own q t n :=
  own_of (γ := γ) (γ' := γ.bump b e' cs' g c z w') rfl (fun q arr ty fz hq => by
    by_cases hk : q = γ.ι.h b
    · subst hk; exact h.tys arr ty fz hq
    · exact ⟨arr, fz, (h.block q (heap_lt hq) hk).trans hq, Nat.le_refl _⟩) ho
theorem ext_bump (h : BlkStep γ b e cs e' cs' g c z w') : Ext γ (γ.bump b e' cs' g c z w') where
  bad := rfl
  lo := rfl
  size := h.size
  os := h.os
  tape := h.tape
  output := h.output
  cell := fun q o v hc => by
    have hlt := cell_lt hc.1
    simp only at hlt
    have hne : q ≠ γ.ι.h b := fun he => hc.2.2.2.1 b ⟨bump_lt h, he.symm⟩
    refine ⟨?_, hc.2.1, hc.2.2.1, fun x hx => ?_, hc.2.2.2.2⟩
    · show w'.cell? _ = _
      rw [World.cell?_of_block (w := γ.w) (h.block q hlt hne)]
      exact hc.1
    · by_cases hxb : x = b
      · subst hxb
        have := (bump_owns_self h).1 hx
        rcases h.place with hp | hp
        · exact hne (by omega)
        · omega
      · exact hc.2.2.2.1 x ((bump_owns_other hxb).1 hx)
  blk := fun x ep q c' ⟨y, h1, h2, h3⟩ => by
    by_cases hxb : x = b
    · subst hxb
      rw [h.at_] at h1
      cases h1
      refine ⟨_, bump_get_self h, ?_, fun he => ?_⟩
      · have := h.ep; have := h.nz; simp only [ABlk.ep] at h2 ⊢; omega
      · have := h.ep; simp only [ABlk.ep] at h2 he; omega
    · refine ⟨y, (bump_get_other hxb).trans h1, h2, fun he => ?_⟩
      obtain ⟨a1, a2⟩ := h3 he
      exact ⟨by show (if x = b then _ else _) = _; rw [if_neg hxb]; exact a1, by show (if x = b then _ else _) = _; rw [if_neg hxb]; exact a2⟩
  tip := fun _ _ _ _ ht => tip_of (γ := γ) (γ' := γ.bump b e' cs' g c z w') rfl rfl rfl (fun _ _ => own_bump h) ht
  own := fun _ _ _ => own_bump h
  frame := fun k hk ho => .inl (h.block k hk fun he => ho (.inl ⟨b, bump_lt h, he.symm⟩))
  owns := fun k hk => by
    rcases hk with ⟨x, hx⟩ | hx
    · by_cases hxb : x = b
      · subst hxb
        have := (bump_owns_self h).1 hx
        rcases h.place with hp | hp
        · exact .inl (.inl ⟨x, bump_lt h, by omega⟩)
        · exact .inr (by omega)
      · exact .inl (.inl ⟨x, (bump_owns_other hxb).1 hx⟩)
    · exact .inl (.inr hx)

theorem rl_bump (hr : Rl γ) (h : BlkStep γ b e cs e' cs' g c z w') : Rl (γ.bump b e' cs' g c z w') where
  lo := Nat.le_trans hr.lo h.size
  bad := hr.bad
  objs := fun x y hb => by
    by_cases hxb : x = b
    · subst hxb
      rw [bump_get_self h] at hb
      cases hb
      obtain ⟨arr, ty, k1, k2, k3, k4, k5⟩ := h.new
      refine ⟨.cells arr ty (0, 0), ?_, ?_⟩
      · show w'.heap[if x = x then _ else _]? = _
        rw [if_pos rfl]; exact k1
      · show BR _ (if x = x then _ else _) (if x = x then _ else _) _ _
        rw [if_pos rfl, if_pos rfl]
        exact ⟨arr, ty, rfl, k2, k3, fun j hj => (k4 j hj).ext (ext_bump h), k5, h.zs⟩
    · rw [bump_get_other hxb] at hb
      obtain ⟨o, k1, k2⟩ := hr.objs x y hb
      have hlt : x < γ.S.H.length := (List.getElem?_eq_some_iff.1 hb).1
      refine ⟨o, ?_, ?_⟩
      · show w'.heap[if x = b then _ else _]? = _
        rw [if_neg hxb, h.block _ (hr.own _ (.inl ⟨x, hlt, rfl⟩)).2 fun he => hxb (hr.hh x b _ ⟨hlt, rfl⟩ ⟨bump_lt h, he.symm⟩)]
        exact k1
      · show BR _ (if x = b then _ else _) (if x = b then _ else _) _ _
        rw [if_neg hxb, if_neg hxb]; exact k2.mono (ext_bump h).le
  its := fun x mb left cur hb => by
    have hxb : x ≠ b := fun he => by subst he; rw [bump_get_self h] at hb; cases hb
    rw [bump_get_other hxb] at hb
    obtain ⟨es, en, clk, since, seen, c0, g1, g2, g3, g4⟩ := hr.its x mb left cur hb
    have hmb : mb ≠ b := fun he => by subst he; have := h.at_; rw [this] at g1; cases g1
    have hlt : x < γ.S.H.length := (List.getElem?_eq_some_iff.1 hb).1
    have hlm : mb < γ.S.H.length := (List.getElem?_eq_some_iff.1 g1).1
    refine ⟨es, en, clk, since, seen, c0, (bump_get_other hmb).trans g1, ?_, ?_, g4.mono (ext_bump h).le⟩
    · show w'.heap[if x = b then _ else _]? = some (Obj.mapIter (some (if mb = b then _ else _)) _ _ _)
      rw [if_neg hxb, if_neg hmb, h.block _ (hr.own _ (.inl ⟨x, hlt, rfl⟩)).2 fun he => hxb (hr.hh x b _ ⟨hlt, rfl⟩ ⟨bump_lt h, he.symm⟩)]
      exact g2
    · show w'.heap[if mb = b then _ else _]? = _
      rw [if_neg hmb, h.block _ (hr.own _ (.inl ⟨mb, hlm, rfl⟩)).2 fun he => hmb (hr.hh mb b _ ⟨hlm, rfl⟩ ⟨bump_lt h, he.symm⟩)]
      exact g3
  toks := fun t q ht => by
    obtain ⟨arr, lo, hi, tp, sz, k1, k2⟩ := hr.toks t q ht
    exact ⟨arr, lo, hi, tp, sz, (h.block q (hr.own q (.inr ⟨t, ht⟩)).2 fun he => hr.ht b t q ⟨bump_lt h, he.symm⟩ ht).trans k1, k2⟩
  own := fun q hq => by
    rcases hq with ⟨x, hx⟩ | ⟨t, ht⟩
    · by_cases hxb : x = b
      · subst hxb
        have hgq := (bump_owns_self h).1 hx
        have hi := h.inw
        refine ⟨?_, by show _ < w'.heap.size; omega⟩
        rcases h.place with hp | hp
        · have := (hr.own _ (.inl ⟨x, bump_lt h, rfl⟩)).1
          show γ.lo ≤ q
          omega
        · have := hr.lo
          show γ.lo ≤ q
          omega
      · have := hr.own q (.inl ⟨x, (bump_owns_other hxb).1 hx⟩)
        exact ⟨this.1, Nat.lt_of_lt_of_le this.2 h.size⟩
    · have := hr.own q (.inr ⟨t, ht⟩)
      exact ⟨this.1, Nat.lt_of_lt_of_le this.2 h.size⟩
  hh := fun x y q hx hy => by
    by_cases hxb : x = b
    · by_cases hyb : y = b
      · omega
      · subst hxb
        have hgq := (bump_owns_self h).1 hx
        have hy' := (bump_owns_other hyb).1 hy
        rcases h.place with hp | hp
        · exact hr.hh x y q ⟨bump_lt h, by omega⟩ hy'
        · have := (hr.own q (.inl ⟨y, hy'⟩)).2; omega
    · have hx' := (bump_owns_other hxb).1 hx
      by_cases hyb : y = b
      · subst hyb
        have hgq := (bump_owns_self h).1 hy
        rcases h.place with hp | hp
        · exact hr.hh x y q hx' ⟨bump_lt h, by omega⟩
        · have := (hr.own q (.inl ⟨x, hx'⟩)).2; omega
      · exact hr.hh x y q hx' ((bump_owns_other hyb).1 hy)
  ht := fun x t q hx ht => by
    by_cases hxb : x = b
    · subst hxb
      have hgq := (bump_owns_self h).1 hx
      rcases h.place with hp | hp
      · exact hr.ht x t q ⟨bump_lt h, by omega⟩ ht
      · have := (hr.own q (.inr ⟨t, ht⟩)).2; omega
    · exact hr.ht x t q ((bump_owns_other hxb).1 hx) ht
  tt := hr.tt
end bump

def amapp (P : Program) (t t2 : TypeId) (m : AMem) (s x : AVal) : Option (AVal × AMem) :=
  match appT P t t2 with
  | some A => (match alist m x with
    | some (k, ds) => (match s with
      | .msl b e o n l => (match m.H[b]? with
        | some (.cells e' cs) =>
          if (e = e' ∧ o = 0 ∧ e % 64 = A.size ∧ l = cs.length) ∧ ds.length = k * A.size ∧ cs.length = n * A.size ∧ (n + k) * A.bytes ≤ 140737488355328 ∧ n + k ≤ 4611686018427387903 then
            some (.msl b (e + 64) 0 (n + k) (cs.length + ds.length), { m with H := m.H.set b (.cells (e + 64) (cs ++ ds)) })
          else none
        | _ => none)
      | .sl r n cs =>
        if ((r = .full ∨ r = .nil) ∧ A.size < 64 ∧ 0 < k) ∧ ds.length = k * A.size ∧ cs.length = n * A.size ∧ (n + k) * A.bytes ≤ 140737488355328 ∧ n + k ≤ 4611686018427387903 then
          some (.msl m.H.length A.size 0 (n + k) (cs.length + ds.length), { m with H := m.H ++ [.cells A.size (cs ++ ds)] })
        else if (r = .nil ∧ n = 0 ∧ cs.length = 0) ∧ k = 0 ∧ ds.length = 0 then some (.sl .nil 0 [], m) else none
      | _ => none)
    | none => none)
  | none => none

theorem amapp_sound {P : Program} {γ : Ghost} (hr : Rl γ) {t t2 ty : TypeId} {s x v : AVal} {m' : AMem} {su xu : Value} (h : amapp P t t2 γ.S s x = some (v, m')) (hs : VR γ.cx s su) (hx : VR γ.cx x xu) :
    ∃ v' γ', (Builtin.append_ #[t, t2] ty #[su, xu]).run P γ.w = .ok v' γ'.w ∧ Ext γ γ' ∧ Rl γ' ∧ γ'.S = m' ∧ VR γ'.cx v v' := by
  unfold amapp at h
  cases hA : appT P t t2 with
  | none => simp [hA] at h
  | some A =>
    simp only [hA] at h
    obtain ⟨d2, i, z, ht, ht2, hd2, hi, hisz, hiby, hiz, hzsz, hpos⟩ := appT_spec hA
    cases hal : alist γ.S x with
    | none => simp [hal] at h
    | some kd =>
      obtain ⟨k, ds⟩ := kd
      simp only [hal] at h
      cases s <;> simp only [reduceCtorEq] at h
      case sl r n cs =>
        split at h
        case isFalse =>
          split at h
          case isFalse => cases h
          rename_i hc
          obtain ⟨⟨rfl, rfl, hcs⟩, rfl, hds⟩ := hc
          have hcs := List.eq_nil_of_length_eq_zero hcs
          subst hcs
          simp only [Option.some.injEq, Prod.mk.injEq] at h
          obtain ⟨rfl, rfl⟩ := h
          obtain ⟨news, n1, n2, n3, n4, n5⟩ := read_alist (P := P) (size := A.size) hr hx hal (by simpa using hds)
          obtain ⟨olds, o1, o2, o3, _, o5⟩ := read_alist (P := P) (size := A.size) hr hs (show alist γ.S (.sl .nil 0 []) = some (0, []) from rfl) (by simp)
          obtain ⟨base, rfl⟩ : ∃ base, su = .slice base 0 0 := by
            cases hs with
            | slnil => exact ⟨_, rfl⟩
            | sl _ _ _ g k cap f hn _ _ hr' =>
              have : cap = 0 := hr'.2; subst this; exact ⟨_, rfl⟩
          obtain ⟨hroom, _⟩ := run_append_two (P := P) (w := γ.w) (t := t) (t2 := t2) (ty := ty) ht ht2 hd2 hi hiz n4 (by rw [hisz]; exact n5) (by rw [hisz]; exact o5) (by rw [hiby]; simp) (by omega)
          rw [hroom (by omega)]
          have hnn : news = [] := List.eq_nil_of_length_eq_zero (by rw [n1]; exact hds)
          subst hnn
          refine ⟨.slice base 0 0, γ, ?_, Ext.refl γ, hr, rfl, hs⟩
          cases base <;> simp [optStore, storeCells]
        rename_i hc
        obtain ⟨⟨hrr, h16, hk⟩, hdl, hcl, hby, hle⟩ := hc
        simp only [Option.some.injEq, Prod.mk.injEq] at h
        obtain ⟨rfl, rfl⟩ := h
        obtain ⟨news, n1, n2, n3, n4, n5⟩ := read_alist (P := P) hr hx hal hdl
        obtain ⟨olds, o1, o2, o3, _, o5⟩ := read_alist (P := P) (size := A.size) hr hs (show alist γ.S (.sl r n cs) = some (n, cs) from rfl) hcl
        obtain ⟨base, rfl⟩ : ∃ base, su = .slice base n n := by
          cases hs with
          | slnil => exact ⟨_, rfl⟩
          | slz => rcases hrr with h | h <;> cases h
          | sl _ _ _ g k cap f hn _ _ hr' =>
            rcases hrr with rfl | rfl
            · have : cap = n := hr'; subst this; exact ⟨_, rfl⟩
            · have : cap = n := hr'.2; subst this; exact ⟨_, rfl⟩
        obtain ⟨_, hgrow⟩ := run_append_two (P := P) (w := γ.w) (t := t) (t2 := t2) (ty := ty) ht ht2 hd2 hi hiz n4 (by rw [hisz]; exact n5) (by rw [hisz]; exact o5) (by rw [hiby]; exact hby) hle
        rw [hgrow (by omega)]
        have hge := grownCap_ge γ.w (n + k) n A.e
        generalize hcp : grownCap γ.w (n + k) n A.e = c at *
        generalize harr : (olds ++ news).toArray ++ Builtin.zeroCells z.cells (c - (n + k)) = arr at *
        have hg : Grow γ.w γ.w.drew := Grow.drew γ.w
        have hr1 := rl_grow hr hg
        have he1 := ext_grow (γ := γ) hg
        have hasz : arr.size = c * A.size := by
          rw [← harr]
          simp only [Array.size_append, List.size_toArray, List.length_append, size_zeroCells, hzsz, n1, o1, hcl, hdl, ← Nat.add_mul]
          congr 1
          omega
        have hlenall : (cs ++ ds).length = (n + k) * A.size := by rw [List.length_append, hcl, hdl, Nat.add_mul]
        have hgetD : ∀ j, j < (cs ++ ds).length → arr.getD j undef = (olds ++ news).getD j undef := by
          intro j hj
          have hj' : j < (olds ++ news).length := by simp at hj ⊢; omega
          rw [← harr]
          simp only [Array.getD_eq_getD_getElem?, List.getD_eq_getElem?_getD]
          rw [Array.getElem?_append_left (by simpa using hj')]
          simp
        have hvl := vr_list o1 o2 n2
        have hrl : Rl (Ghost.push { γ with w := γ.w.drew } (.cells A.size (cs ++ ds)) c A.size (.cells arr A.e)) :=
          rl_push hr1 (fun e cs he => by cases he; right; exact Nat.mod_eq_of_lt h16) ⟨arr, A.e, rfl, by rw [hasz, hlenall]; exact Nat.mul_le_mul_right _ hge, by rw [hasz]; exact Nat.le_refl _, fun j hj => by rw [hgetD j hj]; exact (hvl j hj).ext he1, fun j hj => by
            rw [hgetD j hj]
            have hj2 : j < (olds ++ news).length := by simp at hj ⊢; omega
            rw [List.getD_eq_getElem?_getD, List.getElem?_eq_getElem hj2, Option.getD_some]
            rcases List.mem_append.1 (List.getElem_mem hj2) with h | h
            · exact o3 _ h
            · exact n3 _ h⟩
        refine ⟨_, Ghost.push { γ with w := γ.w.drew } (.cells A.size (cs ++ ds)) c A.size (.cells arr A.e), rfl, he1.trans ext_push, hrl, rfl, ?_⟩
        have hb := push_blk_ep (γ := { γ with w := γ.w.drew }) (x := .cells A.size (cs ++ ds)) (c := c) (z := A.size) (o := .cells arr A.e)
        exact .msl _ _ 0 (n + k) _ _ c c hb hge fun _ => rfl
      case msl b e o n l =>
        cases hb : γ.S.H[b]? with
        | none => simp [hb] at h
        | some y =>
          cases y with
          | amap es => simp [hb] at h
          | iter _ _ _ => simp [hb] at h
          | loop _ _ _ _ _ _ _ => simp [hb] at h
          | cells e' cs =>
            simp only [hb] at h
            split at h
            case isFalse => cases h
            rename_i hc
            obtain ⟨⟨rfl, rfl, h16, rfl⟩, hdl, hcl, hby, hle⟩ := hc
            simp only [Option.some.injEq, Prod.mk.injEq] at h
            obtain ⟨rfl, rfl⟩ := h
            obtain ⟨news, n1, n2, n3, n4, n5⟩ := read_alist (P := P) hr hx hal hdl
            have hals : alist γ.S (.msl b e 0 n cs.length) = some (n, cs) := by simp [alist, hb]
            obtain ⟨olds, o1, o2, o3, _, o5⟩ := read_alist (P := P) (size := A.size) hr hs hals hcl
            obtain ⟨arr0, ty0, a1, a2, a3, a4, a5⟩ := hr.cells b e cs hb
            have hzb : γ.ι.z b = A.size := by
              rcases hr.zs b e cs hb with h | h <;> omega
            cases hs with
            | msl _ _ _ _ _ g c cap hblk hn ho =>
              have hcap := ho rfl
              subst hcap
              obtain ⟨y, hy, _, hy2⟩ := hblk
              rw [hb] at hy
              cases hy
              obtain ⟨hg, hcc⟩ := hy2 rfl
              subst hg
              rw [hcc, hzb] at a3
              have hlt : b < γ.S.H.length := (List.getElem?_eq_some_iff.1 hb).1
              obtain ⟨hroom, hgrow⟩ := run_append_two (P := P) (w := γ.w) (t := t) (t2 := t2) (ty := ty) ht ht2 hd2 hi hiz n4 (by rw [hisz]; exact n5) (by rw [hisz]; exact o5) (by rw [hiby]; exact hby) hle
              by_cases hcase : n + k ≤ cap
              · rw [hroom hcase]
                have hlen2 : n * A.size + news.length ≤ arr0.size := by
                  rw [n1, hdl, ← Nat.add_mul]
                  exact Nat.le_trans (Nat.mul_le_mul_right _ hcase) a3
                obtain ⟨w', arr', e1, e2, e3, e4, e5, e6, e7, e8, e9, e10⟩ := run_storeRow (P := P) (o := n * A.size) news γ.w 0 arr0 a1 (Nat.zero_le _) (by simpa using hlen2) n3
                simp only [hisz, optStore, Addr.add_lit, Nat.zero_add]
                rw [e1]
                simp only [Nat.add_zero] at e4 e5
                have hstep : BlkStep γ b e cs (e + 64) (cs ++ ds) (γ.ι.h b) cap A.size w' :=
                  { os := e8, tape := e9, output := e10, size := Nat.le_of_eq e7.symm, at_ := hb, ep := by omega, nz := by omega, zs := by right; omega
                    block := fun q _ hq => e6 q hq
                    place := .inl rfl
                    inw := by rw [e7]; exact (hr.own _ (.inl ⟨b, hlt, rfl⟩)).2
                    tys := fun ar ty fz h => by
                      rw [a1] at h
                      cases h
                      exact ⟨arr', _, e2, Nat.le_of_eq e3.symm⟩
                    new := by
                      refine ⟨arr', ty0, e2, by rw [e3, List.length_append]; omega, by rw [e3]; exact a3, fun j hj => ?_, fun j hj => ?_⟩
                      · by_cases hjc : j < cs.length
                        · rw [List.getElem_append_left hjc, e5 j (by omega)]
                          exact a4 j hjc
                        · have hj2 : j - cs.length < ds.length := by simp at hj; omega
                          rw [List.getElem_append_right (by omega)]
                          have := e4 (j - cs.length) (by omega)
                          rw [show n * A.size + (j - cs.length) = j by omega] at this
                          rw [this]
                          exact n2 _ hj2
                      · by_cases hjc : j < cs.length
                        · rw [e5 j (by omega)]
                          exact a5 j hjc
                        · have hj2 : j - cs.length < ds.length := by simp at hj; omega
                          have := e4 (j - cs.length) (by omega)
                          rw [show n * A.size + (j - cs.length) = j by omega] at this
                          rw [this, List.getD_eq_getElem?_getD, List.getElem?_eq_getElem (by omega), Option.getD_some]
                          exact n3 _ (List.getElem_mem _) }
                refine ⟨_, γ.bump b (e + 64) (cs ++ ds) (γ.ι.h b) cap A.size w', rfl, ext_bump hstep, rl_bump hr hstep, rfl, ?_⟩
                exact .msl _ _ 0 _ _ _ cap cap ⟨_, bump_get_self hstep, ⟨Nat.le_refl _, fun h => h⟩, fun _ => by simp [Ghost.bump]⟩ hcase fun _ => rfl
              · have hcap : cap < n + k := by omega
                rw [hgrow hcap]
                have hge := grownCap_ge γ.w (n + k) cap A.e
                generalize hcp : grownCap γ.w (n + k) cap A.e = c at *
                generalize harr : (olds ++ news).toArray ++ Builtin.zeroCells z.cells (c - (n + k)) = arr at *
                have hasz : arr.size = c * A.size := by
                  rw [← harr]
                  simp only [Array.size_append, List.size_toArray, List.length_append, size_zeroCells, hzsz, n1, o1, hcl, hdl, ← Nat.add_mul]
                  congr 1
                  omega
                have hgetD : ∀ j, j < (cs ++ ds).length → arr.getD j undef = (olds ++ news).getD j undef := by
                  intro j hj
                  have hj' : j < (olds ++ news).length := by simp at hj ⊢; omega
                  rw [← harr]
                  simp only [Array.getD_eq_getD_getElem?, List.getD_eq_getElem?_getD]
                  rw [Array.getElem?_append_left (by simpa using hj')]
                  simp
                have hlenall : (cs ++ ds).length = (n + k) * A.size := by rw [List.length_append, hcl, hdl, Nat.add_mul]
                have hgw : Grow γ.w (γ.w.drew.alloc (.cells arr A.e)) := (Grow.drew γ.w).trans (Grow.alloc _ _)
                have hvl := vr_list o1 o2 n2
                have hstep : BlkStep γ b e cs (e + 64) (cs ++ ds) γ.w.heap.size c A.size (γ.w.drew.alloc (.cells arr A.e)) :=
                  { os := rfl, tape := rfl, output := rfl, size := hgw.size, at_ := hb, ep := by omega, nz := by omega, zs := by right; omega
                    block := fun q hq _ => hgw.block q hq
                    place := .inr (Nat.le_refl _)
                    inw := by simp
                    tys := fun ar ty fz h => ⟨ar, fz, (hgw.block _ (heap_lt h)).trans h, Nat.le_refl _⟩
                    new := by
                      refine ⟨arr, A.e, heap_alloc_new γ.w.drew _, by rw [hasz, hlenall]; exact Nat.mul_le_mul_right _ hge, by rw [hasz]; exact Nat.le_refl _, fun j hj => ?_, fun j hj => ?_⟩
                      · rw [hgetD j hj]; exact hvl j hj
                      · rw [hgetD j hj]
                        have hj2 : j < (olds ++ news).length := by simp at hj ⊢; omega
                        rw [List.getD_eq_getElem?_getD, List.getElem?_eq_getElem hj2, Option.getD_some]
                        rcases List.mem_append.1 (List.getElem_mem hj2) with h | h
                        · exact o3 _ h
                        · exact n3 _ h }
                refine ⟨_, γ.bump b (e + 64) (cs ++ ds) γ.w.heap.size c A.size (γ.w.drew.alloc (.cells arr A.e)), rfl, ext_bump hstep, rl_bump hr hstep, rfl, ?_⟩
                exact .msl _ _ 0 _ _ _ c c ⟨_, bump_get_self hstep, ⟨Nat.le_refl _, fun h => h⟩, fun _ => by simp [Ghost.bump]⟩ hge fun _ => rfl

end Go.Hk
