/- Addresses, slices, and what is read. -/
import Derived.Test.YtojahfdjfacgaaaHkQ04
namespace Go.Hk

def afieldAddr (P : Program) (t : TypeId) (x : AVal) (f : Nat) : Option AVal :=
  match tiOf P t with
  | some I => (match I.k with
    | .struct fs => (match fs[f]? with
      | some g => (match tiOf P g.2.1 with
        | some F => if F.size = 0 then none else (match x with
          | .ptr b e o => some (.ptr b e (o + g.2.2))
          | .ipt cs o => some (.ipt cs (o + g.2.2))
          | .tpt t b n => some (if g.2.2 = 0 then .tpt t b n else .ptr b 0 g.2.2)
          | _ => none)
        | none => none)
      | none => none)
    | _ => none)
  | none => none

def afield (P : Program) (t : TypeId) (x : AVal) (f : Nat) : Option AVal :=
  match tiOf P t with
  | some I => (match I.k with
    | .struct fs => (match fs[f]? with
      | some g => (match x with
        | .agg cs => apart P g.2.1 cs g.2.2
        | _ => none)
      | none => none)
    | _ => none)
  | none => none

def aindexAddr (P : Program) (t : TypeId) (x i : AVal) : Option AVal :=
  match i with
  | .int _ i => (match tiOf P t with
    | some I => (match I.k with
      | .slice e => (match tiOf P e with
        | some E => (match x with
          | .sl _ n cs => if 0 ≤ i ∧ i < n then some (.ipt cs (i.toNat * E.size)) else none
          | .msl b ep o n _ => if 0 ≤ i ∧ i < n then some (.ptr b ep (o + i.toNat * E.size)) else none
          | _ => none)
        | none => none)
      | .arr n e => (match tiOf P e with
        | some E => (match x with
          | .ptr b ep o => if 0 ≤ i ∧ i < n then some (.ptr b ep (o + i.toNat * E.size)) else none
          | .ipt cs o => if 0 ≤ i ∧ i < n then some (.ipt cs (o + i.toNat * E.size)) else none
          | _ => none)
        | none => none)
      | _ => none)
    | none => none)
  | _ => none

def aindex (P : Program) (t : TypeId) (x i : AVal) : Option AVal :=
  match i with
  | .int _ i => (match tiOf P t with
    | some I => (match I.k with
      | .str => (match x with
        | .str s => if 0 ≤ i then (s[i.toNat]?).map fun c => .int .u8 c.toNat else none
        | _ => none)
      | .arr n e => (match tiOf P e with
        | some E => (match x with
          | .agg cs => if 0 ≤ i ∧ i < n then apart P e cs (i.toNat * E.size) else none
          | _ => none)
        | none => none)
      | _ => none)
    | none => none)
  | _ => none

def abound (x : Option AVal) (y d : Nat) : Option Nat :=
  match x with
  | none => some d
  | some (.int _ i) => if 0 ≤ i ∧ i ≤ y then some i.toNat else none
  | _ => none

/-- What is left of a right, where a slice is cut from its beginning. -/
def keepR (r : Rt) (h : Nat) (cs : List AVal) : Rt :=
  match r with
  | .tok t => if h = 0 ∧ cs.isEmpty = true then .tok t else .no
  | _ => .no

def aslice (P : Program) (t : TypeId) (x : AVal) (lo hi mx : Option AVal) : Option AVal :=
  match tiOf P t with
  | some I => (match I.k with
    | .str => (match x with
      | .str s => (match mx with
        | none => (match abound hi s.length s.length with
          | some h => (match abound lo h 0 with
            | some l => some (.str ((s.drop l).take (h - l)))
            | none => none)
          | none => none)
        | some _ => none)
      | _ => none)
    | .slice e => (match tiOf P e with
      | some E => (match x with
        | .sl r n cs => (match mx with
          | none => (match abound hi n n with
            | some h => (match abound lo h 0 with
              | some l => some (.sl (keepR r h cs) (h - l) ((cs.drop (l * E.size)).take ((h - l) * E.size)))
              | none => none)
            | none => none)
          | some m => (match hi with
            | none => none
            | some h0 => (match abound (some m) n n with
              | some m => (match abound (some h0) m m with
                | some h => (match abound lo h 0 with
                  | some l => some (.sl (if m = h ∧ 0 < n then .full else .no) (h - l) ((cs.drop (l * E.size)).take ((h - l) * E.size)))
                  | none => none)
                | none => none)
              | none => none)))
        | .msl b ep o n _ => (match mx with
          | none => (match abound hi n n with
            | some h => (match abound lo h 0 with
              | some l => if E.size = 0 then none else if l < h then some (.msl b ep (o + l * E.size) (h - l) ((h - l) * E.size)) else some (.sl .no 0 [])
              | none => none)
            | none => none)
          | some _ => none)
        | _ => none)
      | none => none)
    | _ => none)
  | none => none

def aextract (x : AVal) (i : Nat) : Option AVal :=
  match x with
  | .tup a vs => (a :: vs)[i]?
  | _ => none

def anil (x : AVal) : Option AVal :=
  match x with
  | .ptr b e o => some (.ptr b e o)
  | .ipt cs o => some (.ipt cs o)
  | .tpt t b n => some (.tpt t b n)
  | .fn f a b => some (.fn f a b)
  | .ifc t v => some (.ifc t v)
  | _ => none

def aload (P : Program) (t : TypeId) (m : AMem) (x : AVal) : Option AVal :=
  match x with
  | .ptr b e o => (match m.H[b]? with
    | some (.cells e' cs) => if e = e' then apart P t cs o else none
    | _ => none)
  | .ipt cs o => apart P t cs o
  | .tpt _ b _ => (match m.H[b]? with
    | some (.cells e' cs) => if 0 = e' then apart P t cs 0 else none
    | _ => none)
  | _ => none

section sound
variable {P : Program} {κ : Cx} (w : World)

theorem afieldAddr_sound {t : TypeId} {x v : AVal} {u : Value} {f : Nat} (h : afieldAddr P t x f = some v) (hx : VR κ x u) : ∃ v', (Instr.fieldAt t u f).run P w = .ok v' w ∧ VR κ v v' := by
  unfold afieldAddr at h
  cases hI : tiOf P t with
  | none => simp [hI] at h
  | some I =>
    simp only [hI] at h
    obtain ⟨i, d, hi⟩ := tiOf_spec hI
    have hk := hi.k
    cases hkk : I.k <;> simp only [hkk, reduceCtorEq] at h
    rename_i fs
    rw [hkk] at hk
    obtain ⟨gs, rfl, rfl⟩ := tk_struct hk
    rw [List.getElem?_map] at h
    cases hg : gs.toList[f]? with
    | none => simp [hg] at h
    | some g =>
      simp only [hg, Option.map_some] at h
      have hg' : gs[f]? = some g := by simpa using hg
      cases hF : tiOf P g.type with
      | none => simp [hF] at h
      | some F =>
        simp only [hF] at h
        obtain ⟨i', d', hi'⟩ := tiOf_spec hF
        split at h
        · cases h
        · rename_i hsz
          cases x <;> simp only [reduceCtorEq, Option.some.injEq] at h <;> subst h <;> cases hx
          · rename_i b e o g' c hb
            exact ⟨.pointer (some ⟨g', o + g.offset, none⟩), by simp [Instr.fieldAt, hi.run_under w, hg', Instr.sureAddr, fieldPlace, hi'.run_size w, hsz, Addr.add_lit], .ptr _ _ _ _ _ hb⟩
          · rename_i cs o g' k f' hc hv
            exact ⟨.pointer (some ⟨g', k + o + g.offset, none⟩), by simp [Instr.fieldAt, hi.run_under w, hg', Instr.sureAddr, fieldPlace, hi'.run_size w, hsz, Addr.add_lit], by
              rw [Nat.add_assoc]; exact .ipt _ _ _ _ _ hc hv⟩
          · rename_i t' b n g' c hb ho
            refine ⟨.pointer (some ⟨g', 0 + g.offset, none⟩), by simp [Instr.fieldAt, hi.run_under w, hg', Instr.sureAddr, fieldPlace, hi'.run_size w, hsz, Addr.add_lit], ?_⟩
            split
            · rename_i h0
              rw [h0]
              exact .tpt _ _ _ _ _ hb ho
            · rw [Nat.zero_add]
              exact .ptr _ _ _ _ _ hb

theorem afield_sound {t : TypeId} {x v : AVal} {u : Value} {f : Nat} (h : afield P t x f = some v) (hx : VR κ x u) : ∃ v', (Instr.field t u f).run P w = .ok v' w ∧ VR κ v v' := by
  unfold afield at h
  cases hI : tiOf P t with
  | none => simp [hI] at h
  | some I =>
    simp only [hI] at h
    obtain ⟨i, d, hi⟩ := tiOf_spec hI
    have hk := hi.k
    cases hkk : I.k <;> simp only [hkk, reduceCtorEq] at h
    rename_i fs
    rw [hkk] at hk
    obtain ⟨gs, rfl, rfl⟩ := tk_struct hk
    rw [List.getElem?_map] at h
    cases hg : gs.toList[f]? with
    | none => simp [hg] at h
    | some g =>
      simp only [hg, Option.map_some] at h
      have hg' : gs[f]? = some g := by simpa using hg
      cases x <;> simp only [reduceCtorEq] at h
      cases hx
      rename_i cs vs hs hv ho
      obtain ⟨v', h1, h2⟩ := apart_sound w h hs hv ho
      exact ⟨v', by simp [Instr.field, hi.run_under w, hg', asAgg, h1], h2⟩

theorem aindexAddr_sound {t : TypeId} {x i v : AVal} {u j : Value} (h : aindexAddr P t x i = some v) (hx : VR κ x u) (hj : VR κ i j) : ∃ v', (Instr.indexAt t u j).run P w = .ok v' w ∧ VR κ v v' := by
  unfold aindexAddr at h
  cases i <;> simp only [reduceCtorEq] at h
  rename_i ik i
  cases hj
  cases hI : tiOf P t with
  | none => simp [hI] at h
  | some I =>
    simp only [hI] at h
    obtain ⟨ti, d, hi⟩ := tiOf_spec hI
    have hk := hi.k
    cases hkk : I.k <;> simp only [hkk, reduceCtorEq] at h
    case slice e =>
      rw [hkk] at hk
      have := tk_slice hk; subst this
      cases hE : tiOf P e with
      | none => simp [hE] at h
      | some E =>
        simp only [hE] at h
        obtain ⟨i', d', hi'⟩ := tiOf_spec hE
        cases x <;> simp only [reduceCtorEq] at h
        case sl r n cs =>
          split at h
          · rename_i hin
            simp only [Option.some.injEq] at h; subst h
            cases hx with
            | slnil => exfalso; simp only [Int.natCast_zero] at hin; omega
            | slz => exfalso; simp only [Int.natCast_zero] at hin; omega
            | sl _ _ _ g k cap f hn hc hv hr =>
              exact ⟨.pointer (some ⟨g, k + i.toNat * E.size, none⟩), by simp [Instr.indexAt, hi.run_under w, asIntOf, hin, hi'.run_size w, Addr.add_lit], .ipt _ _ _ _ f hc hv⟩
          · cases h
        case msl b ep o n k =>
          split at h
          · rename_i hin
            simp only [Option.some.injEq] at h; subst h
            cases hx with
            | msl _ _ _ _ _ g c cap hb hn ho =>
              exact ⟨.pointer (some ⟨g, o + i.toNat * E.size, none⟩), by simp [Instr.indexAt, hi.run_under w, asIntOf, hin, hi'.run_size w, Addr.add_lit], .ptr _ _ _ _ _ hb⟩
          · cases h
    case arr n e =>
      rw [hkk] at hk
      have := tk_arr hk; subst this
      cases hE : tiOf P e with
      | none => simp [hE] at h
      | some E =>
        simp only [hE] at h
        obtain ⟨i', d', hi'⟩ := tiOf_spec hE
        cases x <;> simp only [reduceCtorEq] at h
        case ptr b ep o =>
          split at h
          · rename_i hin
            simp only [Option.some.injEq] at h; subst h
            cases hx with
            | ptr _ _ _ g c hb =>
              exact ⟨.pointer (some ⟨g, o + i.toNat * E.size, none⟩), by simp [Instr.indexAt, hi.run_under w, asIntOf, hin, hi'.run_size w, Addr.add_lit, Instr.sureAddr], .ptr _ _ _ _ _ hb⟩
          · cases h
        case ipt cs o =>
          split at h
          · rename_i hin
            simp only [Option.some.injEq] at h; subst h
            cases hx with
            | ipt _ _ g k f hc hv =>
              exact ⟨.pointer (some ⟨g, k + o + i.toNat * E.size, none⟩), by simp [Instr.indexAt, hi.run_under w, asIntOf, hin, hi'.run_size w, Addr.add_lit, Instr.sureAddr], by
                rw [Nat.add_assoc]; exact .ipt _ _ _ _ f hc hv⟩
          · cases h

theorem str_get (s : List UInt8) (i : Nat) : (ByteArray.mk s.toArray)[i]? = s[i]? := by
  by_cases h : i < s.length
  · have h' : i < (ByteArray.mk s.toArray).size := by simpa [ByteArray.size] using h
    rw [ByteArray.getElem?_lt' _ _ h', List.getElem?_eq_getElem h]
    rfl
  · have h' : ¬ i < (ByteArray.mk s.toArray).size := by simpa [ByteArray.size] using h
    rw [ByteArray.getElem?_ge' _ _ h', List.getElem?_eq_none (by omega)]

theorem aindex_sound {t : TypeId} {x i v : AVal} {u j : Value} (h : aindex P t x i = some v) (hx : VR κ x u) (hj : VR κ i j) : ∃ v', (Instr.index t u j).run P w = .ok v' w ∧ VR κ v v' := by
  unfold aindex at h
  cases i <;> simp only [reduceCtorEq] at h
  rename_i ik i
  cases hj
  cases hI : tiOf P t with
  | none => simp [hI] at h
  | some I =>
    simp only [hI] at h
    obtain ⟨ti, d, hi⟩ := tiOf_spec hI
    have hk := hi.k
    cases hkk : I.k <;> simp only [hkk, reduceCtorEq] at h
    case str =>
      rw [hkk] at hk
      have := tk_str hk; subst this
      cases x <;> simp only [reduceCtorEq] at h
      rename_i s
      split at h
      · rename_i h0
        obtain ⟨c, hc, rfl⟩ := Option.map_eq_some_iff.1 h
        cases hx
        exact ⟨_, by simp [Instr.index, hi.run_under w, asIntOf, h0, str_get, hc], .int _ _⟩
      · cases h
    case arr n e =>
      rw [hkk] at hk
      have := tk_arr hk; subst this
      cases hE : tiOf P e with
      | none => simp [hE] at h
      | some E =>
        simp only [hE] at h
        obtain ⟨i', d', hi'⟩ := tiOf_spec hE
        cases x <;> simp only [reduceCtorEq] at h
        split at h
        · rename_i hin
          cases hx
          rename_i cs vs hs hv ho
          obtain ⟨v', h1, h2⟩ := apart_sound w h hs hv ho
          exact ⟨v', by simp [Instr.index, hi.run_under w, asIntOf, hin, hi'.run_size w, h1], h2⟩
        · cases h

theorem abound_some {x : AVal} {y d l : Nat} {u : Value} {c : BoundsCode} (h : abound (some x) y d = some l) (hx : VR κ x u) : (Instr.sliceBound u y c).run P w = .ok l w ∧ l ≤ y := by
  cases x <;> simp only [abound, reduceCtorEq] at h
  split at h
  · rename_i k n hin
    simp only [Option.some.injEq] at h; subst h
    cases hx
    exact ⟨by simp [Instr.sliceBound, asIntOf, hin], by omega⟩
  · cases h

def OR (κ : Cx) : Option AVal → Option Value → Prop
  | none, none => True
  | some a, some v => VR κ a v
  | _, _ => False

theorem run_bounds {lo hi : Option AVal} {lo' hi' : Option Value} {isSlice : Bool} {n cap h l : Nat} (hlo : OR κ lo lo') (hhi : OR κ hi hi') (hn : n ≤ cap) (h1 : abound hi n n = some h) (h2 : abound lo h 0 = some l) :
    (Instr.sliceBounds isSlice n cap lo' hi' none).run P w = .ok (l, h, cap) w ∧ l ≤ h ∧ h ≤ n := by
  have hh : h ≤ n ∧ (do match hi' with | some v => Instr.sliceBound v cap (if isSlice then .sliceAcap else .sliceAlen) | none => pure n : Sem Nat).run P w = .ok h w := by
    cases hi with
    | none =>
      cases hi' with
      | none => simp only [abound, Option.some.injEq] at h1; subst h1; exact ⟨Nat.le_refl _, rfl⟩
      | some _ => exact hhi.elim
    | some x =>
      cases hi' with
      | none => exact hhi.elim
      | some u =>
        have hx : VR κ x u := hhi
        cases x <;> simp only [abound, reduceCtorEq] at h1
        split at h1
        · rename_i k m hin
          simp only [Option.some.injEq] at h1; subst h1
          cases hx
          have : 0 ≤ m ∧ m ≤ (cap : Int) := ⟨hin.1, by omega⟩
          exact ⟨by omega, by simp [Instr.sliceBound, asIntOf, this]⟩
        · cases h1
  have hl : l ≤ h ∧ (do match lo' with | some v => Instr.sliceBound v h (if (none : Option Value).isSome then .slice3C else .sliceB) | none => pure 0 : Sem Nat).run P w = .ok l w := by
    cases lo with
    | none =>
      cases lo' with
      | none => simp only [abound, Option.some.injEq] at h2; subst h2; exact ⟨Nat.zero_le _, rfl⟩
      | some _ => exact hlo.elim
    | some x =>
      cases lo' with
      | none => exact hlo.elim
      | some u =>
        have := abound_some (P := P) (c := .sliceB) w h2 (show VR κ x u from hlo)
        exact ⟨this.2, by simpa using this.1⟩
  refine ⟨?_, hl.1, hh.1⟩
  have e1 := hh.2
  have e2 := hl.2
  cases hi' <;> cases lo' <;> simp_all [Instr.sliceBounds]

theorem VR.sub {r r' : Rt} {n h l sz cap cap' : Nat} {cs : List AVal} {base : Option Addr} (hv : VR κ (.sl r n cs) (.slice base n cap)) (hlh : l ≤ h) (hn : h ≤ n) (hc : h - l ≤ cap') (hr : r' = .no ∨ (r' = .full ∧ cap' = h - l)) (hcl : cap' = cap - l ∨ l + cap' ≤ n) (hz : r' = .full → 0 < n) :
    VR κ (.sl r' (h - l) ((cs.drop (l * sz)).take ((h - l) * sz))) (.slice (if cap' = 0 then base else base.map (·.add (l * sz))) (h - l) cap') := by
  have hrt : ∀ len b k, rtOK κ r' (h - l) len b k cap' := by
    intro len b k
    rcases hr with rfl | ⟨rfl, h2⟩
    · trivial
    · exact h2
  cases hv with
  | slnil _ _ =>
    have h0 : h = 0 := by omega
    have l0 : l = 0 := by omega
    subst h0; subst l0
    have hc0 : cap' = 0 := by rcases hcl with h | h <;> omega
    subst hc0
    simp only [if_true]
    simpa using VR.slnil (κ := κ) r' (hrt 0 none 0)
  | slz a _ =>
    have h0 : h = 0 := by omega
    have l0 : l = 0 := by omega
    subst h0; subst l0
    have hr0 : r' = .no := by rcases hr with h | ⟨h, _⟩; exact h; exact absurd (hz h) (Nat.lt_irrefl 0)
    subst hr0
    have hn : ∀ b : Addr, VR κ (.sl .no (0 - 0) (([] : List AVal).drop (0 * sz) |>.take ((0 - 0) * sz))) (.slice (some b) (0 - 0) cap') := fun b => by simpa using VR.slz (κ := κ) b cap'
    split
    · exact hn a
    · exact hn _
  | sl _ _ _ g k cap f hn' hcell hvv hr' =>
    by_cases h0 : cap' = 0
    · have hhl : h - l = 0 := by omega
      rw [if_pos h0, hhl]
      simp only [Nat.zero_mul, List.take_zero]
      refine .sl _ _ _ g k _ f (Nat.zero_le _) (fun j hj => absurd hj (Nat.not_lt_zero j)) (fun j hj => absurd hj (Nat.not_lt_zero j)) ?_
      have := hrt 0 (some g) k
      rw [hhl] at this
      exact this
    · rw [if_neg h0]
      simp only [Option.map_some, Addr.add_lit]
      refine .sl _ _ _ g (k + l * sz) _ (fun j => f (l * sz + j)) hc (fun j hj => ?_) (fun j hj => ?_) (hrt _ _ _)
      · simp only [List.length_take, List.length_drop] at hj
        rw [Nat.add_assoc]
        exact hcell _ (by omega)
      · simp only [List.length_take, List.length_drop] at hj
        simp only [List.getElem_take, List.getElem_drop]
        exact hvv _ (by omega)

theorem extract_str (s : List UInt8) (l h : Nat) : (ByteArray.mk s.toArray).extract l h = ⟨((s.drop l).take (h - l)).toArray⟩ := by
  apply ByteArray.ext
  simp only [ByteArray.data_extract]
  apply Array.ext'
  simp [List.extract_eq_take_drop]

theorem aslice_sound {t : TypeId} {x v : AVal} {u : Value} {lo hi mx : Option AVal} {lo' hi' mx' : Option Value} (h : aslice P t x lo hi mx = some v) (hx : VR κ x u) (hlo : OR κ lo lo') (hhi : OR κ hi hi') (hmx : OR κ mx mx') :
    ∃ v', (Instr.sliceAt t u lo' hi' mx').run P w = .ok v' w ∧ VR κ v v' := by
  unfold aslice at h
  cases hI : tiOf P t with
  | none => simp [hI] at h
  | some I =>
    simp only [hI] at h
    obtain ⟨ti, d, hi0⟩ := tiOf_spec hI
    have hk := hi0.k
    cases hkk : I.k <;> simp only [hkk, reduceCtorEq] at h
    case str =>
      rw [hkk] at hk
      have := tk_str hk; subst this
      cases x <;> simp only [reduceCtorEq] at h
      rename_i s
      cases mx with
      | some m => simp at h
      | none =>
        cases mx' with
        | some _ => exact hmx.elim
        | none =>
          simp only at h
          cases e1 : abound hi s.length s.length with
          | none => simp [e1] at h
          | some hh =>
            cases e2 : abound lo hh 0 with
            | none => simp [e1, e2] at h
            | some l =>
              simp only [e1, e2, Option.some.injEq] at h; subst h
              cases hx
              have hs : (ByteArray.mk s.toArray).size = s.length := by simp [ByteArray.size]
              obtain ⟨hr, _, _⟩ := run_bounds (P := P) (isSlice := false) w hlo hhi (Nat.le_refl _) e1 e2
              exact ⟨.string ⟨((s.drop l).take (hh - l)).toArray⟩, by simp [Instr.sliceAt, Instr.slice, hi0.run_under w, hs, hr, extract_str], .str _⟩
    case slice e =>
      rw [hkk] at hk
      have := tk_slice hk; subst this
      cases hE : tiOf P e with
      | none => simp [hE] at h
      | some E =>
        simp only [hE] at h
        obtain ⟨i', d', hi'0⟩ := tiOf_spec hE
        cases x <;> simp only [reduceCtorEq] at h
        case sl r n cs =>
          obtain ⟨base, cap, rfl, hncap⟩ : ∃ base cap, u = .slice base n cap ∧ n ≤ cap := by
            cases hx with
            | slnil => exact ⟨_, _, rfl, Nat.le_refl _⟩
            | slz => exact ⟨_, _, rfl, Nat.zero_le _⟩
            | sl _ _ _ g k cap f hn => exact ⟨_, _, rfl, hn⟩
          cases mx with
          | none =>
            cases mx' with
            | some _ => exact hmx.elim
            | none =>
              simp only at h
              cases e1 : abound hi n n with
              | none => simp [e1] at h
              | some hh =>
                cases e2 : abound lo hh 0 with
                | none => simp [e1, e2] at h
                | some l =>
                  simp only [e1, e2, Option.some.injEq] at h; subst h
                  obtain ⟨hr, hlh, hhn⟩ := run_bounds (P := P) (isSlice := true) w hlo hhi hncap e1 e2
                  have hsub : VR κ (.sl (keepR r hh cs) (hh - l) ((cs.drop (l * E.size)).take ((hh - l) * E.size))) (.slice (if cap - l = 0 then base else base.map (·.add (l * E.size))) (hh - l) (cap - l)) := by
                    have hno := VR.sub (sz := E.size) (r' := .no) (cap' := cap - l) hx hlh hhn (by omega) (.inl rfl) (.inl rfl) (fun h => by cases h)
                    cases r with
                    | no => exact hno
                    | full => exact hno
                    | nil => exact hno
                    | tok q =>
                      simp only [keepR]
                      split
                      · rename_i h0
                        obtain ⟨h0, h1⟩ := h0
                        have h1 : cs = [] := by simpa using h1
                        subst h0; subst h1
                        have hl0 : l = 0 := by omega
                        subst hl0
                        simp only [Nat.zero_mul, Nat.sub_zero, List.drop_nil, List.take_nil]
                        cases hx with
                        | slnil _ hr' => simpa using VR.slnil (κ := κ) (.tok q) hr'
                        | sl _ _ _ g k _ f hn hc hv hr' =>
                          have : VR κ (.sl (.tok q) 0 []) (.slice (some ⟨g, k, none⟩) 0 cap) := .sl _ _ _ g k cap f (Nat.zero_le _) hc hv hr'
                          by_cases hc0 : cap = 0
                          · rw [if_pos hc0]; exact this
                          · rw [if_neg hc0]; simpa [Addr.add_lit] using this
                      · exact hno
                  refine ⟨_, ?_, hsub⟩
                  simp only [Instr.sliceAt, Instr.slice, Sem.run_bind, hi0.run_under w, Result.andThen_ok, hr, hi'0.run_size w, Sem.run_pure]
                  by_cases hcl : cap = l
                  · subst hcl; simp
                  · rw [if_neg hcl, if_neg (by omega)]
          | some m0 =>
            cases mx' with
            | none => exact hmx.elim
            | some mu =>
              have hm0 : VR κ m0 mu := hmx
              simp only at h
              cases hi with
              | none => simp at h
              | some h0 =>
                cases hi' with
                | none => exact hhi.elim
                | some hu =>
                  have hh0 : VR κ h0 hu := hhi
                  simp only at h
                  cases e0 : abound (some m0) n n with
                  | none => simp [e0] at h
                  | some m =>
                    simp only [e0] at h
                    cases e1 : abound (some h0) m m with
                    | none => simp [e1] at h
                    | some hh =>
                      cases e2 : abound lo hh 0 with
                      | none => simp [e1, e2] at h
                      | some l =>
                        simp only [e1, e2, Option.some.injEq] at h; subst h
                        have r0 : (Instr.sliceBound mu cap .slice3Acap).run P w = .ok m w ∧ m ≤ n := by
                          cases m0 <;> simp only [abound, reduceCtorEq] at e0
                          split at e0
                          · rename_i k q hin
                            simp only [Option.some.injEq] at e0; subst e0
                            cases hm0
                            have : 0 ≤ q ∧ q ≤ (cap : Int) := ⟨hin.1, by omega⟩
                            exact ⟨by simp [Instr.sliceBound, asIntOf, this], by omega⟩
                          · cases e0
                        have r1 := abound_some (P := P) (c := .slice3B) w e1 hh0
                        have r2 : (do match lo' with | some v => Instr.sliceBound v hh .slice3C | none => pure 0 : Sem Nat).run P w = .ok l w ∧ l ≤ hh := by
                          cases lo with
                          | none =>
                            cases lo' with
                            | none => simp only [abound, Option.some.injEq] at e2; subst e2; exact ⟨rfl, Nat.zero_le _⟩
                            | some _ => exact hlo.elim
                          | some x =>
                            cases lo' with
                            | none => exact hlo.elim
                            | some u => exact abound_some (P := P) (c := .slice3C) w e2 hlo
                        have hsub := VR.sub (sz := E.size) (r' := if m = hh ∧ 0 < n then .full else .no) (cap' := m - l) hx r2.2 (by omega) (by omega) (by
                          by_cases hmh : m = hh ∧ 0 < n
                          · rw [if_pos hmh]; exact .inr ⟨rfl, by omega⟩
                          · rw [if_neg hmh]; exact .inl rfl) (.inr (by omega)) (fun h => by
                          by_cases hmh : m = hh ∧ 0 < n
                          · exact hmh.2
                          · rw [if_neg hmh] at h; cases h)
                        refine ⟨_, ?_, hsub⟩
                        have r2' := r2.1
                        cases lo' <;> simp_all [Instr.sliceAt, Instr.slice, Instr.sliceBounds, hi0.run_under w, hi'0.run_size w] <;> (by_cases hcl : m = l <;> simp [hcl] <;> omega)
        case msl b ep o n k =>
          cases mx with
          | some m0 => simp at h
          | none =>
            cases mx' with
            | some _ => exact hmx.elim
            | none =>
              simp only at h
              cases hx with
              | msl _ _ _ _ _ g c cap hb hn ho =>
                cases e1 : abound hi n n with
                | none => simp [e1] at h
                | some hh =>
                  cases e2 : abound lo hh 0 with
                  | none => simp [e1, e2] at h
                  | some l =>
                    simp only [e1, e2] at h
                    obtain ⟨hr, hlh, hhn⟩ := run_bounds (P := P) (isSlice := true) w hlo hhi hn e1 e2
                    have hrun : (Instr.sliceAt t (.slice (some ⟨g, o, none⟩) n cap) lo' hi' none).run P w = .ok (.slice (if cap = l then some ⟨g, o, none⟩ else some ⟨g, o + l * E.size, none⟩) (hh - l) (cap - l)) w := by
                      simp only [Instr.sliceAt, Instr.slice, Sem.run_bind, hi0.run_under w, Result.andThen_ok, hr, hi'0.run_size w, Sem.run_pure, Option.map_some, Addr.add_lit]
                    split at h
                    · cases h
                    · rename_i hE0
                      split at h
                      · rename_i hlt
                        simp only [Option.some.injEq] at h; subst h
                        refine ⟨_, hrun, ?_⟩
                        rw [if_neg (by omega)]
                        refine .msl _ _ _ _ _ _ _ _ hb (by omega) (fun h0 => ?_)
                        have h1 : o = 0 ∧ l * E.size = 0 := by omega
                        have h2 : l = 0 := by
                          rcases Nat.mul_eq_zero.1 h1.2 with h | h
                          · exact h
                          · exact absurd h hE0
                        have := ho h1.1
                        omega
                      · rename_i hlt
                        simp only [Option.some.injEq] at h; subst h
                        refine ⟨_, hrun, ?_⟩
                        have : hh - l = 0 := by omega
                        rw [this]
                        split
                        · exact .sl _ _ _ g o _ (fun _ => undef) (Nat.zero_le _) (fun j hj => absurd hj (Nat.not_lt_zero j)) (fun j hj => absurd hj (Nat.not_lt_zero j)) trivial
                        · exact .sl _ _ _ g _ _ (fun _ => undef) (Nat.zero_le _) (fun j hj => absurd hj (Nat.not_lt_zero j)) (fun j hj => absurd hj (Nat.not_lt_zero j)) trivial

theorem aextract_sound {x v : AVal} {u : Value} {i : Nat} (h : aextract x i = some v) (hx : VR κ x u) : ∃ v', (Instr.extract u i).run P w = .ok v' w ∧ VR κ v v' := by
  cases x <;> simp only [aextract, reduceCtorEq] at h
  cases hx with
  | tup a cs vs hs hv =>
    obtain ⟨hlt, rfl⟩ := List.getElem?_eq_some_iff.1 h
    have hlt' : i < vs.size := by omega
    refine ⟨vs[i], by simp [Instr.extract, hlt'], ?_⟩
    have := hv i hlt
    simpa [Array.getD, hlt'] using this

end sound

/-- What is read of memory. -/
theorem aload_sound0 {P : Program} {γ : Ghost} (hr : Rl γ) {t : TypeId} {x v : AVal} {u : Value} (h : aload P t γ.S x = some v) (hx : VR γ.cx x u) (hnt : ∀ t b n, x ≠ .tpt t b n) : ∃ v', (Instr.loadAt t u).run P γ.w = .ok v' γ.w ∧ VR γ.cx v v' := by
  have key : ∀ (g k o : Nat) (cs : List AVal) (f : Nat → Value), (∀ j, j < cs.length → γ.w.cell? ⟨g, k + j, none⟩ = some (f j) ∧ (f j).oneCell' = true) → (∀ (j : Nat) (h : j < cs.length), VR γ.cx (cs[j]) (f j)) → apart P t cs o = some v →
      ∃ v', (loadVar t ⟨g, k + o, none⟩).run P γ.w = .ok v' γ.w ∧ VR γ.cx v v' := by
    intro g k o cs f hc hv ha
    unfold apart at ha
    cases hI : tiOf P t with
    | none => simp [hI] at ha
    | some I =>
      simp only [hI] at ha
      obtain ⟨i, d, hi⟩ := tiOf_spec hI
      cases hk : I.k.agg with
      | true =>
        simp only [hk, if_true] at ha
        split at ha
        · rename_i hle
          simp only [Option.some.injEq] at ha; subst ha
          have hl := run_loadCells (P := P) γ.w ⟨g, k + o, none⟩ I.size (fun j => f (o + j)) (fun j hj => by
            rw [Addr.add_lit, Nat.add_assoc]; exact (hc _ (by omega)).1)
          refine ⟨.agg ((List.range I.size).map fun j => f (o + j)).toArray, by simp only [loadVar, Sem.run_bind, hi.run_agg γ.w, Result.andThen_ok, hk, if_true, hi.run_size γ.w, hl, Sem.run_pure], .agg _ _ (by simp; omega) (fun j hj => ?_) (fun j hj => ?_)⟩
          · simp only [List.length_take, List.length_drop] at hj
            have hj' : j < I.size := by omega
            simp [Array.getD, hj', hv]
          · simp only [List.length_take, List.length_drop] at hj
            have hj' : j < I.size := by omega
            simpa [Array.getD, hj'] using (hc (o + j) (by omega)).2
        · cases ha
      | false =>
        simp only [hk, Bool.false_eq_true, if_false] at ha
        obtain ⟨hlt, rfl⟩ := List.getElem?_eq_some_iff.1 ha
        exact ⟨f o, by simp [loadVar, hi.run_agg γ.w, hk, (hc o hlt).1], hv o hlt⟩
  cases x <;> simp only [aload, reduceCtorEq] at h
  case tpt t' b n => exact absurd rfl (hnt t' b n)
  case ptr b e o =>
    cases hb : γ.S.H[b]? with
    | none => simp [hb] at h
    | some x =>
      cases x with
      | amap es => simp [hb] at h
      | iter _ _ _ => simp [hb] at h
      | loop _ _ _ _ _ _ _ => simp [hb] at h
      | cells e' cs =>
        simp only [hb] at h
        split at h
        · rename_i he; subst he
          obtain ⟨arr, ty, hh, hlen, _, hv, ho⟩ := hr.cells b e cs hb
          cases hx with
          | ptr _ _ _ g c hblk =>
            obtain ⟨y, hy, _, hy2⟩ := hblk
            rw [hb] at hy
            cases hy
            obtain ⟨rfl, _⟩ := hy2 rfl
            have := key (γ.ι.h b) 0 o cs (fun j => arr.getD j undef) (fun j hj => by
              rw [Nat.zero_add, cell_of_row _ _ _ _ _ _ hh]
              have : j < arr.size := by omega
              exact ⟨by simp [Array.getD, this], ho j hj⟩) hv h
            simp only [Nat.zero_add] at this
            obtain ⟨v', h1, h2⟩ := this
            exact ⟨v', by simp [Instr.loadAt, Instr.sureAddr, h1], h2⟩
        · cases h
  case ipt cs o =>
    cases hx with
    | ipt _ _ g k f hc hv =>
      obtain ⟨v', h1, h2⟩ := key g k o cs f (fun j hj => ⟨(hc j hj).1, (hc j hj).2.1⟩) hv h
      exact ⟨v', by simp [Instr.loadAt, Instr.sureAddr, h1], h2⟩

theorem aload_sound {P : Program} {γ : Ghost} (hr : Rl γ) {t : TypeId} {x v : AVal} {u : Value} (h : aload P t γ.S x = some v) (hx : VR γ.cx x u) : ∃ v', (Instr.loadAt t u).run P γ.w = .ok v' γ.w ∧ VR γ.cx v v' := by
  by_cases hn : ∃ t b n, x = .tpt t b n
  · obtain ⟨t', b, n, rfl⟩ := hn
    cases hx with
    | tpt _ _ _ g c hb ho => exact aload_sound0 hr (x := .ptr b 0 0) h (.ptr _ _ _ _ _ hb) (fun _ _ _ h => by cases h)
  · exact aload_sound0 hr h hx fun t b n he => hn ⟨t, b, n, he⟩

end Go.Hk
