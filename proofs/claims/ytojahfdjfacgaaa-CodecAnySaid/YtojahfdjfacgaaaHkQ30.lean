import Derived.Test.YtojahfdjfacgaaaHkQ26
import Derived.Test.YtojahfdjfacgaaaHkQ28
/- Layer 14: tables ars bytes. -/
set_option linter.unusedSimpArgs false
set_option linter.unusedVariables false
namespace Go.Hk
/-- A number's two bytes. -/
def by2 (n : Int) : List UInt8 := [UInt8.ofNat ((n + 1).toNat / 256), UInt8.ofNat ((n + 1).toNat % 256)]
def encL (l : List Int) : List UInt8 := l.flatMap by2
theorem encL_nil : encL [] = [] := rfl
theorem encL_len : ∀ l : List Int, (encL l).length = 2 * l.length
  | [] => rfl
  | x :: l => by
    have := encL_len l
    simp only [encL, List.flatMap_cons, List.length_append, List.length_cons, by2, List.length_nil] at *
    omega
theorem encL_append (l r : List Int) : encL (l ++ r) = encL l ++ encL r := by simp [encL]
theorem encL_one (n : Int) : encL [n] = by2 n := by simp [encL]
theorem encL_take {l : List Int} {i : Nat} {n : Int} (h : l[i]? = some n) : encL (l.take (i + 1)) = encL (l.take i) ++ by2 n := by
  obtain ⟨hi, rfl⟩ := List.getElem?_eq_some_iff.1 h
  rw [List.take_succ_eq_append_getElem hi, encL_append, encL_one]
/-- A Builder in block b, its bytes under the token t. -/
def bW (B b t : Nat) (s : List UInt8) : ABlk := .cells 0 [.tpt B b 2, .sl (.tok t) s.length (fl cU s)]
/-- What its token says. -/
def tW (e : Nat) (s : List UInt8) : Nat × (Nat × Nat) := (s.length, (1, e))
def numOK (n : Int) : Prop := -1 ≤ n ∧ n < 65535
theorem set_self {α : Type} {l : List α} {i : Nat} {x : α} (h : l[i]? = some x) : l.set i x = l := by
  apply List.ext_getElem?
  intro j
  rw [List.getElem?_set]
  split
  · rename_i he
    subst he
    obtain ⟨hi, rfl⟩ := List.getElem?_eq_some_iff.1 h
    simp [hi]
  · rfl
theorem tok_of {T : List (Nat × (Nat × Nat))} {t n : Nat} {z : Nat × Nat} (h : okR T (.tok t) n z = true) : T[t]? = some (n, z) := by simpa [okR] using h
theorem bld_bW {B e b t : Nat} {v : AVal} {H : List ABlk} {T : List (Nat × (Nat × Nat))} {X Y : List UInt8} (hl : b < H.length) (htl : t < T.length) (h : X.length + Y.length < 1000000000) :
    bldR B e v b (H.set b (bW B b t X)) (T.set t (tW e X)) Y (H.set b (bW B b t X))[b]? = some (v, ⟨H.set b (bW B b t (X ++ Y)), T.set t (tW e (X ++ Y))⟩) := by
  rw [List.getElem?_set_self hl]
  unfold bW
  rw [bld_on (by simp [okR, htl, tW]) rfl h]
  simp [tW]
theorem by2_nat {k : Nat} : by2 ((k : Int) - 1) = [UInt8.ofNat (k / 256), UInt8.ofNat (k % 256)] := by
  unfold by2
  rw [show ((k : Int) - 1 + 1).toNat = k by omega]
end Go.Hk
namespace Go.Hk
/-- A table's lists, in order. -/
def listsOf (p : Pk) : List (List Int) := [p.mp, p.bs, p.df, p.nx, p.ck, p.ac, p.st]
def magic : List UInt8 := [72, 75, 76, 49]
def headOf (p : Pk) : List Int := [p.wd, (p.bs.length : Nat), (p.nx.length : Nat), (p.st.length : Nat)]
def encTo (p : Pk) (i : Nat) : List UInt8 := (magic ++ encL (headOf p)) ++ ((listsOf p).take i).flatMap encL
def encP (p : Pk) : List UInt8 := encTo p 7
theorem encTo_zero (p : Pk) : encTo p 0 = magic ++ encL (headOf p) := by simp [encTo]
theorem encTo_next {p : Pk} {i : Nat} {l : List Int} (h : (listsOf p)[i]? = some l) : encTo p (i + 1) = encTo p i ++ encL l := by
  obtain ⟨hi, rfl⟩ := List.getElem?_eq_some_iff.1 h
  unfold encTo
  rw [List.take_succ_eq_append_getElem hi, List.flatMap_append, List.append_assoc (magic ++ encL (headOf p))]
  simp only [List.flatMap_cons, List.flatMap_nil, List.append_nil]
structure valP (p : Pk) : Prop where
  bs : p.bs.length ≤ 500
  nx : p.nx.length ≤ 50000
  df : p.df.length = p.bs.length
  ac : p.ac.length = p.bs.length
  ck : p.ck.length = p.nx.length
  mp : p.mp.length = 256
  st : p.st.length ≤ 16
  wd : 1 ≤ p.wd ∧ p.wd ≤ 256
  dfo : dfTo p.df p.df.length = true
  mpo : ∀ n ∈ p.mp, 0 ≤ n ∧ n < p.wd
  bso : ∀ n ∈ p.bs, 0 ≤ n ∧ n < (p.nx.length : Int) + 1
  nxo : ∀ n ∈ p.nx, -1 ≤ n ∧ n < (p.bs.length : Int)
  cko : ∀ n ∈ p.ck, -1 ≤ n ∧ n < (p.bs.length : Int)
  aco : ∀ n ∈ p.ac, -1 ≤ n ∧ n < 40
  sto : ∀ n ∈ p.st, -1 ≤ n ∧ n < (p.bs.length : Int)
theorem validP_iff {p : Pk} : validP p = true ↔ valP p := by
  unfold validP sizesP listsP
  simp only [Bool.and_eq_true, decide_eq_true_eq, withinI_iff]
  constructor
  · rintro ⟨⟨⟨⟨⟨⟨⟨⟨⟨h1, h2⟩, h3⟩, h4⟩, h5⟩, h6⟩, h7⟩, h8⟩, h9⟩, ⟨⟨⟨⟨⟨a, b⟩, c⟩, d⟩, e⟩, f⟩⟩
    exact ⟨h1, h2, h3, h4, h5, h6, h7, h8, h9, a, b, c, d, e, f⟩
  · rintro ⟨h1, h2, h3, h4, h5, h6, h7, h8, h9, a, b, c, d, e, f⟩
    exact ⟨⟨⟨⟨⟨⟨⟨⟨⟨h1, h2⟩, h3⟩, h4⟩, h5⟩, h6⟩, h7⟩, h8⟩, h9⟩, ⟨⟨⟨⟨⟨a, b⟩, c⟩, d⟩, e⟩, f⟩⟩
theorem dfTo_get {l : List Int} {n i : Nat} {k : Int} (h : dfTo l n = true) (hi : i < n) (hg : l[i]? = some k) : -1 ≤ k ∧ k < i := by
  have := dfTo_le h (show i + 1 ≤ n by omega)
  rw [dfTo_next hg] at this
  simp only [outI, Bool.and_eq_true, Bool.not_eq_true', Bool.or_eq_false_iff, decide_eq_false_iff_not] at this
  omega
theorem valP.dfm {p : Pk} (h : valP p) : ∀ n ∈ p.df, -1 ≤ n ∧ n < (p.bs.length : Int) := by
  intro n hn
  obtain ⟨i, hi, rfl⟩ := List.getElem_of_mem hn
  have h1 := dfTo_get h.dfo hi (k := p.df[i]) (by simp [hi])
  have h2 := h.df
  generalize p.df[i] = k at *
  omega
theorem valP.nums {p : Pk} (h : valP p) : ∀ l ∈ listsOf p, (∀ n ∈ l, numOK n) ∧ l.length ≤ 50000 := by
  have h0 := h.dfm
  obtain ⟨h1, h2, h3, h4, h5, h6, h7, h8, h9, a, b, c, d, e, f⟩ := h
  intro l hl
  simp only [listsOf, List.mem_cons, List.not_mem_nil, or_false] at hl
  unfold numOK
  rcases hl with rfl | rfl | rfl | rfl | rfl | rfl | rfl
  · exact ⟨fun n hn => by have := a n hn; omega, by omega⟩
  · exact ⟨fun n hn => by have := b n hn; omega, by omega⟩
  · exact ⟨fun n hn => by have := h0 n hn; omega, by omega⟩
  · exact ⟨fun n hn => by have := c n hn; omega, by omega⟩
  · exact ⟨fun n hn => by have := d n hn; omega, by omega⟩
  · exact ⟨fun n hn => by have := e n hn; omega, by omega⟩
  · exact ⟨fun n hn => by have := f n hn; omega, by omega⟩
theorem valP.head {p : Pk} (h : valP p) : ∀ n ∈ headOf p, numOK n := by
  obtain ⟨h1, h2, h3, h4, h5, h6, h7, h8, h9, a, b, c, d, e, f⟩ := h
  intro n hn
  simp only [headOf, List.mem_cons, List.not_mem_nil, or_false] at hn
  unfold numOK
  rcases hn with rfl | rfl | rfl | rfl <;> omega
theorem encTo_len {p : Pk} (h : valP p) (i : Nat) : 12 ≤ (encTo p i).length ∧ (encTo p i).length ≤ 1000000 := by
  have hn := h.nums
  unfold encTo
  rw [List.length_append, List.length_append, encL_len]
  have h4 : (headOf p).length = 4 := rfl
  have hm : magic.length = 4 := rfl
  have key : ∀ L : List (List Int), (∀ l ∈ L, l.length ≤ 50000) → (L.flatMap encL).length ≤ L.length * 100000 := by
    intro L
    induction L with
    | nil => intro _; simp
    | cons l L ih =>
      intro h
      have h1 := h l (by simp)
      have h2 := ih fun x hx => h x (by simp [hx])
      simp only [List.flatMap_cons, List.length_append, encL_len, List.length_cons]
      omega
  have := key ((listsOf p).take i) fun l hl => (hn l (List.mem_of_mem_take hl)).2
  have h7 : ((listsOf p).take i).length ≤ 7 := by rw [List.length_take]; exact Nat.min_le_right _ _
  rw [h4, hm]
  omega
end Go.Hk
namespace Go.Hk
theorem bW_inj {B b t t' : Nat} {s s' : List UInt8} (h : bW B b t s = bW B b t' s') : t = t' ∧ s = s' := by
  unfold bW at h
  have h1 := (ABlk.cells.inj h).2
  have h2 := (List.cons.inj (List.cons.inj h1).2).1
  obtain ⟨a, b, c⟩ := AVal.sl.inj h2
  refine ⟨Rt.tok.inj a, ?_⟩
  rw [fl_cU_map, fl_cU_map] at c
  have : ∀ (l r : List UInt8), l.map (fun c => AVal.int .u8 (c.toNat : Nat)) = r.map (fun c => AVal.int .u8 (c.toNat : Nat)) → l = r := by
    intro l
    induction l with
    | nil => intro r h; cases r <;> simp at h; rfl
    | cons x l ih =>
      intro r h
      cases r with
      | nil => simp at h
      | cons y r =>
        simp only [List.map_cons, List.cons.injEq] at h
        have h0 := (AVal.int.inj h.1).2
        rw [ih r h.2, show x = y from UInt8.toNat_inj.1 (by omega)]
  exact this _ _ c
theorem slr_inj {q q' : Rt} {l r : List Int} (h : AVal.sl q l.length (fl cI l) = .sl q' r.length (fl cI r)) : q = q' ∧ l = r := by
  obtain ⟨a, b, c⟩ := AVal.sl.inj h
  exact ⟨a, fl_inj cI_len (fun _ _ _ _ => cI_inj) b c⟩
end Go.Hk
/- Layer 14: bytes ars tables. -/
namespace Go.Hk
/-- The number whose bytes lie at twice i. -/
def numAt (s : List UInt8) (i : Nat) : Int := 256 * ((s.getD (2 * i) 0).toNat : Int) + ((s.getD (2 * i + 1) 0).toNat : Int) - 1
def ucL (s : List UInt8) (n : Nat) : List Int := (List.range n).map (numAt s)
theorem ucL_next (s : List UInt8) (n : Nat) : ucL s (n + 1) = ucL s n ++ [numAt s n] := by simp [ucL, List.range_succ]
theorem ucL_len (s : List UInt8) (n : Nat) : (ucL s n).length = n := by simp [ucL]
theorem numAt_ok (s : List UInt8) (i : Nat) : -1 ≤ numAt s i ∧ numAt s i ≤ 65534 := by
  unfold numAt
  have h1 := (s.getD (2 * i) 0).toNat_lt
  have h2 := (s.getD (2 * i + 1) 0).toNat_lt
  omega
theorem ucL_ok {s : List UInt8} {n : Nat} {x : Int} (h : x ∈ ucL s n) : -1 ≤ x ∧ x ≤ 65534 := by
  unfold ucL at h
  obtain ⟨i, _, rfl⟩ := List.mem_map.1 h
  exact numAt_ok s i
def takeN (s : List UInt8) (n : Int) : Option (List Int × List UInt8) := if n < 0 ∨ (s.length : Int) < 2 * n then none else some (ucL s n.toNat, s.drop (2 * n.toNat))
/-- The first i lists, and what is left. -/
def tkTo (ns : List Int) (s : List UInt8) : Nat → Option (List (List Int) × List UInt8)
  | 0 => some ([], s)
  | i + 1 => (tkTo ns s i).bind fun a => (takeN a.2 (ns.getD i 0)).bind fun b => some (a.1 ++ [b.1], b.2)
theorem tkTo_none {ns : List Int} {s : List UInt8} {i : Nat} (h : tkTo ns s i = none) : ∀ k, tkTo ns s (i + k) = none
  | 0 => h
  | k + 1 => by
    show ((tkTo ns s (i + k)).bind _) = none
    rw [tkTo_none h k]; rfl
theorem tkTo_some {ns : List Int} {s : List UInt8} : ∀ {i : Nat} {ls : List (List Int)} {r : List UInt8}, tkTo ns s i = some (ls, r) → ls.length = i ∧ r.length ≤ s.length
  | 0, ls, r, h => by cases h; exact ⟨rfl, Nat.le_refl _⟩
  | i + 1, ls, r, h => by
    simp only [tkTo, Option.bind_eq_some_iff] at h
    obtain ⟨⟨a1, a2⟩, h1, ⟨b1, b2⟩, h2, h3⟩ := h
    cases h3
    obtain ⟨k1, k2⟩ := tkTo_some h1
    refine ⟨by simp [k1], ?_⟩
    unfold takeN at h2
    split at h2
    · cases h2
    · cases h2
      simp only [List.length_drop]
      omega
def manyOf (h : List Int) : List Int := [256, h.getD 1 0, h.getD 1 0, h.getD 2 0, h.getD 2 0, h.getD 1 0, h.getD 3 0]
def pkOf (w : Int) (ls : List (List Int)) : Pk := ⟨ls.getD 0 [], w, ls.getD 1 [], ls.getD 2 [], ls.getD 3 [], ls.getD 4 [], ls.getD 5 [], ls.getD 6 []⟩
def noPk : Pk := ⟨[], 0, [], [], [], [], [], []⟩
/-- What bytes are. -/
def decB (s : List UInt8) : Option Pk :=
  (takeN s 4).bind fun a => (tkTo (manyOf a.1) a.2 7).bind fun b => if b.2 = [] ∧ validP (pkOf (a.1.getD 0 0) b.1) = true then some (pkOf (a.1.getD 0 0) b.1) else none
def decP (s : List UInt8) : Option Pk := if s.take 4 = magic then decB (s.drop 4) else none
def decV (o : Option Pk) : AVal := match o with
  | some p => .tup (pkV p) [.int .i64 0]
  | none => .tup (pkV noPk) [.int .i64 60]
end Go.Hk
namespace Go.Hk
theorem numAt_at {s : List UInt8} {i : Nat} (h : 2 * i + 1 < s.length) : ∃ a b : UInt8, s[(2 * (i : Int)).toNat]? = some a ∧ s[(2 * (i : Int) + 1).toNat]? = some b ∧ numAt s i = 256 * (a.toNat : Int) + (b.toNat : Int) - 1 ∧ a.toNat < 256 ∧ b.toNat < 256 := by
  refine ⟨s[2 * i], s[2 * i + 1], ?_, ?_, ?_, UInt8.toNat_lt _, UInt8.toNat_lt _⟩
  · rw [show (2 * (i : Int)).toNat = 2 * i by omega]
    exact List.getElem?_eq_getElem (by omega)
  · rw [show (2 * (i : Int) + 1).toNat = 2 * i + 1 by omega]
    exact List.getElem?_eq_getElem h
  · simp [numAt, List.getD_eq_getElem?_getD, List.getElem?_eq_getElem h, List.getElem?_eq_getElem (show 2 * i < s.length by omega)]
end Go.Hk
namespace Go.Hk
theorem takeN_some {s : List UInt8} {n : Int} {l : List Int} {r : List UInt8} (h : takeN s n = some (l, r)) : l.length ≤ s.length ∧ r.length ≤ s.length ∧ (l.length : Int) = n ∧ ∀ x ∈ l, -1 ≤ x ∧ x ≤ 65534 := by
  unfold takeN at h
  split at h
  · cases h
  · rename_i hc
    cases h
    refine ⟨by rw [ucL_len]; omega, by simp, by rw [ucL_len]; omega, fun x hx => ucL_ok hx⟩
theorem tkTo_next {ns : List Int} {s : List UInt8} {i : Nat} {ls : List (List Int)} {r : List UInt8} (h : tkTo ns s i = some (ls, r)) {n : Int} (hn : ns[i]? = some n) : tkTo ns s (i + 1) = (takeN r n).bind fun b => some (ls ++ [b.1], b.2) := by
  simp only [tkTo, h, Option.bind_some, List.getD_eq_getElem?_getD, hn, Option.getD_some]
theorem tkTo_lens {ns : List Int} {s : List UInt8} : ∀ {i : Nat} {ls : List (List Int)} {r : List UInt8}, tkTo ns s i = some (ls, r) → ∀ l ∈ ls, l.length ≤ s.length
  | 0, ls, r, h => by cases h; simp
  | i + 1, ls, r, h => by
    simp only [tkTo, Option.bind_eq_some_iff] at h
    obtain ⟨⟨a1, a2⟩, h1, ⟨b1, b2⟩, h2, h3⟩ := h
    cases h3
    intro l hl
    rcases List.mem_append.1 hl with hl | hl
    · exact tkTo_lens h1 l hl
    · rw [List.mem_singleton.1 hl]
      exact Nat.le_trans (takeN_some h2).1 (tkTo_some h1).2
theorem getD_ok {h : List Int} (hh : ∀ x ∈ h, -1 ≤ x ∧ x ≤ 65534) (i : Nat) : -1 ≤ h.getD i 0 ∧ h.getD i 0 ≤ 65534 := by
  rw [List.getD_eq_getElem?_getD]
  cases hi : h[i]? with
  | none => simp
  | some x => exact hh x (List.mem_of_getElem? hi)
theorem many_ok {h : List Int} (hh : ∀ x ∈ h, -1 ≤ x ∧ x ≤ 65534) {n : Int} (hn : n ∈ manyOf h) : -1 ≤ n ∧ n ≤ 65534 := by
  have h1 := getD_ok hh 1
  have h2 := getD_ok hh 2
  have h3 := getD_ok hh 3
  simp only [manyOf, List.mem_cons, List.not_mem_nil, or_false] at hn
  rcases hn with rfl | rfl | rfl | rfl | rfl | rfl | rfl <;> omega
theorem decB_none1 {s : List UInt8} (h : takeN s 4 = none) : decB s = none := by simp [decB, h]
theorem decB_none2 {s s0 left : List UInt8} {h : List Int} {ls : List (List Int)} {i : Nat} {n : Int} (h1 : takeN s 4 = some (h, s0)) (h2 : tkTo (manyOf h) s0 i = some (ls, left)) (hn : (manyOf h)[i]? = some n) (h3 : takeN left n = none) (hi : i < 7) : decB s = none := by
  have h4 : tkTo (manyOf h) s0 (i + 1) = none := by rw [tkTo_next h2 hn, h3]; rfl
  have h5 := tkTo_none h4 (6 - i)
  rw [show i + 1 + (6 - i) = 7 by omega] at h5
  simp [decB, h1, h5]
theorem decB_end {s s0 left : List UInt8} {h : List Int} {ls : List (List Int)} (h1 : takeN s 4 = some (h, s0)) (h2 : tkTo (manyOf h) s0 7 = some (ls, left)) : decB s = if left = [] ∧ validP (pkOf (h.getD 0 0) ls) = true then some (pkOf (h.getD 0 0) ls) else none := by
  simp [decB, h1, h2]
/-- Lists of numbers, each in one cell. -/
def cLI (l : List Int) : List AVal := [slc cI l]
theorem cLI_len (l : List Int) : (cLI l).length = 1 := rfl
theorem cLI_strip (l : List Int) : stripL (cLI l) = some (cLI l) := by simp only [cLI, stripL, slc, strip, l_s_cI]
theorem l_s_cLI {l : List (List Int)} : stripL (fl cLI l) = some (fl cLI l) := fl_strip cLI_strip l
attribute [go_sem] l_s_cLI
theorem seven {α : Type} {l : List α} (h : l.length = 7) : ∃ a b c d e f g, l = [a, b, c, d, e, f, g] := by
  match l, h with
  | [a, b, c, d, e, f, g], _ => exact ⟨a, b, c, d, e, f, g, rfl⟩
theorem four {α : Type} {l : List α} (h : l.length = 4) : ∃ a b c d, l = [a, b, c, d] := by
  match l, h with
  | [a, b, c, d], _ => exact ⟨a, b, c, d, rfl⟩
theorem pkOf_ok {w : Int} {ls : List (List Int)} {n : Nat} (h : ∀ l ∈ ls, l.length ≤ n) (hn : n < 400000000) : okPk (pkOf w ls) := by
  have hg : ∀ i, (ls.getD i []).length ≤ n := by
    intro i
    rw [List.getD_eq_getElem?_getD]
    cases hi : ls[i]? with
    | none => simp
    | some x => exact h x (List.mem_of_getElem? hi)
  unfold pkOf
  constructor <;> exact Nat.lt_of_le_of_lt (hg _) (by omega)
end Go.Hk
namespace Go.Hk
end Go.Hk
namespace Go.Hk
def pk0 : Pk := ⟨List.replicate 256 0, 1, [], [], [], [], [], []⟩
theorem pk0_valid : validP pk0 = true := by decide +kernel
theorem pk0_len : (encP pk0).length = 524 := by decide +kernel
theorem pk0_take : (encP pk0).take 6 = [72, 75, 76, 49, 0, 2] := by decide +kernel
theorem pk0_dec : decP (encP pk0) = some pk0 := by decide +kernel
theorem pk0_more : decP (encP pk0 ++ [120]) = none := by decide +kernel
theorem pk0_ok : okPk pk0 := by
  have h : pk0.mp.length = 256 := List.length_replicate ..
  constructor <;> first | (rw [h]; omega) | (show 0 < 9223372036854775808; omega)
theorem noPk_ok : okPk noPk := by constructor <;> (show 0 < 9223372036854775808; omega)
theorem noPk_bad : validP noPk = false := by decide +kernel
theorem fl_rep {n : Nat} {k : Int} : fl cI (List.replicate n k) = List.replicate n (.int .i64 k) := by
  rw [fl_cI_map, List.map_replicate]
theorem decP_ok {s : List UInt8} (h : s.length < 400000000) {p : Pk} (hp : decP s = some p) : okPk p := by
  unfold decP at hp
  split at hp
  · simp only [decB, Option.bind_eq_some_iff] at hp
    obtain ⟨⟨a1, a2⟩, h1, ⟨b1, b2⟩, h2, h3⟩ := hp
    split at h3
    · cases h3
      have hr : a2.length ≤ (s.drop 4).length := (takeN_some h1).2.1
      rw [List.length_drop] at hr
      exact pkOf_ok (n := 399999999) (fun l hl => by have h5 : l.length ≤ a2.length := tkTo_lens h2 l hl; omega) (by decide)
    · cases h3
  · cases hp
end Go.Hk
