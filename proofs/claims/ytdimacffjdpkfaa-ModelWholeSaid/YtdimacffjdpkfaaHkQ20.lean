import Derived.Test.YtdimacffjdpkfaaHkQ17
import Derived.Test.YtdimacffjdpkfaaHkQ19
import Derived.Shelf.SlIterI.Sorted
import Derived.Shelf.SlIterI.Keys
import Derived.Maps.Range
/- Layer 5, the plain law: from where to where a pattern goes. -/
set_option linter.unusedSimpArgs false
set_option linter.unusedVariables false
namespace Go.Hk
abbrev Pl := Nat → Nat → Prop
/-- So many rounds. -/
def iter (r : Pl) : Nat → Pl
  | 0 => fun i j => i = j
  | n + 1 => fun i j => ∃ k, iter r n i k ∧ r k j
theorem iter_add (r : Pl) (m : Nat) : ∀ (n : Nat) (i j : Nat), (∃ k, iter r m i k ∧ iter r n k j) ↔ iter r (m + n) i j
  | 0, i, j => by simp [iter]
  | n + 1, i, j => by
    have ih := iter_add r m n
    constructor
    · rintro ⟨k, h1, l, h2, h3⟩
      exact ⟨l, (ih i l).1 ⟨k, h1, h2⟩, h3⟩
    · rintro ⟨l, h2, h3⟩
      obtain ⟨k, h1, h4⟩ := (ih i l).2 h2
      exact ⟨k, h1, l, h4, h3⟩
/-- A loop without end, from at most one. -/
def loopy (y : Rx) : Bool := decide (y.k = 5) && decide (y.hi < 0) && decide (y.lo ≤ 1)
/-- How many rounds more: so many, or any number. -/
def more (lo hi : Int) (y : Rx) : Option Nat := if 0 ≤ hi then some (hi - lo).toNat else if loopy y then some (1 - lo).toNat else none
def upTo (o : Option Nat) (n : Nat) : Prop := match o with | some m => n ≤ m | none => True
mutual
def R (t : List UInt8) : Rx → Pl
  | .mk k s lo hi l => fun i j =>
    if k = 2 then i < t.length ∧ s.testBit (t.getD i 0).toNat = true ∧ j = i + 1
    else if k = 3 then Rall t l i j
    else if k = 4 then Rany t l i j
    else if k = 5 then (if size (.mk k s lo hi l) = 0 then i = j else (match l with | y :: _ => ∃ n, upTo (more lo hi y) n ∧ iter (R t y) (lo.toNat + n) i j | [] => i = j))
    else i = j
def Rall (t : List UInt8) : List Rx → Pl
  | [] => fun i j => i = j
  | x :: l => fun i j => ∃ k, R t x i k ∧ Rall t l k j
def Rany (t : List UInt8) : List Rx → Pl
  | [] => fun _ _ => False
  | x :: l => fun i j => R t x i j ∨ Rany t l i j
end
theorem iter_mono {r : Pl} (h : ∀ i j, r i j → i ≤ j) : ∀ (n i j : Nat), iter r n i j → i ≤ j
  | 0, i, j, e => by simp only [iter] at e; omega
  | n + 1, i, j, ⟨k, h1, h2⟩ => Nat.le_trans (iter_mono h n i k h1) (h k j h2)
theorem Rall_mono {t : List UInt8} : ∀ (l : List Rx), (∀ x ∈ l, ∀ i j, R t x i j → i ≤ j) → ∀ i j, Rall t l i j → i ≤ j
  | [], _, i, j, e => by simp only [Rall] at e; omega
  | x :: l, h, i, j, e => by
    simp only [Rall] at e
    obtain ⟨k, h1, h2⟩ := e
    exact Nat.le_trans (h x (by simp) i k h1) (Rall_mono l (fun y hy => h y (by simp [hy])) k j h2)
theorem Rany_mono {t : List UInt8} : ∀ (l : List Rx), (∀ x ∈ l, ∀ i j, R t x i j → i ≤ j) → ∀ i j, Rany t l i j → i ≤ j
  | [], _, i, j, e => by simp only [Rany] at e
  | x :: l, h, i, j, e => by
    simp only [Rany] at e
    rcases e with e | e
    · exact h x (by simp) i j e
    · exact Rany_mono l (fun y hy => h y (by simp [hy])) i j e
theorem R_mono (t : List UInt8) (x : Rx) : ∀ i j, R t x i j → i ≤ j := by
  induction x using Rx.ind with
  | h x ih =>
    obtain ⟨k, s, lo, hi, l⟩ := x
    intro i j h
    rw [R] at h
    have ih : ∀ y ∈ l, ∀ i j, R t y i j → i ≤ j := ih
    split at h
    · omega
    · split at h
      · exact Rall_mono l ih i j h
      · split at h
        · exact Rany_mono l ih i j h
        · split at h
          · split at h
            · omega
            · split at h
              · obtain ⟨n, _, hn⟩ := h
                exact iter_mono (ih _ List.mem_cons_self) _ i j hn
              · omega
          · omega
/-- The same on a piece of the text. -/
theorem iter_cut {r q : Pl} {a b : Nat} (hq : ∀ i j, q i j → i ≤ j) (hr : ∀ i j, r i j → i ≤ j) (h : ∀ i j, j ≤ b → (r i j ↔ q (a + i) (a + j))) : ∀ (n i j : Nat), j ≤ b → (iter r n i j ↔ iter q n (a + i) (a + j))
  | 0, i, j, _ => by simp only [iter]; omega
  | n + 1, i, j, hj => by
    simp only [iter]
    constructor
    · rintro ⟨k, h1, h2⟩
      have := hr k j h2
      exact ⟨a + k, (iter_cut hq hr h n i k (by omega)).1 h1, (h k j hj).1 h2⟩
    · rintro ⟨k, h1, h2⟩
      have e1 := iter_mono hq n (a + i) k h1
      have e2 := hq k (a + j) h2
      obtain ⟨k, rfl⟩ : ∃ k', k = a + k' := ⟨k - a, by omega⟩
      exact ⟨k, (iter_cut hq hr h n i k (by omega)).2 h1, (h k j hj).2 h2⟩
theorem Rall_cut {t u : List UInt8} {a b : Nat} : ∀ (l : List Rx), (∀ x ∈ l, ∀ i j, j ≤ b → (R u x i j ↔ R t x (a + i) (a + j))) → ∀ i j, j ≤ b → (Rall u l i j ↔ Rall t l (a + i) (a + j))
  | [], _, i, j, _ => by simp only [Rall]; omega
  | x :: l, h, i, j, hj => by
    simp only [Rall]
    have ih := Rall_cut l (fun y hy => h y (by simp [hy]))
    constructor
    · rintro ⟨k, h1, h2⟩
      have := Rall_mono l (fun y _ => R_mono u y) k j h2
      exact ⟨a + k, (h x (by simp) i k (by omega)).1 h1, (ih k j hj).1 h2⟩
    · rintro ⟨k, h1, h2⟩
      have e1 := R_mono t x (a + i) k h1
      have e2 := Rall_mono l (fun y _ => R_mono t y) k (a + j) h2
      obtain ⟨k, rfl⟩ : ∃ k', k = a + k' := ⟨k - a, by omega⟩
      exact ⟨k, (h x (by simp) i k (by omega)).2 h1, (ih k j hj).2 h2⟩
theorem Rany_cut {t u : List UInt8} {a b : Nat} : ∀ (l : List Rx), (∀ x ∈ l, ∀ i j, j ≤ b → (R u x i j ↔ R t x (a + i) (a + j))) → ∀ i j, j ≤ b → (Rany u l i j ↔ Rany t l (a + i) (a + j))
  | [], _, i, j, _ => by simp only [Rany]
  | x :: l, h, i, j, hj => by
    simp only [Rany]
    rw [h x (by simp) i j hj, Rany_cut l (fun y hy => h y (by simp [hy])) i j hj]
theorem R_cut {t : List UInt8} {a b : Nat} (hb : a + b ≤ t.length) (x : Rx) : ∀ i j, j ≤ b → (R ((t.drop a).take b) x i j ↔ R t x (a + i) (a + j)) := by
  induction x using Rx.ind with
  | h x ih =>
    obtain ⟨k, s, lo, hi, l⟩ := x
    intro i j hj
    have ih : ∀ y ∈ l, ∀ i j, j ≤ b → (R ((t.drop a).take b) y i j ↔ R t y (a + i) (a + j)) := ih
    have hlen : ((t.drop a).take b).length = b := by simp; omega
    rw [R, R]
    split
    · rw [hlen]
      constructor
      · rintro ⟨h1, h2, h3⟩
        refine ⟨by omega, ?_, by omega⟩
        rw [List.getD_eq_getElem?_getD, List.getElem?_take, if_pos h1, List.getElem?_drop, ← List.getD_eq_getElem?_getD] at h2
        exact h2
      · rintro ⟨h1, h2, h3⟩
        have h4 : i < b := by omega
        refine ⟨h4, ?_, by omega⟩
        rw [List.getD_eq_getElem?_getD, List.getElem?_take, if_pos h4, List.getElem?_drop, ← List.getD_eq_getElem?_getD]
        exact h2
    · split
      · exact Rall_cut l ih i j hj
      · split
        · exact Rany_cut l ih i j hj
        · split
          · split
            · omega
            · split
              · constructor
                · rintro ⟨n, h1, h2⟩
                  exact ⟨n, h1, (iter_cut (R_mono _ _) (R_mono _ _) (ih _ List.mem_cons_self) _ i j hj).1 h2⟩
                · rintro ⟨n, h1, h2⟩
                  exact ⟨n, h1, (iter_cut (R_mono _ _) (R_mono _ _) (ih _ List.mem_cons_self) _ i j hj).2 h2⟩
              · omega
          · omega
end Go.Hk
/- Layer 5, the plain law: rounds, and sets that come to a stand. -/
namespace Go.Hk
/-! ### The relation, kind by kind -/
section
variable {t : List UInt8} {x : Rx}
theorem R_k1 (h : x.k = 1) {i j : Nat} : R t x i j ↔ i = j := by
  cases x; simp only [Rx.k] at h; subst h; simp [R]
theorem R_k2 (h : x.k = 2) {i j : Nat} : R t x i j ↔ i < t.length ∧ x.s.testBit (t.getD i 0).toNat = true ∧ j = i + 1 := by
  cases x; simp only [Rx.k] at h; subst h; simp [R, Rx.s]
theorem R_k3 (h : x.k = 3) {i j : Nat} : R t x i j ↔ Rall t x.l i j := by
  cases x; simp only [Rx.k] at h; subst h; simp [R, Rx.l]
theorem R_k4 (h : x.k = 4) {i j : Nat} : R t x i j ↔ Rany t x.l i j := by
  cases x; simp only [Rx.k] at h; subst h; simp [R, Rx.l]
theorem R_k5 {y : Rx} (h : x.k = 5) (hl : x.l = [y]) {i j : Nat} : R t x i j ↔ if size x = 0 then i = j else ∃ n, upTo (more x.lo x.hi y) n ∧ iter (R t y) (x.lo.toNat + n) i j := by
  cases x; simp only [Rx.k, Rx.l] at h hl; subst h; subst hl; rw [R]; simp only [Rx.lo, Rx.hi]
  simp
theorem iter_le {r : Pl} {N : Nat} (h : ∀ i j, r i j → i ≤ N → j ≤ N) : ∀ (n i j : Nat), iter r n i j → i ≤ N → j ≤ N
  | 0, i, j, e, hi => by simp only [iter] at e; omega
  | n + 1, i, j, ⟨k, h1, h2⟩, hi => h k j h2 (iter_le h n i k h1 hi)
theorem Rall_le : ∀ (l : List Rx), (∀ x ∈ l, ∀ i j, R t x i j → i ≤ t.length → j ≤ t.length) → ∀ i j, Rall t l i j → i ≤ t.length → j ≤ t.length
  | [], _, i, j, e, hi => by simp only [Rall] at e; omega
  | x :: l, h, i, j, e, hi => by
    simp only [Rall] at e
    obtain ⟨k, h1, h2⟩ := e
    exact Rall_le l (fun y hy => h y (by simp [hy])) k j h2 (h x (by simp) i k h1 hi)
theorem Rany_le : ∀ (l : List Rx), (∀ x ∈ l, ∀ i j, R t x i j → i ≤ t.length → j ≤ t.length) → ∀ i j, Rany t l i j → i ≤ t.length → j ≤ t.length
  | [], _, i, j, e, hi => by simp only [Rany] at e
  | x :: l, h, i, j, e, hi => by
    simp only [Rany] at e
    rcases e with e | e
    · exact h x (by simp) i j e hi
    · exact Rany_le l (fun y hy => h y (by simp [hy])) i j e hi
theorem R_le (x : Rx) : ∀ i j, R t x i j → i ≤ t.length → j ≤ t.length := by
  induction x using Rx.ind with
  | h x ih =>
    obtain ⟨k, s, lo, hi, l⟩ := x
    intro i j h hi
    rw [R] at h
    have ih : ∀ y ∈ l, ∀ i j, R t y i j → i ≤ t.length → j ≤ t.length := ih
    split at h
    · omega
    · split at h
      · exact Rall_le l ih i j h hi
      · split at h
        · exact Rany_le l ih i j h hi
        · split at h
          · split at h
            · omega
            · split at h
              · obtain ⟨n, _, hn⟩ := h
                exact iter_le (ih _ List.mem_cons_self) _ i j hn hi
              · omega
          · omega
end
/-! ### What is come to -/
def Im (r : Pl) (ks : List Nat) (j : Nat) : Prop := ∃ i, i ∈ ks ∧ r i j
def Dle (r : Pl) (ks : List Nat) (q j : Nat) : Prop := ∃ i, i ∈ ks ∧ ∃ n, n ≤ q ∧ iter r n i j
section
variable {r : Pl} {ks os ns : List Nat} {q N : Nat}
theorem Dle.mono {q q' j : Nat} (h : Dle r ks q j) (hq : q ≤ q') : Dle r ks q' j := by
  obtain ⟨i, h1, n, h2, h3⟩ := h
  exact ⟨i, h1, n, by omega, h3⟩
theorem Dle.zero {j : Nat} : Dle r ks 0 j ↔ j ∈ ks := by
  constructor
  · rintro ⟨i, h1, n, h2, h3⟩
    obtain rfl : n = 0 := by omega
    simp only [iter] at h3
    exact h3 ▸ h1
  · exact fun h => ⟨j, h, 0, Nat.le_refl _, rfl⟩
theorem Dle.le (h : ∀ i j, r i j → i < N → j < N) (hk : ∀ k ∈ ks, k < N) {j : Nat} (hd : Dle r ks q j) : j < N := by
  obtain ⟨i, h1, n, h2, h3⟩ := hd
  have key : ∀ (n i j : Nat), iter r n i j → i < N → j < N := by
    intro n
    induction n with
    | zero => intro i j e hi; simp only [iter] at e; omega
    | succ n ih => rintro i j ⟨k, e1, e2⟩ hi; exact h k j e2 (ih i k e1 hi)
  exact key n i j h3 (hk i h1)
theorem Dle.next {j k : Nat} (h : Dle r ks q k) (hr : r k j) : Dle r ks (q + 1) j := by
  obtain ⟨i, h1, n, h2, h3⟩ := h
  exact ⟨i, h1, n + 1, by omega, k, h3, hr⟩
theorem Dle.pred {j : Nat} (h : Dle r ks (q + 1) j) : Dle r ks q j ∨ ∃ k, Dle r ks q k ∧ r k j := by
  obtain ⟨i, h1, n, h2, h3⟩ := h
  by_cases hn : n ≤ q
  · exact .inl ⟨i, h1, n, hn, h3⟩
  · obtain rfl : n = q + 1 := by omega
    obtain ⟨k, e1, e2⟩ := h3
    exact .inr ⟨k, ⟨i, h1, q, Nat.le_refl _, e1⟩, e2⟩
/-- The new ones of a round. -/
def Fresh (r : Pl) (ks : List Nat) (q j : Nat) : Prop := Dle r ks q j ∧ (q = 0 ∨ ¬ Dle r ks (q - 1) j)
theorem fresh_next (hn : ∀ j, j ∈ ns ↔ Fresh r ks q j) {j : Nat} : (Im r ns j ∧ ¬ Dle r ks q j) ↔ Fresh r ks (q + 1) j := by
  constructor
  · rintro ⟨⟨i, h1, h2⟩, h3⟩
    exact ⟨((hn i).1 h1).1.next h2, .inr h3⟩
  · rintro ⟨h1, h2⟩
    have h3 : ¬ Dle r ks q j := by rcases h2 with h | h; omega; exact h
    rcases h1.pred with h | ⟨k, h4, h5⟩
    · exact absurd h h3
    · refine ⟨⟨k, (hn k).2 ⟨h4, ?_⟩, h5⟩, h3⟩
      rcases Nat.eq_zero_or_pos q with h0 | h0
      · exact .inl h0
      · right
        intro hk
        exact h3 ((hk.next h5).mono (by omega))
theorem fresh_done (hn : ∀ j, ¬ Fresh r ks q j) : ∀ (n j : Nat), Dle r ks n j → Dle r ks q j := by
  have step : ∀ k j, Dle r ks q k → r k j → Dle r ks q j := fun k j h hr => by
    by_cases h0 : q = 0
    · exact absurd ⟨h, .inl h0⟩ (hn k)
    · by_cases h1 : Dle r ks (q - 1) k
      · exact (h1.next hr).mono (by omega)
      · exact absurd ⟨h, .inr h1⟩ (hn k)
  intro n
  induction n with
  | zero => exact fun j h => h.mono (Nat.zero_le _)
  | succ n ih =>
    intro j h
    rcases h.pred with h | ⟨k, h1, h2⟩
    · exact ih j h
    · exact step k j (ih k h1) h2
end
/-- So many rounds at most; below 0: any number. -/
def Upto (r : Pl) (ks : List Nat) (most : Int) (j : Nat) : Prop := ∃ q : Nat, (most < 0 ∨ (q : Int) ≤ most) ∧ Dle r ks q j
theorem upto_most {r : Pl} {ks : List Nat} {q : Nat} {j : Nat} : Upto r ks (q : Int) j ↔ Dle r ks q j := by
  constructor
  · rintro ⟨n, h1, h2⟩
    exact h2.mono (by omega)
  · exact fun h => ⟨q, .inr (by omega), h⟩
theorem upto_done {r : Pl} {ks : List Nat} {q : Nat} {most : Int} (hq : most < 0 ∨ (q : Int) ≤ most) (hn : ∀ j, ¬ Fresh r ks q j) {j : Nat} : Upto r ks most j ↔ Dle r ks q j := by
  constructor
  · rintro ⟨n, h1, h2⟩
    exact fresh_done hn n j h2
  · exact fun h => ⟨q, hq, h⟩
/-! ### The memory of more -/
def mps (Ls : List (List Nat)) : List ABlk := Ls.map fun l => .amap (sents l)
theorem mps_app {Ls : List (List Nat)} {l : List Nat} : mps (Ls ++ [l]) = mps Ls ++ [.amap (sents l)] := by simp [mps]
theorem mps_len {Ls : List (List Nat)} : (mps Ls).length = Ls.length := by simp [mps]
theorem mps_clo {Ls : List (List Nat)} {h t : Nat} : (mps Ls).all (cloB h t) = true := by
  simp only [mps, List.all_map, List.all_eq_true]
  exact fun x _ => sents_cloB
theorem mps_noIt {Ls : List (List Nat)} {b : Nat} : noIt b (mps Ls) = true := by
  simp only [mps, noIt, List.all_map, List.all_eq_true]
  exact fun x _ => rfl
end Go.Hk
namespace Go.Hk
/-- A text and a set of its places, in memory. -/
structure PlOK (G : List ABlk) (T : List (Nat × (Nat × Nat))) (p b : Nat) (t : List UInt8) (ks : List Nat) : Prop where
  tx : G[p]? = some (.cells 0 [.str t])
  at_ : G[b]? = some (.amap (sents ks))
  nd : ks.Nodup
  len : t.length < 1000000
  le : ∀ k ∈ ks, k ≤ t.length
  shut : Hk.shut ⟨G, T⟩ = true
theorem PlOK.inj {G : List ABlk} {T : List (Nat × (Nat × Nat))} {p b : Nat} {t t' : List UInt8} {ks ks' : List Nat} (h : PlOK G T p b t ks) (h' : PlOK G T p b t' ks') : t = t' ∧ ks = ks' := by
  have e0 := h.at_.symm.trans h'.at_
  have e4 := h.tx.symm.trans h'.tx
  simp only [Option.some.injEq, ABlk.amap.injEq, ABlk.cells.injEq, List.cons.injEq, AVal.str.injEq, true_and, and_true] at e0 e4
  exact ⟨e4, sents_inj e0⟩
section
variable {n : Nat} {G : List ABlk} {T : List (Nat × (Nat × Nat))} {p b : Nat} {t : List UInt8} {ks : List Nat} {x : Rx} {most : Int}
/-- What the places behind a pattern are; patterns of less than some size. -/
noncomputable def iBh (n : Nat) : List AVal → AMem → Option (AVal × AMem) := rimp fun xs m v m' => ∃ G T p b t ks x, (PlOK G T p b t ks ∧ okX x ∧ inR x ∧ sz x < n) ∧ xs = [.ptr p 0 0, rV x, .map b] ∧ m = ⟨G, T⟩ ∧
  v = .map G.length ∧ m' = ⟨G ++ [.amap (sents (cset (t.length + 1) (Im (R t x) ks)))], T⟩
theorem iBh_eq (h : PlOK G T p b t ks) (hx : okX x) (hr : inR x) (hn : sz x < n) : iBh n [.ptr p 0 0, rV x, .map b] ⟨G, T⟩ = some (.map G.length, ⟨G ++ [.amap (sents (cset (t.length + 1) (Im (R t x) ks)))], T⟩) :=
  rimp_eq ⟨G, T, p, b, t, ks, x, ⟨h, hx, hr, hn⟩, rfl, rfl, rfl, rfl⟩ (by
    rintro _ _ ⟨G', T', p', b', t', ks', x', ⟨h', hx', hr', hn'⟩, e, em, rfl, rfl⟩
    cases em
    simp only [List.cons.injEq, AVal.map.injEq, AVal.ptr.injEq, true_and, and_true] at e
    obtain ⟨e1, e2, e3⟩ := e
    subst e1; subst e3
    have e2 := rV_inj hx hx' e2
    subst e2
    obtain ⟨rfl, rfl⟩ := h.inj h'
    exact ⟨rfl, rfl⟩)
noncomputable def iMo (n : Nat) : List AVal → AMem → Option (AVal × AMem) := rimp fun xs m v m' => ∃ G T p b t ks x most, (PlOK G T p b t ks ∧ okX x ∧ inR x ∧ sz x < n ∧ -1 ≤ most ∧ most < 1000) ∧ xs = [.ptr p 0 0, rV x, .map b, .int .i64 most] ∧ m = ⟨G, T⟩ ∧
  v = .map G.length ∧ m' = ⟨G ++ [.amap (sents (cset (t.length + 1) (Upto (R t x) ks most)))], T⟩
theorem iMo_eq (h : PlOK G T p b t ks) (hx : okX x) (hr : inR x) (hn : sz x < n) (h1 : -1 ≤ most) (h2 : most < 1000) : iMo n [.ptr p 0 0, rV x, .map b, .int .i64 most] ⟨G, T⟩ = some (.map G.length, ⟨G ++ [.amap (sents (cset (t.length + 1) (Upto (R t x) ks most)))], T⟩) :=
  rimp_eq ⟨G, T, p, b, t, ks, x, most, ⟨h, hx, hr, hn, h1, h2⟩, rfl, rfl, rfl, rfl⟩ (by
    rintro _ _ ⟨G', T', p', b', t', ks', x', most', ⟨h', hx', hr', hn', _, _⟩, e, em, rfl, rfl⟩
    cases em
    simp only [List.cons.injEq, AVal.map.injEq, AVal.ptr.injEq, AVal.int.injEq, true_and, and_true] at e
    obtain ⟨e1, e2, e3, e4⟩ := e
    subst e1; subst e3; subst e4
    have e2 := rV_inj hx hx' e2
    subst e2
    obtain ⟨rfl, rfl⟩ := h.inj h'
    exact ⟨rfl, rfl⟩)
/-- The memory of more, at its loop's head. -/
def moM (G : List ABlk) (y : Rx) (os : List Nat) (Ls : List (List Nat)) : List ABlk := G ++ (.cells 0 (cR y) :: .amap (sents os) :: .cells 0 [.map (G.length + 1)] :: mps Ls)
theorem cR_clo0 {h t : Nat} {y : Rx} : cloB h t (.cells 0 (cR y)) = true := c_cR
theorem moM_shut {y : Rx} {os : List Nat} {Ls : List (List Nat)} (hs : shut ⟨G, T⟩ = true) : shut ⟨moM G y os Ls, T⟩ = true :=
  shut_one hs fun h hh => by
    simp only [List.length_cons] at hh
    have h1 : cloB h T.length (.cells 0 [.map (G.length + 1)]) = true := by simp [cloB, cloL, clo]; omega
    simp only [List.all_cons, cR_clo0, sents_cloB, mps_clo, h1, Bool.and_true]
theorem moM_len {y : Rx} {os : List Nat} {Ls : List (List Nat)} : (moM G y os Ls).length = G.length + (Ls.length + 3) := by simp [moM, mps_len]
theorem moM_lt {y : Rx} {os : List Nat} {Ls : List (List Nat)} {i : Nat} (h : i < G.length) : (moM G y os Ls)[i]? = G[i]? := m_at h
end
end Go.Hk
namespace Go.Hk
section
variable {G : List ABlk} {T : List (Nat × (Nat × Nat))} {y : Rx} {os os' l l' : List Nat} {Ls : List (List Nat)} {b : Nat}
theorem moM_app : moM G y os (Ls ++ [l]) = moM G y os Ls ++ [.amap (sents l)] := by simp [moM, mps_app]
theorem moM_0 : (moM G y os Ls)[G.length]? = some (.cells 0 (cR y)) := m_own0
theorem moM_1 : (moM G y os Ls)[G.length + 1]? = some (.amap (sents os)) := m_own
theorem moM_2 : (moM G y os Ls)[G.length + 2]? = some (.cells 0 [.map (G.length + 1)]) := m_own
theorem moM_last : (moM G y os (Ls ++ [l]))[(moM G y os Ls).length]? = some (.amap (sents l)) := by rw [moM_app]; simp
theorem moM_setL : (moM G y os (Ls ++ [l])).set (moM G y os Ls).length (.amap (sents l')) = moM G y os (Ls ++ [l']) := by
  rw [moM_app, moM_app, List.set_append_right _ _ (Nat.le_refl _)]; simp
theorem moM_set1 : (moM G y os Ls).set (G.length + 1) (.amap (sents os')) = moM G y os' Ls := by
  unfold moM; rw [m_put]; rfl
theorem moM_noIt (hs : shut ⟨G, T⟩ = true) (hb : G.length ≤ b) : noIt b (moM G y os Ls) = true := by
  unfold moM
  rw [noIt_app, noIt_shut hs hb]
  have : noIt b (mps Ls) = true := mps_noIt
  simp only [noIt] at this ⊢
  simp [noIt1, this]
end
end Go.Hk
namespace Go.Hk
section
variable {t : List UInt8}
theorem Rall_snoc {y : Rx} : ∀ {l : List Rx} {i j : Nat}, Rall t (l ++ [y]) i j ↔ ∃ k, Rall t l i k ∧ R t y k j
  | [], i, j => by
    simp only [List.nil_append, Rall]
    constructor
    · rintro ⟨k, h1, rfl⟩; exact ⟨i, rfl, h1⟩
    · rintro ⟨k, rfl, h1⟩; exact ⟨j, h1, rfl⟩
  | x :: l, i, j => by
    simp only [List.cons_append, Rall]
    constructor
    · rintro ⟨k, h1, h2⟩
      obtain ⟨k', h3, h4⟩ := Rall_snoc.1 h2
      exact ⟨k', ⟨k, h1, h3⟩, h4⟩
    · rintro ⟨k', ⟨k, h1, h3⟩, h4⟩
      exact ⟨k, h1, Rall_snoc.2 ⟨k', h3, h4⟩⟩
theorem Rany_snoc {y : Rx} : ∀ {l : List Rx} {i j : Nat}, Rany t (l ++ [y]) i j ↔ Rany t l i j ∨ R t y i j
  | [], i, j => by simp [Rany]
  | x :: l, i, j => by simp only [List.cons_append, Rany]; rw [Rany_snoc, or_assoc]
theorem Im_all {y : Rx} {l : List Rx} {ks ns : List Nat} (h : ∀ j, j ∈ ns ↔ Im (Rall t l) ks j) {j : Nat} : Im (R t y) ns j ↔ Im (Rall t (l ++ [y])) ks j := by
  constructor
  · rintro ⟨k, h1, h2⟩
    obtain ⟨i, h3, h4⟩ := (h k).1 h1
    exact ⟨i, h3, Rall_snoc.2 ⟨k, h4, h2⟩⟩
  · rintro ⟨i, h3, h4⟩
    obtain ⟨k, h5, h6⟩ := Rall_snoc.1 h4
    exact ⟨k, (h k).2 ⟨i, h3, h5⟩, h6⟩
theorem Im_iter {r : Pl} {n : Nat} {ks ns : List Nat} (h : ∀ j, j ∈ ns ↔ Im (iter r n) ks j) {j : Nat} : Im r ns j ↔ Im (iter r (n + 1)) ks j := by
  constructor
  · rintro ⟨k, h1, h2⟩
    obtain ⟨i, h3, h4⟩ := (h k).1 h1
    exact ⟨i, h3, k, h4, h2⟩
  · rintro ⟨i, h3, k, h5, h6⟩
    exact ⟨k, (h k).2 ⟨i, h3, h5⟩, h6⟩
theorem Im_upto {r : Pl} {lo : Nat} {ks ns : List Nat} {most : Int} {o : Option Nat} (ho : ∀ q : Nat, (most < 0 ∨ (q : Int) ≤ most) ↔ upTo o q) (h : ∀ j, j ∈ ns ↔ Im (iter r lo) ks j) {j : Nat} : Upto r ns most j ↔ Im (fun i j => ∃ n, upTo o n ∧ iter r (lo + n) i j) ks j := by
  constructor
  · rintro ⟨q, h1, k, h2, n, h3, h4⟩
    obtain ⟨i, h5, h6⟩ := (h k).1 h2
    have hn : upTo o n := (ho n).1 (by omega)
    exact ⟨i, h5, n, hn, (iter_add r lo n i j).1 ⟨k, h6, h4⟩⟩
  · rintro ⟨i, h5, n, h1, h2⟩
    obtain ⟨k, h6, h4⟩ := (iter_add r lo n i j).2 h2
    exact ⟨n, (ho n).2 h1, k, (h k).2 ⟨i, h5, h6⟩, n, Nat.le_refl _, h4⟩
theorem Im_le {x : Rx} {ks : List Nat} (hk : ∀ k ∈ ks, k ≤ t.length) {j : Nat} (h : Im (R t x) ks j) : j ≤ t.length := by
  obtain ⟨i, h1, h2⟩ := h
  exact R_le x i j h2 (hk i h1)
theorem cset_le {x : Rx} {ks : List Nat} (hk : ∀ k ∈ ks, k ≤ t.length) {j : Nat} : j ∈ cset (t.length + 1) (Im (R t x) ks) ↔ Im (R t x) ks j := by
  rw [cset_mem]
  exact ⟨fun h => h.2, fun h => ⟨by have := Im_le hk h; omega, h⟩⟩
end
end Go.Hk
namespace Go.Hk
/-! ### Where a pattern ends -/
noncomputable def endsL (x : Rx) (s : List UInt8) (i : Int) : List Int :=
  if rightT x = true ∧ s.length ≤ 10000 ∧ 0 ≤ i ∧ i ≤ s.length then (cset (s.length + 1) (R s x i.toNat)).map fun k : Nat => (k : Int) else []
theorem cset_sorted {n : Nat} {S : Nat → Prop} : ((cset n S).map fun k : Nat => (k : Int)).mergeSort (fun x y => decide (x ≤ y)) = (cset n S).map fun k : Nat => (k : Int) := by
  refine List.mergeSort_of_pairwise ?_
  rw [List.pairwise_map]
  have h : (cset n S).Pairwise (· < ·) := List.Pairwise.sublist List.filter_sublist List.pairwise_lt_range
  exact h.imp fun {a b} hab => by simp; omega
theorem Im_one {r : Pl} {i : Nat} : Im r [i] = r i := by
  funext j
  simp [Im]
end Go.Hk
namespace Go.Hk
theorem fl_cI_map : ∀ l : List Int, fl cI l = l.map fun n => .int .i64 n
  | [] => rfl
  | x :: l => by rw [fl_cons, fl_cI_map l]; rfl
theorem fl_cI_get {l : List Int} {i : Nat} {x : Int} (h : l[i]? = some x) : (fl cI l)[i]? = some (.int .i64 x) := by
  rw [fl_cI_map, List.getElem?_map, h]; rfl
end Go.Hk
/- A set's places, sorted: by the library's contracts. -/
namespace Go.Hk
open Go.Maps Go.WideElems Go.WideShapes Go.RowKit
def unitR : Value → Option (DataW Unit × List MemPlace) := fun _ => some (.nil, [])
theorem set_keys {κ : Cx} {ks : List Nat} {l : List MapEntry} (h : AL κ (sents ks) l) : l.map (·.key) = ks.map fun k : Nat => encZ (k : Int) := by
  obtain ⟨h1, h2⟩ := h
  rw [sents_len] at h1
  apply List.ext_getElem (by simp [h1])
  intro j hj hj'
  simp only [List.length_map] at hj hj'
  have := (h2 j (by rw [sents_len]; exact hj') hj).1
  rw [sents_get] at this
  simp only [List.getElem_map]
  generalize l[j].key = u at this ⊢
  cases this
  rfl
theorem set_owned {P : Program} {kt : TypeId} (hk : P.underlying kt = some (.int .i64)) {γ : Ghost} (hr : Rl γ) {b : Nat} {ks : List Nat} (hb : γ.S.H[b]? = some (.amap (sents ks))) (hn : ks.Nodup) (hl : ks.length < 1000000) (hlt : ∀ k ∈ ks, k < 1000000) :
    ∃ D0 : DataW Unit, γ.w.ownsMap P kt unitR (γ.ι.h b) ks.length D0 ∧ (intKeys D0).Perm (ks.map fun k : Nat => (k : Int)) ∧ Maps.size D0 = ks.length := by
  obtain ⟨en, clk, h1, h2⟩ := hr.maps b _ hb
  have hsz := h2.size
  rw [sents_len] at hsz
  obtain ⟨l, hp, ha⟩ := h2.perm
  have hkeys := set_keys ha
  have hkm : ∀ x ∈ en.toList, ∃ k, k ∈ ks ∧ x.key = encZ ((k : Nat) : Int) := fun x hx => by
    have : x.key ∈ l.map (·.key) := List.mem_map.2 ⟨x, hp.mem_iff.2 hx, rfl⟩
    rw [hkeys, List.mem_map] at this
    obtain ⟨k, h1, h2⟩ := this
    exact ⟨k, h1, h2.symm⟩
  have wfb : ∀ k : Nat, k < 1000000 → IntKind.i64.min ≤ (k : Int) ∧ (k : Int) ≤ IntKind.i64.max := fun k hk => by
    have e1 : IntKind.i64.min = -9223372036854775808 := by rfl
    have e2 : IntKind.i64.max = 9223372036854775807 := by rfl
    rw [e1, e2]
    omega
  have hml : 1000000 ≤ maxLen := by decide
  have hrd : ∀ x ∈ en.toList, ∀ k : Nat, k < 1000000 → x.key = encZ (k : Int) → WideElems.rd P kt unitR x = some (.int .i64 (k : Int), .nil) := fun x _ k hk2 he => by
    have hw : (Lit.int .i64 (k : Int)).wf = true := by simp only [Lit.wf, Bool.and_eq_true, decide_eq_true_eq]; exact wfb k hk2
    simp only [WideElems.rd, he, unitR]
    rw [show encZ (k : Int) = .int .i64 (k : Int) from rfl, keyOf_int_mk hk hw]
    rfl
  have hF : Fit P kt unitR en clk := ⟨by rw [hsz]; omega, ⟨h2.lt, h2.born, by
      refine ((hp.map _).nodup_iff).1 ?_
      rw [hkeys]
      exact List.Pairwise.map _ (fun a b hab e => hab (by have := encZ_inj e; omega)) hn⟩, fun x hx => by
      obtain ⟨k, k1, k2⟩ := hkm x hx
      exact ⟨_, hrd x hx k (hlt k k1) k2⟩⟩
  refine ⟨.map ((en.toList.map (rg P kt unitR)).foldr DataW.insert []), ⟨en, clk, h1, hF, by omega, rfl⟩, ?_, ?_⟩
  · show (((en.toList.map (rg P kt unitR)).foldr DataW.insert []).map fun p => intOf p.1).Perm _
    refine ((sorted_perm _).map _).trans ?_
    rw [List.map_map]
    have e : l.map (fun x => intOf (rg P kt unitR x).1) = ks.map fun k : Nat => (k : Int) := by
      have e2 : l.map (fun x => intOf (rg P kt unitR x).1) = (l.map (·.key)).map fun v => match v with | .int _ a => a | _ => 0 := by
        rw [List.map_map]
        refine List.map_congr_left fun x hx => ?_
        obtain ⟨k, k1, k2⟩ := hkm x (hp.mem_iff.1 hx)
        have := hrd x (hp.mem_iff.1 hx) k (hlt k k1) k2
        simp only [rg, this, Option.getD_some, intOf, Function.comp_apply, k2]
      rw [e2, hkeys, List.map_map]
      rfl
    rw [← e]
    exact (hp.map _).symm
  · show ((en.toList.map (rg P kt unitR)).foldr DataW.insert []).length = _
    rw [(sorted_perm _).length_eq, List.length_map]
    simpa using hsz
theorem told_row {γ : Ghost} (hr : Rl γ) {w' : World} (hb : Below γ.w.heap.size γ.w w') {e : TypeId} {v : Value} {n : Nat} {L : List Int} (h : w'.ownsRow γ.w.heap.size e 1 v n (L.map encZ)) :
    Rl { γ with w := w' } ∧ Ext γ { γ with w := w' } ∧ VR ({ γ with w := w' } : Ghost).cx (slc cI L) v := by
  have hg : Grow γ.w w' := ⟨hb.os, hb.tape, hb.output, hb.size, hb.block⟩
  refine ⟨rl_grow hr hg, ext_grow hg, ?_⟩
  obtain ⟨hn, h⟩ := h
  rw [List.length_map, Nat.mul_one] at hn
  rcases h with ⟨rfl, hz⟩ | ⟨g, cap, cur, rfl, hbase, hgb, r1, r2, r3, r4⟩
  · have : L = [] := List.eq_nil_of_length_eq_zero (by omega)
    subst this
    exact .slnil .no trivial
  · rw [Nat.mul_one] at r4
    subst hn
    have hcl : (fl cI L).length = L.length := by rw [fl_len cI_len, Nat.mul_one]
    have hcur : ∀ j (hj : j < L.length), cur[j]? = some (encZ L[j]) := fun j hj => by
      have := congrArg (·[j]?) r4
      simp only [List.getElem?_take, hj, if_true, List.getElem?_map, Array.getElem?_toList] at this
      rw [this]
      simp [hj]
    have hfl : ∀ j (hj : j < (fl cI L).length), (fl cI L)[j] = .int .i64 (L[j]'(by omega)) := fun j hj => by
      have hj' : j < L.length := by omega
      have : (fl cI L)[j]? = some (.int .i64 L[j]) := by
        have key : ∀ (M : List Int) (q : Nat) (hq : q < M.length), (fl cI M)[q]? = some (.int .i64 M[q]) := by
          intro M
          induction M with
          | nil => intro q hq; simp at hq
          | cons a M ih =>
            intro q hq
            rw [fl_cons]
            cases q with
            | zero => rfl
            | succ q => exact ih q (by simpa using hq)
        exact key L j hj'
      rw [List.getElem?_eq_getElem hj] at this
      exact Option.some.inj this
    refine .sl .no L.length (fl cI L) g 0 cap (fun j => cur.getD j undef) (by omega) (fun j hj => ?_) (fun j hj => ?_) trivial
    · have hj' : j < L.length := by omega
      have hc := hcur j hj'
      have hd : cur.getD j undef = encZ L[j] := by
        rw [Array.getD_eq_getD_getElem?, hc]; rfl
      refine ⟨?_, by rw [hd]; rfl, fun hbad => ?_, fun b hbo => ?_, fun t ht => ?_⟩
      · show w'.cell? _ = _
        simp only [World.cell?, hgb, Nat.zero_add]
        rw [hd]
        simpa using hc
      · have := hr.bad _ _ hbad
        have := hr.lo
        omega
      · have := (hr.own g (.inl ⟨b, hbo⟩)).2
        omega
      · have := (hr.own g (.inr ⟨t, ht⟩)).2
        omega
    · have hj' : j < L.length := by omega
      have hd : cur.getD j undef = encZ L[j] := by
        rw [Array.getD_eq_getD_getElem?, hcur j hj']; rfl
      simp only [hd, hfl j hj]
      exact .int _ _
end Go.Hk
