import Derived.Test.YtdimacffjdpkfaaHkQ23
import Derived.Shelf.SlIterI.Sorted
import Derived.Shelf.SlIterI.Keys
import Derived.Maps.Range
import Derived.Test.YtdimacffjdpkfaaHkQ22
import Derived.Test.YtdimacffjdpkfaaHkQ20
/- Layer 5, the plain law: rounds, and sets that come to a stand. -/
set_option linter.unusedSimpArgs false
set_option linter.unusedVariables false
namespace Go.Hk
/-! ### The relation, kind by kind -/
section
variable {t : List UInt8} {x : Rx}
theorem R_k1 (h : x.k = 1) {i j : Nat} : R t x i j ↔ i = j := by
  cases x; simp only [Rx.k] at h; subst h; simp [R]
theorem R_k2 (h : x.k = 2) {i j : Nat} : R t x i j ↔ i < t.length ∧ x.s.testBit (t.getD i 0).toNat = true ∧ j = i + 1 := by
  cases x; simp only [Rx.k] at h; subst h; simp [R, Rx.s]
theorem R_k3 (h : x.k = 3) {i j : Nat} : R t x i j ↔ Rall t x.l i j := by
  cases x; simp only [Rx.k] at h; subst h; simp [R, Rx.l]
theorem R_k4 (h : x.k = 4) {i j : Nat} : R t x i j ↔ Rany t x.l i j := by
  cases x; simp only [Rx.k] at h; subst h; simp [R, Rx.l]
theorem R_k5 {y : Rx} (h : x.k = 5) (hl : x.l = [y]) {i j : Nat} : R t x i j ↔ if size x = 0 then i = j else ∃ n, upTo (more x.lo x.hi y) n ∧ iter (R t y) (x.lo.toNat + n) i j := by
  cases x; simp only [Rx.k, Rx.l] at h hl; subst h; subst hl; rw [R]; simp only [Rx.lo, Rx.hi]
  simp
theorem iter_le {r : Pl} {N : Nat} (h : ∀ i j, r i j → i ≤ N → j ≤ N) : ∀ (n i j : Nat), iter r n i j → i ≤ N → j ≤ N
  | 0, i, j, e, hi => by simp only [iter] at e; omega
  | n + 1, i, j, ⟨k, h1, h2⟩, hi => h k j h2 (iter_le h n i k h1 hi)
theorem Rall_le : ∀ (l : List Rx), (∀ x ∈ l, ∀ i j, R t x i j → i ≤ t.length → j ≤ t.length) → ∀ i j, Rall t l i j → i ≤ t.length → j ≤ t.length
  | [], _, i, j, e, hi => by simp only [Rall] at e; omega
  | x :: l, h, i, j, e, hi => by
    simp only [Rall] at e
    obtain ⟨k, h1, h2⟩ := e
    exact Rall_le l (fun y hy => h y (by simp [hy])) k j h2 (h x (by simp) i k h1 hi)
theorem Rany_le : ∀ (l : List Rx), (∀ x ∈ l, ∀ i j, R t x i j → i ≤ t.length → j ≤ t.length) → ∀ i j, Rany t l i j → i ≤ t.length → j ≤ t.length
  | [], _, i, j, e, hi => by simp only [Rany] at e
  | x :: l, h, i, j, e, hi => by
    simp only [Rany] at e
    rcases e with e | e
    · exact h x (by simp) i j e hi
    · exact Rany_le l (fun y hy => h y (by simp [hy])) i j e hi
theorem R_le (x : Rx) : ∀ i j, R t x i j → i ≤ t.length → j ≤ t.length := by
  induction x using Rx.ind with
  | h x ih =>
    obtain ⟨k, s, lo, hi, l⟩ := x
    intro i j h hi
    rw [R] at h
    have ih : ∀ y ∈ l, ∀ i j, R t y i j → i ≤ t.length → j ≤ t.length := ih
    split at h
    · omega
    · split at h
      · exact Rall_le l ih i j h hi
      · split at h
        · exact Rany_le l ih i j h hi
        · split at h
          · split at h
            · omega
            · split at h
              · obtain ⟨n, _, hn⟩ := h
                exact iter_le (ih _ List.mem_cons_self) _ i j hn hi
              · omega
          · omega
end
/-! ### What is come to -/
def Im (r : Pl) (ks : List Nat) (j : Nat) : Prop := ∃ i, i ∈ ks ∧ r i j
def Dle (r : Pl) (ks : List Nat) (q j : Nat) : Prop := ∃ i, i ∈ ks ∧ ∃ n, n ≤ q ∧ iter r n i j
section
variable {r : Pl} {ks os ns : List Nat} {q N : Nat}
theorem Dle.mono {q q' j : Nat} (h : Dle r ks q j) (hq : q ≤ q') : Dle r ks q' j := by
  obtain ⟨i, h1, n, h2, h3⟩ := h
  exact ⟨i, h1, n, by omega, h3⟩
theorem Dle.zero {j : Nat} : Dle r ks 0 j ↔ j ∈ ks := by
  constructor
  · rintro ⟨i, h1, n, h2, h3⟩
    obtain rfl : n = 0 := by omega
    simp only [iter] at h3
    exact h3 ▸ h1
  · exact fun h => ⟨j, h, 0, Nat.le_refl _, rfl⟩
theorem Dle.le (h : ∀ i j, r i j → i < N → j < N) (hk : ∀ k ∈ ks, k < N) {j : Nat} (hd : Dle r ks q j) : j < N := by
  obtain ⟨i, h1, n, h2, h3⟩ := hd
  have key : ∀ (n i j : Nat), iter r n i j → i < N → j < N := by
    intro n
    induction n with
    | zero => intro i j e hi; simp only [iter] at e; omega
    | succ n ih => rintro i j ⟨k, e1, e2⟩ hi; exact h k j e2 (ih i k e1 hi)
  exact key n i j h3 (hk i h1)
theorem Dle.next {j k : Nat} (h : Dle r ks q k) (hr : r k j) : Dle r ks (q + 1) j := by
  obtain ⟨i, h1, n, h2, h3⟩ := h
  exact ⟨i, h1, n + 1, by omega, k, h3, hr⟩
theorem Dle.pred {j : Nat} (h : Dle r ks (q + 1) j) : Dle r ks q j ∨ ∃ k, Dle r ks q k ∧ r k j := by
  obtain ⟨i, h1, n, h2, h3⟩ := h
  by_cases hn : n ≤ q
  · exact .inl ⟨i, h1, n, hn, h3⟩
  · obtain rfl : n = q + 1 := by omega
    obtain ⟨k, e1, e2⟩ := h3
    exact .inr ⟨k, ⟨i, h1, q, Nat.le_refl _, e1⟩, e2⟩
/-- The new ones of a round. -/
def Fresh (r : Pl) (ks : List Nat) (q j : Nat) : Prop := Dle r ks q j ∧ (q = 0 ∨ ¬ Dle r ks (q - 1) j)
theorem fresh_next (hn : ∀ j, j ∈ ns ↔ Fresh r ks q j) {j : Nat} : (Im r ns j ∧ ¬ Dle r ks q j) ↔ Fresh r ks (q + 1) j := by
  constructor
  · rintro ⟨⟨i, h1, h2⟩, h3⟩
    exact ⟨((hn i).1 h1).1.next h2, .inr h3⟩
  · rintro ⟨h1, h2⟩
    have h3 : ¬ Dle r ks q j := by rcases h2 with h | h; omega; exact h
    rcases h1.pred with h | ⟨k, h4, h5⟩
    · exact absurd h h3
    · refine ⟨⟨k, (hn k).2 ⟨h4, ?_⟩, h5⟩, h3⟩
      rcases Nat.eq_zero_or_pos q with h0 | h0
      · exact .inl h0
      · right
        intro hk
        exact h3 ((hk.next h5).mono (by omega))
theorem fresh_done (hn : ∀ j, ¬ Fresh r ks q j) : ∀ (n j : Nat), Dle r ks n j → Dle r ks q j := by
  have step : ∀ k j, Dle r ks q k → r k j → Dle r ks q j := fun k j h hr => by
    by_cases h0 : q = 0
    · exact absurd ⟨h, .inl h0⟩ (hn k)
    · by_cases h1 : Dle r ks (q - 1) k
      · exact (h1.next hr).mono (by omega)
      · exact absurd ⟨h, .inr h1⟩ (hn k)
  intro n
  induction n with
  | zero => exact fun j h => h.mono (Nat.zero_le _)
  | succ n ih =>
    intro j h
    rcases h.pred with h | ⟨k, h1, h2⟩
    · exact ih j h
    · exact step k j (ih k h1) h2
end
/-- So many rounds at most; below 0: any number. -/
def Upto (r : Pl) (ks : List Nat) (most : Int) (j : Nat) : Prop := ∃ q : Nat, (most < 0 ∨ (q : Int) ≤ most) ∧ Dle r ks q j
theorem upto_most {r : Pl} {ks : List Nat} {q : Nat} {j : Nat} : Upto r ks (q : Int) j ↔ Dle r ks q j := by
  constructor
  · rintro ⟨n, h1, h2⟩
    exact h2.mono (by omega)
  · exact fun h => ⟨q, .inr (by omega), h⟩
theorem upto_done {r : Pl} {ks : List Nat} {q : Nat} {most : Int} (hq : most < 0 ∨ (q : Int) ≤ most) (hn : ∀ j, ¬ Fresh r ks q j) {j : Nat} : Upto r ks most j ↔ Dle r ks q j := by
  constructor
  · rintro ⟨n, h1, h2⟩
    exact fresh_done hn n j h2
  · exact fun h => ⟨q, hq, h⟩
/-! ### The memory of more -/
def mps (Ls : List (List Nat)) : List ABlk := Ls.map fun l => .amap (sents l)
theorem mps_app {Ls : List (List Nat)} {l : List Nat} : mps (Ls ++ [l]) = mps Ls ++ [.amap (sents l)] := by simp [mps]
theorem mps_len {Ls : List (List Nat)} : (mps Ls).length = Ls.length := by simp [mps]
theorem mps_clo {Ls : List (List Nat)} {h t : Nat} : (mps Ls).all (cloB h t) = true := by
  simp only [mps, List.all_map, List.all_eq_true]
  exact fun x _ => sents_cloB
theorem mps_noIt {Ls : List (List Nat)} {b : Nat} : noIt b (mps Ls) = true := by
  simp only [mps, noIt, List.all_map, List.all_eq_true]
  exact fun x _ => rfl
end Go.Hk
namespace Go.Hk
/-- A text and a set of its places, in memory. -/
structure PlOK (G : List ABlk) (T : List (Nat × (Nat × Nat))) (p b : Nat) (t : List UInt8) (ks : List Nat) : Prop where
  tx : G[p]? = some (.cells 0 [.str t])
  at_ : G[b]? = some (.amap (sents ks))
  nd : ks.Nodup
  len : t.length < 1000000
  le : ∀ k ∈ ks, k ≤ t.length
  shut : Hk.shut ⟨G, T⟩ = true
theorem PlOK.inj {G : List ABlk} {T : List (Nat × (Nat × Nat))} {p b : Nat} {t t' : List UInt8} {ks ks' : List Nat} (h : PlOK G T p b t ks) (h' : PlOK G T p b t' ks') : t = t' ∧ ks = ks' := by
  have e0 := h.at_.symm.trans h'.at_
  have e4 := h.tx.symm.trans h'.tx
  simp only [Option.some.injEq, ABlk.amap.injEq, ABlk.cells.injEq, List.cons.injEq, AVal.str.injEq, true_and, and_true] at e0 e4
  exact ⟨e4, sents_inj e0⟩
section
variable {n : Nat} {G : List ABlk} {T : List (Nat × (Nat × Nat))} {p b : Nat} {t : List UInt8} {ks : List Nat} {x : Rx} {most : Int}
/-- What the places behind a pattern are; patterns of less than some size. -/
noncomputable def iBh (n : Nat) : List AVal → AMem → Option (AVal × AMem) := rimp fun xs m v m' => ∃ G T p b t ks x, (PlOK G T p b t ks ∧ okX x ∧ inR x ∧ sz x < n) ∧ xs = [.ptr p 0 0, rV x, .map b] ∧ m = ⟨G, T⟩ ∧
  v = .map G.length ∧ m' = ⟨G ++ [.amap (sents (cset (t.length + 1) (Im (R t x) ks)))], T⟩
theorem iBh_eq (h : PlOK G T p b t ks) (hx : okX x) (hr : inR x) (hn : sz x < n) : iBh n [.ptr p 0 0, rV x, .map b] ⟨G, T⟩ = some (.map G.length, ⟨G ++ [.amap (sents (cset (t.length + 1) (Im (R t x) ks)))], T⟩) :=
  rimp_eq ⟨G, T, p, b, t, ks, x, ⟨h, hx, hr, hn⟩, rfl, rfl, rfl, rfl⟩ (by
    rintro _ _ ⟨G', T', p', b', t', ks', x', ⟨h', hx', hr', hn'⟩, e, em, rfl, rfl⟩
    cases em
    simp only [List.cons.injEq, AVal.map.injEq, AVal.ptr.injEq, true_and, and_true] at e
    obtain ⟨e1, e2, e3⟩ := e
    subst e1; subst e3
    have e2 := rV_inj hx hx' e2
    subst e2
    obtain ⟨rfl, rfl⟩ := h.inj h'
    exact ⟨rfl, rfl⟩)
noncomputable def iMo (n : Nat) : List AVal → AMem → Option (AVal × AMem) := rimp fun xs m v m' => ∃ G T p b t ks x most, (PlOK G T p b t ks ∧ okX x ∧ inR x ∧ sz x < n ∧ -1 ≤ most ∧ most < 1000) ∧ xs = [.ptr p 0 0, rV x, .map b, .int .i64 most] ∧ m = ⟨G, T⟩ ∧
  v = .map G.length ∧ m' = ⟨G ++ [.amap (sents (cset (t.length + 1) (Upto (R t x) ks most)))], T⟩
theorem iMo_eq (h : PlOK G T p b t ks) (hx : okX x) (hr : inR x) (hn : sz x < n) (h1 : -1 ≤ most) (h2 : most < 1000) : iMo n [.ptr p 0 0, rV x, .map b, .int .i64 most] ⟨G, T⟩ = some (.map G.length, ⟨G ++ [.amap (sents (cset (t.length + 1) (Upto (R t x) ks most)))], T⟩) :=
  rimp_eq ⟨G, T, p, b, t, ks, x, most, ⟨h, hx, hr, hn, h1, h2⟩, rfl, rfl, rfl, rfl⟩ (by
    rintro _ _ ⟨G', T', p', b', t', ks', x', most', ⟨h', hx', hr', hn', _, _⟩, e, em, rfl, rfl⟩
    cases em
    simp only [List.cons.injEq, AVal.map.injEq, AVal.ptr.injEq, AVal.int.injEq, true_and, and_true] at e
    obtain ⟨e1, e2, e3, e4⟩ := e
    subst e1; subst e3; subst e4
    have e2 := rV_inj hx hx' e2
    subst e2
    obtain ⟨rfl, rfl⟩ := h.inj h'
    exact ⟨rfl, rfl⟩)
/-- The memory of more, at its loop's head. -/
def moM (G : List ABlk) (y : Rx) (os : List Nat) (Ls : List (List Nat)) : List ABlk := G ++ (.cells 0 (cR y) :: .amap (sents os) :: .cells 0 [.map (G.length + 1)] :: mps Ls)
theorem cR_clo0 {h t : Nat} {y : Rx} : cloB h t (.cells 0 (cR y)) = true := c_cR
theorem moM_shut {y : Rx} {os : List Nat} {Ls : List (List Nat)} (hs : shut ⟨G, T⟩ = true) : shut ⟨moM G y os Ls, T⟩ = true :=
  shut_one hs fun h hh => by
    simp only [List.length_cons] at hh
    have h1 : cloB h T.length (.cells 0 [.map (G.length + 1)]) = true := by simp [cloB, cloL, clo]; omega
    simp only [List.all_cons, cR_clo0, sents_cloB, mps_clo, h1, Bool.and_true]
theorem moM_len {y : Rx} {os : List Nat} {Ls : List (List Nat)} : (moM G y os Ls).length = G.length + (Ls.length + 3) := by simp [moM, mps_len]
theorem moM_lt {y : Rx} {os : List Nat} {Ls : List (List Nat)} {i : Nat} (h : i < G.length) : (moM G y os Ls)[i]? = G[i]? := m_at h
end
end Go.Hk
namespace Go.Hk
section
variable {G : List ABlk} {T : List (Nat × (Nat × Nat))} {y : Rx} {os os' l l' : List Nat} {Ls : List (List Nat)} {b : Nat}
theorem moM_app : moM G y os (Ls ++ [l]) = moM G y os Ls ++ [.amap (sents l)] := by simp [moM, mps_app]
theorem moM_0 : (moM G y os Ls)[G.length]? = some (.cells 0 (cR y)) := m_own0
theorem moM_1 : (moM G y os Ls)[G.length + 1]? = some (.amap (sents os)) := m_own
theorem moM_2 : (moM G y os Ls)[G.length + 2]? = some (.cells 0 [.map (G.length + 1)]) := m_own
theorem moM_last : (moM G y os (Ls ++ [l]))[(moM G y os Ls).length]? = some (.amap (sents l)) := by rw [moM_app]; simp
theorem moM_setL : (moM G y os (Ls ++ [l])).set (moM G y os Ls).length (.amap (sents l')) = moM G y os (Ls ++ [l']) := by
  rw [moM_app, moM_app, List.set_append_right _ _ (Nat.le_refl _)]; simp
theorem moM_set1 : (moM G y os Ls).set (G.length + 1) (.amap (sents os')) = moM G y os' Ls := by
  unfold moM; rw [m_put]; rfl
theorem moM_noIt (hs : shut ⟨G, T⟩ = true) (hb : G.length ≤ b) : noIt b (moM G y os Ls) = true := by
  unfold moM
  rw [noIt_app, noIt_shut hs hb]
  have : noIt b (mps Ls) = true := mps_noIt
  simp only [noIt] at this ⊢
  simp [noIt1, this]
end
end Go.Hk
namespace Go.Hk
section
variable {t : List UInt8}
theorem Rall_snoc {y : Rx} : ∀ {l : List Rx} {i j : Nat}, Rall t (l ++ [y]) i j ↔ ∃ k, Rall t l i k ∧ R t y k j
  | [], i, j => by
    simp only [List.nil_append, Rall]
    constructor
    · rintro ⟨k, h1, rfl⟩; exact ⟨i, rfl, h1⟩
    · rintro ⟨k, rfl, h1⟩; exact ⟨j, h1, rfl⟩
  | x :: l, i, j => by
    simp only [List.cons_append, Rall]
    constructor
    · rintro ⟨k, h1, h2⟩
      obtain ⟨k', h3, h4⟩ := Rall_snoc.1 h2
      exact ⟨k', ⟨k, h1, h3⟩, h4⟩
    · rintro ⟨k', ⟨k, h1, h3⟩, h4⟩
      exact ⟨k, h1, Rall_snoc.2 ⟨k', h3, h4⟩⟩
theorem Rany_snoc {y : Rx} : ∀ {l : List Rx} {i j : Nat}, Rany t (l ++ [y]) i j ↔ Rany t l i j ∨ R t y i j
  | [], i, j => by simp [Rany]
  | x :: l, i, j => by simp only [List.cons_append, Rany]; rw [Rany_snoc, or_assoc]
theorem Im_all {y : Rx} {l : List Rx} {ks ns : List Nat} (h : ∀ j, j ∈ ns ↔ Im (Rall t l) ks j) {j : Nat} : Im (R t y) ns j ↔ Im (Rall t (l ++ [y])) ks j := by
  constructor
  · rintro ⟨k, h1, h2⟩
    obtain ⟨i, h3, h4⟩ := (h k).1 h1
    exact ⟨i, h3, Rall_snoc.2 ⟨k, h4, h2⟩⟩
  · rintro ⟨i, h3, h4⟩
    obtain ⟨k, h5, h6⟩ := Rall_snoc.1 h4
    exact ⟨k, (h k).2 ⟨i, h3, h5⟩, h6⟩
theorem Im_iter {r : Pl} {n : Nat} {ks ns : List Nat} (h : ∀ j, j ∈ ns ↔ Im (iter r n) ks j) {j : Nat} : Im r ns j ↔ Im (iter r (n + 1)) ks j := by
  constructor
  · rintro ⟨k, h1, h2⟩
    obtain ⟨i, h3, h4⟩ := (h k).1 h1
    exact ⟨i, h3, k, h4, h2⟩
  · rintro ⟨i, h3, k, h5, h6⟩
    exact ⟨k, (h k).2 ⟨i, h3, h5⟩, h6⟩
theorem Im_upto {r : Pl} {lo : Nat} {ks ns : List Nat} {most : Int} {o : Option Nat} (ho : ∀ q : Nat, (most < 0 ∨ (q : Int) ≤ most) ↔ upTo o q) (h : ∀ j, j ∈ ns ↔ Im (iter r lo) ks j) {j : Nat} : Upto r ns most j ↔ Im (fun i j => ∃ n, upTo o n ∧ iter r (lo + n) i j) ks j := by
  constructor
  · rintro ⟨q, h1, k, h2, n, h3, h4⟩
    obtain ⟨i, h5, h6⟩ := (h k).1 h2
    have hn : upTo o n := (ho n).1 (by omega)
    exact ⟨i, h5, n, hn, (iter_add r lo n i j).1 ⟨k, h6, h4⟩⟩
  · rintro ⟨i, h5, n, h1, h2⟩
    obtain ⟨k, h6, h4⟩ := (iter_add r lo n i j).2 h2
    exact ⟨n, (ho n).2 h1, k, (h k).2 ⟨i, h5, h6⟩, n, Nat.le_refl _, h4⟩
theorem Im_le {x : Rx} {ks : List Nat} (hk : ∀ k ∈ ks, k ≤ t.length) {j : Nat} (h : Im (R t x) ks j) : j ≤ t.length := by
  obtain ⟨i, h1, h2⟩ := h
  exact R_le x i j h2 (hk i h1)
theorem cset_le {x : Rx} {ks : List Nat} (hk : ∀ k ∈ ks, k ≤ t.length) {j : Nat} : j ∈ cset (t.length + 1) (Im (R t x) ks) ↔ Im (R t x) ks j := by
  rw [cset_mem]
  exact ⟨fun h => h.2, fun h => ⟨by have := Im_le hk h; omega, h⟩⟩
end
end Go.Hk
namespace Go.Hk
/-! ### Where a pattern ends -/
noncomputable def endsL (x : Rx) (s : List UInt8) (i : Int) : List Int :=
  if rightT x = true ∧ s.length ≤ 10000 ∧ 0 ≤ i ∧ i ≤ s.length then (cset (s.length + 1) (R s x i.toNat)).map fun k : Nat => (k : Int) else []
theorem cset_sorted {n : Nat} {S : Nat → Prop} : ((cset n S).map fun k : Nat => (k : Int)).mergeSort (fun x y => decide (x ≤ y)) = (cset n S).map fun k : Nat => (k : Int) := by
  refine List.mergeSort_of_pairwise ?_
  rw [List.pairwise_map]
  have h : (cset n S).Pairwise (· < ·) := List.Pairwise.sublist List.filter_sublist List.pairwise_lt_range
  exact h.imp fun {a b} hab => by simp; omega
theorem Im_one {r : Pl} {i : Nat} : Im r [i] = r i := by
  funext j
  simp [Im]
end Go.Hk
namespace Go.Hk
theorem fl_cI_map : ∀ l : List Int, fl cI l = l.map fun n => .int .i64 n
  | [] => rfl
  | x :: l => by rw [fl_cons, fl_cI_map l]; rfl
theorem fl_cI_get {l : List Int} {i : Nat} {x : Int} (h : l[i]? = some x) : (fl cI l)[i]? = some (.int .i64 x) := by
  rw [fl_cI_map, List.getElem?_map, h]; rfl
end Go.Hk
/- A set's places, sorted: by the library's contracts. -/
namespace Go.Hk
open Go.Maps Go.WideElems Go.WideShapes Go.RowKit
def unitR : Value → Option (DataW Unit × List MemPlace) := fun _ => some (.nil, [])
theorem set_keys {κ : Cx} {ks : List Nat} {l : List MapEntry} (h : AL κ (sents ks) l) : l.map (·.key) = ks.map fun k : Nat => encZ (k : Int) := by
  obtain ⟨h1, h2⟩ := h
  rw [sents_len] at h1
  apply List.ext_getElem (by simp [h1])
  intro j hj hj'
  simp only [List.length_map] at hj hj'
  have := (h2 j (by rw [sents_len]; exact hj') hj).1
  rw [sents_get] at this
  simp only [List.getElem_map]
  generalize l[j].key = u at this ⊢
  cases this
  rfl
theorem set_owned {P : Program} {kt : TypeId} (hk : P.underlying kt = some (.int .i64)) {γ : Ghost} (hr : Rl γ) {b : Nat} {ks : List Nat} (hb : γ.S.H[b]? = some (.amap (sents ks))) (hn : ks.Nodup) (hl : ks.length < 1000000) (hlt : ∀ k ∈ ks, k < 1000000) :
    ∃ D0 : DataW Unit, γ.w.ownsMap P kt unitR (γ.ι.h b) ks.length D0 ∧ (intKeys D0).Perm (ks.map fun k : Nat => (k : Int)) ∧ Maps.size D0 = ks.length := by
  obtain ⟨en, clk, h1, h2⟩ := hr.maps b _ hb
  have hsz := h2.size
  rw [sents_len] at hsz
  obtain ⟨l, hp, ha⟩ := h2.perm
  have hkeys := set_keys ha
  have hkm : ∀ x ∈ en.toList, ∃ k, k ∈ ks ∧ x.key = encZ ((k : Nat) : Int) := fun x hx => by
    have : x.key ∈ l.map (·.key) := List.mem_map.2 ⟨x, hp.mem_iff.2 hx, rfl⟩
    rw [hkeys, List.mem_map] at this
    obtain ⟨k, h1, h2⟩ := this
    exact ⟨k, h1, h2.symm⟩
  have wfb : ∀ k : Nat, k < 1000000 → IntKind.i64.min ≤ (k : Int) ∧ (k : Int) ≤ IntKind.i64.max := fun k hk => by
    have e1 : IntKind.i64.min = -9223372036854775808 := by rfl
    have e2 : IntKind.i64.max = 9223372036854775807 := by rfl
    rw [e1, e2]
    omega
  have hml : 1000000 ≤ maxLen := by decide
  have hrd : ∀ x ∈ en.toList, ∀ k : Nat, k < 1000000 → x.key = encZ (k : Int) → WideElems.rd P kt unitR x = some (.int .i64 (k : Int), .nil) := fun x _ k hk2 he => by
    have hw : (Lit.int .i64 (k : Int)).wf = true := by simp only [Lit.wf, Bool.and_eq_true, decide_eq_true_eq]; exact wfb k hk2
    simp only [WideElems.rd, he, unitR]
    rw [show encZ (k : Int) = .int .i64 (k : Int) from rfl, keyOf_int_mk hk hw]
    rfl
  have hF : Fit P kt unitR en clk := ⟨by rw [hsz]; omega, ⟨h2.lt, h2.born, by
      refine ((hp.map _).nodup_iff).1 ?_
      rw [hkeys]
      exact List.Pairwise.map _ (fun a b hab e => hab (by have := encZ_inj e; omega)) hn⟩, fun x hx => by
      obtain ⟨k, k1, k2⟩ := hkm x hx
      exact ⟨_, hrd x hx k (hlt k k1) k2⟩⟩
  refine ⟨.map ((en.toList.map (rg P kt unitR)).foldr DataW.insert []), ⟨en, clk, h1, hF, by omega, rfl⟩, ?_, ?_⟩
  · show (((en.toList.map (rg P kt unitR)).foldr DataW.insert []).map fun p => intOf p.1).Perm _
    refine ((sorted_perm _).map _).trans ?_
    rw [List.map_map]
    have e : l.map (fun x => intOf (rg P kt unitR x).1) = ks.map fun k : Nat => (k : Int) := by
      have e2 : l.map (fun x => intOf (rg P kt unitR x).1) = (l.map (·.key)).map fun v => match v with | .int _ a => a | _ => 0 := by
        rw [List.map_map]
        refine List.map_congr_left fun x hx => ?_
        obtain ⟨k, k1, k2⟩ := hkm x (hp.mem_iff.1 hx)
        have := hrd x (hp.mem_iff.1 hx) k (hlt k k1) k2
        simp only [rg, this, Option.getD_some, intOf, Function.comp_apply, k2]
      rw [e2, hkeys, List.map_map]
      rfl
    rw [← e]
    exact (hp.map _).symm
  · show ((en.toList.map (rg P kt unitR)).foldr DataW.insert []).length = _
    rw [(sorted_perm _).length_eq, List.length_map]
    simpa using hsz
theorem told_row {γ : Ghost} (hr : Rl γ) {w' : World} (hb : Below γ.w.heap.size γ.w w') {e : TypeId} {v : Value} {n : Nat} {L : List Int} (h : w'.ownsRow γ.w.heap.size e 1 v n (L.map encZ)) :
    Rl { γ with w := w' } ∧ Ext γ { γ with w := w' } ∧ VR ({ γ with w := w' } : Ghost).cx (slc cI L) v := by
  have hg : Grow γ.w w' := ⟨hb.os, hb.tape, hb.output, hb.size, hb.block⟩
  refine ⟨rl_grow hr hg, ext_grow hg, ?_⟩
  obtain ⟨hn, h⟩ := h
  rw [List.length_map, Nat.mul_one] at hn
  rcases h with ⟨rfl, hz⟩ | ⟨g, cap, cur, rfl, hbase, hgb, r1, r2, r3, r4⟩
  · have : L = [] := List.eq_nil_of_length_eq_zero (by omega)
    subst this
    exact .slnil .no trivial
  · rw [Nat.mul_one] at r4
    subst hn
    have hcl : (fl cI L).length = L.length := by rw [fl_len cI_len, Nat.mul_one]
    have hcur : ∀ j (hj : j < L.length), cur[j]? = some (encZ L[j]) := fun j hj => by
      have := congrArg (·[j]?) r4
      simp only [List.getElem?_take, hj, if_true, List.getElem?_map, Array.getElem?_toList] at this
      rw [this]
      simp [hj]
    have hfl : ∀ j (hj : j < (fl cI L).length), (fl cI L)[j] = .int .i64 (L[j]'(by omega)) := fun j hj => by
      have hj' : j < L.length := by omega
      have : (fl cI L)[j]? = some (.int .i64 L[j]) := by
        have key : ∀ (M : List Int) (q : Nat) (hq : q < M.length), (fl cI M)[q]? = some (.int .i64 M[q]) := by
          intro M
          induction M with
          | nil => intro q hq; simp at hq
          | cons a M ih =>
            intro q hq
            rw [fl_cons]
            cases q with
            | zero => rfl
            | succ q => exact ih q (by simpa using hq)
        exact key L j hj'
      rw [List.getElem?_eq_getElem hj] at this
      exact Option.some.inj this
    refine .sl .no L.length (fl cI L) g 0 cap (fun j => cur.getD j undef) (by omega) (fun j hj => ?_) (fun j hj => ?_) trivial
    · have hj' : j < L.length := by omega
      have hc := hcur j hj'
      have hd : cur.getD j undef = encZ L[j] := by
        rw [Array.getD_eq_getD_getElem?, hc]; rfl
      refine ⟨?_, by rw [hd]; rfl, fun hbad => ?_, fun b hbo => ?_, fun t ht => ?_⟩
      · show w'.cell? _ = _
        simp only [World.cell?, hgb, Nat.zero_add]
        rw [hd]
        simpa using hc
      · have := hr.bad _ _ hbad
        have := hr.lo
        omega
      · have := (hr.own g (.inl ⟨b, hbo⟩)).2
        omega
      · have := (hr.own g (.inr ⟨t, ht⟩)).2
        omega
    · have hj' : j < L.length := by omega
      have hd : cur.getD j undef = encZ L[j] := by
        rw [Array.getD_eq_getD_getElem?, hcur j hj']; rfl
      simp only [hd, hfl j hj]
      exact .int _ _
end Go.Hk
/- Layer 5, the plain law of the document's answer: lists of truths. -/
namespace Go.Hk
end Go.Hk
namespace Go.Hk
end Go.Hk
namespace Go.Hk
section
variable {r : Pl} {S : Nat → Prop} {N : Nat}
end
end Go.Hk
namespace Go.Hk
end Go.Hk
namespace Go.Hk
section
variable {r : Pl} {S : Nat → Prop} {m : Nat}
end
end Go.Hk
namespace Go.Hk
end Go.Hk
namespace Go.Hk
end Go.Hk
/- A body walked in two parts: between them what may be written is given up, and told. -/
namespace Go.Hk
def isSeqs : Nat → Code → Bool
  | 0, _ => true
  | k + 1, .seq _ b => isSeqs k b
  | _ + 1, _ => false
def preC : Nat → Code → Code
  | 0, _ => .skip
  | k + 1, .seq a b => .seq a (preC k b)
  | _ + 1, c => c
def postC : Nat → Code → Code
  | 0, c => c
  | k + 1, .seq _ b => postC k b
  | _ + 1, c => c
def cutQ (k : St → Prop) (Q : Exit → St → Prop) : Exit → St → Prop := fun e s => match e with | .normal => k s | e => Q e s
section
variable {P : Program} {Γ : Gam} {mu : Bool} {n hk tk : Nat}
theorem AWp.cut (hΓ : Sound P Γ) (hm : P.follows .mixedOrders = true) : ∀ (k : Nat) (c : Code) (Q : Exit → St → Prop) (s : St), isSeqs k c = true → codeOKx Γ mu n (preC k c) = true → W P Γ mu hk tk (preC k c) (cutQ (AWp P n hk tk (postC k c) Q) Q) s → AWp P n hk tk c Q s
  | 0, c, Q, s, _, _, h => by
    obtain ⟨h⟩ := h
    exact h
  | k + 1, .seq a b, Q, s, hs, hok, h => by
    simp only [preC, codeOKx, Bool.and_eq_true] at hok
    refine AWp.seq (AWp.mono (AWp.w (mu := mu) hΓ hm a (seqQ (W P Γ mu hk tk (preC k b) (cutQ (AWp P n hk tk (postC k b) Q) Q)) (cutQ (AWp P n hk tk (postC k b) Q) Q)) s hok.1 ?_) fun e s' hq => ?_)
    · obtain ⟨e, m⟩ := s
      simp only [preC, e_w_seq] at h
      exact h
    · cases e
      case normal => exact AWp.cut hΓ hm k b Q s' hs hok.2 hq
      all_goals exact hq
/-- What is told of the environment, the memory given up. -/
def dropOK (s : St) (e' : List (Nat × AVal)) : Prop := ∀ p ∈ e', view 8 s.m (lk s.env p.1) = some p.2
theorem lk_mem : ∀ {l : List (Nat × AVal)} {t : Nat}, lk l t = .dead ∨ (t, lk l t) ∈ l
  | [], t => .inl rfl
  | (k, v) :: l, t => by
    simp only [lk]
    split
    · rename_i h; subst h; exact .inr (by simp)
    · rcases lk_mem (l := l) (t := t) with h | h
      · exact .inl h
      · exact .inr (by simp [h])
theorem ext_drop0 {γ : Ghost} : ExtN 0 0 γ γ.drop where
  bad := rfl
  lo := rfl
  size := Nat.le_refl _
  os := rfl
  tape := rfl
  output := rfl
  cell := fun _ _ _ h => drop_cell h
  blk := fun b _ _ _ h => absurd h (Nat.not_lt_zero b)
  tip := fun t _ _ _ h => absurd h (Nat.not_lt_zero t)
  own := fun _ _ _ h => h
  frame := fun _ _ _ => .inl rfl
  owns := fun k h => by
    rcases h with ⟨b, hb⟩ | ⟨t, ht⟩
    · exact absurd hb drop_noblk
    · exact absurd ht drop_notok
theorem AWp.drop {c : Code} {Q : Exit → St → Prop} {s : St} {e' : List (Nat × AVal)} (hd : dropOK s e') (h : AWp P n 0 0 c Q ⟨e', ⟨[], []⟩⟩) : AWp P n 0 0 c Q s := fun ro z γ a hro hh hmk => by
  have hh' : Holds n γ.drop ⟨e', ⟨[], []⟩⟩ a := ⟨rl_drop hh.rl, rfl, fun t => by
    rcases lk_mem (l := e') (t := t) with h | h
    · rw [show lk (St.mk e' ⟨[], []⟩).env t = .dead from h]; exact .dead _
    · exact view_sound hh.rl _ _ _ _ (by rw [hh.m]; exact hd _ h) (hh.er t), hh.size⟩
  exact wpIn_mono (h ro z γ.drop a hro hh' (hmk.ext ext_drop0)) fun _ _ _ k => AQ.trans ext_drop0 k
end
theorem e_cutQ {k : St → Prop} {Q : Exit → St → Prop} {s : St} : cutQ k Q .normal s = k s := rfl
theorem e_cutQ_ret {k : St → Prop} {Q : Exit → St → Prop} {s : St} : cutQ k Q .ret s = Q .ret s := rfl
attribute [go_sem] e_cutQ e_cutQ_ret
end Go.Hk
namespace Go.Hk
end Go.Hk
/- Layer 5, the plain law: what is told at the beginning; texts by numbers. -/
namespace Go.Hk
def stK : Rx := .mk 3 0 0 0 [chX 97, chX 98]
theorem stK_ok : okX stK := .mk (by omega) (by omega) (by omega) (by omega) (by simp) (fun y hy => by
  rcases List.mem_cons.1 hy with rfl | hy
  · exact chX_ok _
  · rcases List.mem_cons.1 hy with rfl | hy
    · exact chX_ok _
    · cases hy)
theorem R_chX {t : List UInt8} {b i j : Nat} (hb : b < 256) : R t (chX (b : Int)) i j ↔ i < t.length ∧ (t.getD i 0).toNat = b ∧ j = i + 1 := by
  have hc := (t.getD i 0).toNat_lt
  rw [R_k2 (x := chX (b : Int)) rfl]
  have e : (chX (b : Int)).s = ofN (b : Int) (b : Int) := rfl
  rw [e]
  have : (ofN (b : Int) (b : Int)).testBit (t.getD i 0).toNat = decide ((t.getD i 0).toNat = b) := by
    unfold ofN
    rw [mk_bit]
    simp only [inOf]
    rw [Bool.eq_iff_iff]
    simp only [Bool.and_eq_true, decide_eq_true_eq]
    omega
  rw [this, decide_eq_true_eq]
theorem R_stK {t : List UInt8} {i j : Nat} : R t stK i j ↔ i + 1 < t.length ∧ (t.getD i 0).toNat = 97 ∧ (t.getD (i + 1) 0).toNat = 98 ∧ j = i + 2 := by
  rw [R_k3 (x := stK) rfl]
  have e : stK.l = [chX ((97 : Nat) : Int), chX ((98 : Nat) : Int)] := rfl
  rw [e]
  simp only [Rall, R_chX (show 97 < 256 by decide), R_chX (show 98 < 256 by decide)]
  constructor
  · rintro ⟨k, ⟨h1, h2, rfl⟩, k', ⟨h3, h4, rfl⟩, rfl⟩; exact ⟨h3, h2, h4, rfl⟩
  · rintro ⟨h1, h2, h3, rfl⟩; exact ⟨i + 1, ⟨by omega, h2, rfl⟩, i + 2, ⟨h1, h3, rfl⟩, rfl⟩
theorem cset_of {n : Nat} {S : Nat → Prop} {A : List Nat} (h : ∀ j, j < n → (S j ↔ j ∈ A)) : cset n S = (List.range n).filter fun j => decide (j ∈ A) := by
  unfold cset
  refine List.filter_congr fun j hj => ?_
  simp only [List.mem_range] at hj
  exact decide_eq_decide.2 (h j hj)
/-! ### Texts by numbers -/
def alph : List UInt8 := [97, 97, 98, 98, 99, 99, 45, 90, 10, 48, 0, 255]
def textT (l : List UInt8) : List UInt8 := (l.take 12).map fun b => alph.getD (b.toNat % 12) 0
theorem textT_len (l : List UInt8) : (textT l).length ≤ 12 := by simp [textT]; omega
end Go.Hk
namespace Go.Hk
theorem textT_next {l : List UInt8} {i : Nat} (h : i < l.length) (h2 : i < 12) : textT (l.take (i + 1)) = textT (l.take i) ++ [alph.getD (l[i].toNat % 12) 0] := by
  have e1 : (l.take (i + 1)).take 12 = l.take i ++ [l[i]] := by rw [List.take_of_length_le (by simp; omega), List.take_succ_eq_append_getElem h]
  have e2 : (l.take i).take 12 = l.take i := List.take_of_length_le (by simp; omega)
  unfold textT
  rw [e1, e2, List.map_append]
  rfl
theorem textT_all {l : List UInt8} {i : Nat} (h : l.length ≤ i ∨ 12 ≤ i) : textT (l.take i) = textT l := by
  unfold textT
  rcases h with h | h
  · rw [List.take_of_length_le h]
  · rw [List.take_take, Nat.min_eq_left h]
theorem alph_at : ∀ k, k < 12 → (alph.drop k).take 1 = [alph.getD k 0] := by decide
end Go.Hk
/- Layer 6, the plain law: rules, and their text. -/
namespace Go.Hk
/-- A rule. -/
structure Ru where
  conds : List Int
  all : Bool
  bol : Bool
  rx : Rx
  trail : Rx
  eof : Bool
  act : Int
  to : Int
/-- A condition. -/
structure Cd where
  name : List UInt8
  ex : Bool
  deriving DecidableEq
/-- Rules. -/
structure Sp where
  conds : List Cd
  deft : Bool
  rules : List Ru
def cCd (c : Cd) : List AVal := [.str c.name, .bool c.ex]
def cRu (r : Ru) : List AVal := .sl .no r.conds.length (fl cI r.conds) :: .bool r.all :: .bool r.bol :: (cR r.rx ++ (cR r.trail ++ [.bool r.eof, .int .i64 r.act, .int .i64 r.to]))
def cSp (s : Sp) : List AVal := [.sl .no s.conds.length (fl cCd s.conds), .bool s.deft, .sl .no s.rules.length (fl cRu s.rules)]
def sV (s : Sp) : AVal := .agg (cSp s)
theorem cCd_len (c : Cd) : (cCd c).length = 2 := rfl
theorem cCd_strip (c : Cd) : stripL (cCd c) = some (cCd c) := rfl
theorem cRu_len (r : Ru) : (cRu r).length = 22 := by simp [cRu, cR_len]
theorem cRu_strip (r : Ru) : stripL (cRu r) = some (cRu r) := by
  have h : stripL (fl cI r.conds) = some (fl cI r.conds) := fl_strip cI_strip _
  have h2 := s_append (cR_strip r.rx) (s_append (cR_strip r.trail) (show stripL [.bool r.eof, .int .i64 r.act, .int .i64 r.to] = some [.bool r.eof, .int .i64 r.act, .int .i64 r.to] from rfl))
  unfold cRu
  simp only [stripL, strip, h, h2]
/-! ### Names -/
def letterB (b : UInt8) : Bool := decide (97 ≤ b.toNat) && decide (b.toNat ≤ 122) || decide (65 ≤ b.toNat) && decide (b.toNat ≤ 90) || decide (b.toNat = 95)
def digitB (b : UInt8) : Bool := decide (48 ≤ b.toNat) && decide (b.toNat ≤ 57)
def nameB (s : List UInt8) : Bool := decide (0 < s.length) && decide (s.length ≤ 12) && letterB (s.getD 0 0) && s.all (fun b => letterB b || digitB b)
/-- A byte of a name. -/
def nb (b : UInt8) : Bool := letterB b || digitB b
/-! ### What may be -/
def noneX (x : Rx) : Bool := decide (x.k = 0) && decide (x.s = 0) && decide (x.lo = 0) && decide (x.hi = 0) && decide (x.l.length = 0)
theorem noneX_eq {x : Rx} (h : noneX x = true) : x = .mk 0 0 0 0 [] := by
  simp only [noneX, Bool.and_eq_true, decide_eq_true_eq] at h
  exact Rx.ext' h.1.1.1.1 h.1.1.1.2 h.1.1.2 h.1.2 (List.eq_nil_of_length_eq_zero h.2)
/-- Numbers that rise, from one on, below another one. -/
def rise (n : Int) : Int → List Int → Bool
  | _, [] => true
  | a, c :: l => decide (a < c) && decide (c < n) && rise n c l
def holdsB (n : Int) (r : Ru) : Bool := rise n (-1) r.conds && (!r.all || decide (r.conds.length = 0))
def doesB (n : Int) (r : Ru) : Bool := if r.act = 3 then decide (0 ≤ r.to) && decide (r.to < n) else (decide (r.act = 1) || decide (r.act = 2)) && decide (r.to = 0)
def matchB (r : Ru) : Bool := if r.eof then !r.bol && noneX r.rx && noneX r.trail else rightT r.rx && (noneX r.trail || rightT r.trail)
def ruleB (n : Int) (r : Ru) : Bool := holdsB n r && doesB n r && matchB r
def initial : List UInt8 := [73, 78, 73, 84, 73, 65, 76]
def diff : List (List UInt8) → Bool
  | [] => true
  | x :: l => !l.contains x && diff l
def rightS (s : Sp) : Bool := decide (1 ≤ s.conds.length) && decide (s.conds.length ≤ 8) && decide (s.rules.length ≤ 40) && decide ((s.conds.getD 0 ⟨[], false⟩).name = initial) && !(s.conds.getD 0 ⟨[], false⟩).ex &&
  s.conds.all (fun c => nameB c.name) && diff (s.conds.map Cd.name) && s.rules.all (ruleB s.conds.length)
/-! ### The text -/
def nameAt (l : List Cd) (c : Int) : List UInt8 := (l.getD c.toNat ⟨[], false⟩).name
theorem rise_bd {n : Int} : ∀ (l : List Int) (a : Int), -1 ≤ a → rise n a l = true → ∀ c ∈ l, 0 ≤ c ∧ c < n
  | [], _, _, _, c, hc => by cases hc
  | x :: l, a, ha, h, c, hc => by
    simp only [rise, Bool.and_eq_true, decide_eq_true_eq] at h
    rcases List.mem_cons.1 hc with rfl | hc
    · omega
    · exact rise_bd l x (by omega) h.2 c hc
end Go.Hk
