import Derived.Test.YtdimacffjdpkfaaGreatHkQ19
import Derived.Shelf.SlIterI.Sorted
import Derived.Shelf.SlIterI.Keys
import Derived.Maps.Range
set_option linter.unusedSimpArgs false
set_option linter.unusedVariables false
namespace Go.Hk
section
variable {t : List UInt8} {x : Rx}
theorem R_k1 (h : x.k = 1) {i j : Nat} : R t x i j ↔ i = j := by
  cases x; simp only [Rx.k] at h; subst h; simp [R]
theorem R_k2 (h : x.k = 2) {i j : Nat} : R t x i j ↔ i < t.length ∧ x.s.testBit (t.getD i 0).toNat = true ∧ j = i + 1 := by
  cases x; simp only [Rx.k] at h; subst h; simp [R, Rx.s]
theorem R_k3 (h : x.k = 3) {i j : Nat} : R t x i j ↔ Rall t x.l i j := by
  cases x; simp only [Rx.k] at h; subst h; simp [R, Rx.l]
theorem R_k4 (h : x.k = 4) {i j : Nat} : R t x i j ↔ Rany t x.l i j := by
  cases x; simp only [Rx.k] at h; subst h; simp [R, Rx.l]
theorem R_k5 {y : Rx} (h : x.k = 5) (hl : x.l = [y]) {i j : Nat} : R t x i j ↔ if size x = 0 then i = j else ∃ n, upTo (more x.lo x.hi y) n ∧ iter (R t y) (x.lo.toNat + n) i j := by
  cases x; simp only [Rx.k, Rx.l] at h hl; subst h; subst hl; rw [R]; simp only [Rx.lo, Rx.hi]
  simp
theorem iter_le {r : Pl} {N : Nat} (h : ∀ i j, r i j → i ≤ N → j ≤ N) : ∀ (n i j : Nat), iter r n i j → i ≤ N → j ≤ N
  | 0, i, j, e, hi => by simp only [iter] at e; omega
  | n + 1, i, j, ⟨k, h1, h2⟩, hi => h k j h2 (iter_le h n i k h1 hi)
theorem Rall_le : ∀ (l : List Rx), (∀ x ∈ l, ∀ i j, R t x i j → i ≤ t.length → j ≤ t.length) → ∀ i j, Rall t l i j → i ≤ t.length → j ≤ t.length
  | [], _, i, j, e, hi => by simp only [Rall] at e; omega
  | x :: l, h, i, j, e, hi => by
    simp only [Rall] at e
    obtain ⟨k, h1, h2⟩ := e
    exact Rall_le l (fun y hy => h y (by simp [hy])) k j h2 (h x (by simp) i k h1 hi)
theorem Rany_le : ∀ (l : List Rx), (∀ x ∈ l, ∀ i j, R t x i j → i ≤ t.length → j ≤ t.length) → ∀ i j, Rany t l i j → i ≤ t.length → j ≤ t.length
  | [], _, i, j, e, hi => by simp only [Rany] at e
  | x :: l, h, i, j, e, hi => by
    simp only [Rany] at e
    rcases e with e | e
    · exact h x (by simp) i j e hi
    · exact Rany_le l (fun y hy => h y (by simp [hy])) i j e hi
theorem R_le (x : Rx) : ∀ i j, R t x i j → i ≤ t.length → j ≤ t.length := by
  induction x using Rx.ind with
  | h x ih =>
    obtain ⟨k, s, lo, hi, l⟩ := x
    intro i j h hi
    rw [R] at h
    have ih : ∀ y ∈ l, ∀ i j, R t y i j → i ≤ t.length → j ≤ t.length := ih
    split at h
    · omega
    · split at h
      · exact Rall_le l ih i j h hi
      · split at h
        · exact Rany_le l ih i j h hi
        · split at h
          · split at h
            · omega
            · split at h
              · obtain ⟨n, _, hn⟩ := h
                exact iter_le (ih _ List.mem_cons_self) _ i j hn hi
              · omega
          · omega
end
def Im (r : Pl) (ks : List Nat) (j : Nat) : Prop := ∃ i, i ∈ ks ∧ r i j
def Dle (r : Pl) (ks : List Nat) (q j : Nat) : Prop := ∃ i, i ∈ ks ∧ ∃ n, n ≤ q ∧ iter r n i j
section
variable {r : Pl} {ks os ns : List Nat} {q N : Nat}
theorem Dle.mono {q q' j : Nat} (h : Dle r ks q j) (hq : q ≤ q') : Dle r ks q' j := by
  obtain ⟨i, h1, n, h2, h3⟩ := h
  exact ⟨i, h1, n, by omega, h3⟩
theorem Dle.zero {j : Nat} : Dle r ks 0 j ↔ j ∈ ks := by
  constructor
  · rintro ⟨i, h1, n, h2, h3⟩
    obtain rfl : n = 0 := by omega
    simp only [iter] at h3
    exact h3 ▸ h1
  · exact fun h => ⟨j, h, 0, Nat.le_refl _, rfl⟩
theorem Dle.le (h : ∀ i j, r i j → i < N → j < N) (hk : ∀ k ∈ ks, k < N) {j : Nat} (hd : Dle r ks q j) : j < N := by
  obtain ⟨i, h1, n, h2, h3⟩ := hd
  have key : ∀ (n i j : Nat), iter r n i j → i < N → j < N := by
    intro n
    induction n with
    | zero => intro i j e hi; simp only [iter] at e; omega
    | succ n ih => rintro i j ⟨k, e1, e2⟩ hi; exact h k j e2 (ih i k e1 hi)
  exact key n i j h3 (hk i h1)
theorem Dle.next {j k : Nat} (h : Dle r ks q k) (hr : r k j) : Dle r ks (q + 1) j := by
  obtain ⟨i, h1, n, h2, h3⟩ := h
  exact ⟨i, h1, n + 1, by omega, k, h3, hr⟩
theorem Dle.pred {j : Nat} (h : Dle r ks (q + 1) j) : Dle r ks q j ∨ ∃ k, Dle r ks q k ∧ r k j := by
  obtain ⟨i, h1, n, h2, h3⟩ := h
  by_cases hn : n ≤ q
  · exact .inl ⟨i, h1, n, hn, h3⟩
  · obtain rfl : n = q + 1 := by omega
    obtain ⟨k, e1, e2⟩ := h3
    exact .inr ⟨k, ⟨i, h1, q, Nat.le_refl _, e1⟩, e2⟩
def Fresh (r : Pl) (ks : List Nat) (q j : Nat) : Prop := Dle r ks q j ∧ (q = 0 ∨ ¬ Dle r ks (q - 1) j)
theorem fresh_next (hn : ∀ j, j ∈ ns ↔ Fresh r ks q j) {j : Nat} : (Im r ns j ∧ ¬ Dle r ks q j) ↔ Fresh r ks (q + 1) j := by
  constructor
  · rintro ⟨⟨i, h1, h2⟩, h3⟩
    exact ⟨((hn i).1 h1).1.next h2, .inr h3⟩
  · rintro ⟨h1, h2⟩
    have h3 : ¬ Dle r ks q j := by rcases h2 with h | h; omega; exact h
    rcases h1.pred with h | ⟨k, h4, h5⟩
    · exact absurd h h3
    · refine ⟨⟨k, (hn k).2 ⟨h4, ?_⟩, h5⟩, h3⟩
      rcases Nat.eq_zero_or_pos q with h0 | h0
      · exact .inl h0
      · right
        intro hk
        exact h3 ((hk.next h5).mono (by omega))
theorem fresh_done (hn : ∀ j, ¬ Fresh r ks q j) : ∀ (n j : Nat), Dle r ks n j → Dle r ks q j := by
  have step : ∀ k j, Dle r ks q k → r k j → Dle r ks q j := fun k j h hr => by
    by_cases h0 : q = 0
    · exact absurd ⟨h, .inl h0⟩ (hn k)
    · by_cases h1 : Dle r ks (q - 1) k
      · exact (h1.next hr).mono (by omega)
      · exact absurd ⟨h, .inr h1⟩ (hn k)
  intro n
  induction n with
  | zero => exact fun j h => h.mono (Nat.zero_le _)
  | succ n ih =>
    intro j h
    rcases h.pred with h | ⟨k, h1, h2⟩
    · exact ih j h
    · exact step k j (ih k h1) h2
end
def Upto (r : Pl) (ks : List Nat) (most : Int) (j : Nat) : Prop := ∃ q : Nat, (most < 0 ∨ (q : Int) ≤ most) ∧ Dle r ks q j
theorem upto_most {r : Pl} {ks : List Nat} {q : Nat} {j : Nat} : Upto r ks (q : Int) j ↔ Dle r ks q j := by
  constructor
  · rintro ⟨n, h1, h2⟩
    exact h2.mono (by omega)
  · exact fun h => ⟨q, .inr (by omega), h⟩
theorem upto_done {r : Pl} {ks : List Nat} {q : Nat} {most : Int} (hq : most < 0 ∨ (q : Int) ≤ most) (hn : ∀ j, ¬ Fresh r ks q j) {j : Nat} : Upto r ks most j ↔ Dle r ks q j := by
  constructor
  · rintro ⟨n, h1, h2⟩
    exact fresh_done hn n j h2
  · exact fun h => ⟨q, hq, h⟩
def mps (Ls : List (List Nat)) : List ABlk := Ls.map fun l => .amap (sents l)
theorem mps_app {Ls : List (List Nat)} {l : List Nat} : mps (Ls ++ [l]) = mps Ls ++ [.amap (sents l)] := by simp [mps]
theorem mps_len {Ls : List (List Nat)} : (mps Ls).length = Ls.length := by simp [mps]
theorem mps_clo {Ls : List (List Nat)} {h t : Nat} : (mps Ls).all (cloB h t) = true := by
  simp only [mps, List.all_map, List.all_eq_true]
  exact fun x _ => sents_cloB
theorem mps_noIt {Ls : List (List Nat)} {b : Nat} : noIt b (mps Ls) = true := by
  simp only [mps, noIt, List.all_map, List.all_eq_true]
  exact fun x _ => rfl
end Go.Hk
namespace Go.Hk
structure PlOK (G : List ABlk) (T : List (Nat × (Nat × Nat))) (p b : Nat) (t : List UInt8) (ks : List Nat) : Prop where
  tx : G[p]? = some (.cells 0 [.str t])
  at_ : G[b]? = some (.amap (sents ks))
  nd : ks.Nodup
  len : t.length < 1000000
  le : ∀ k ∈ ks, k ≤ t.length
  shut : Hk.shut ⟨G, T⟩ = true
theorem PlOK.inj {G : List ABlk} {T : List (Nat × (Nat × Nat))} {p b : Nat} {t t' : List UInt8} {ks ks' : List Nat} (h : PlOK G T p b t ks) (h' : PlOK G T p b t' ks') : t = t' ∧ ks = ks' := by
  have e0 := h.at_.symm.trans h'.at_
  have e4 := h.tx.symm.trans h'.tx
  simp only [Option.some.injEq, ABlk.amap.injEq, ABlk.cells.injEq, List.cons.injEq, AVal.str.injEq, true_and, and_true] at e0 e4
  exact ⟨e4, sents_inj e0⟩
section
variable {n : Nat} {G : List ABlk} {T : List (Nat × (Nat × Nat))} {p b : Nat} {t : List UInt8} {ks : List Nat} {x : Rx} {most : Int}
noncomputable def iBh (n : Nat) : List AVal → AMem → Option (AVal × AMem) := rimp fun xs m v m' => ∃ G T p b t ks x, (PlOK G T p b t ks ∧ okX x ∧ inR x ∧ sz x < n) ∧ xs = [.ptr p 0 0, rV x, .map b] ∧ m = ⟨G, T⟩ ∧
  v = .map G.length ∧ m' = ⟨G ++ [.amap (sents (cset (t.length + 1) (Im (R t x) ks)))], T⟩
theorem iBh_eq (h : PlOK G T p b t ks) (hx : okX x) (hr : inR x) (hn : sz x < n) : iBh n [.ptr p 0 0, rV x, .map b] ⟨G, T⟩ = some (.map G.length, ⟨G ++ [.amap (sents (cset (t.length + 1) (Im (R t x) ks)))], T⟩) :=
  rimp_eq ⟨G, T, p, b, t, ks, x, ⟨h, hx, hr, hn⟩, rfl, rfl, rfl, rfl⟩ (by
    rintro _ _ ⟨G', T', p', b', t', ks', x', ⟨h', hx', hr', hn'⟩, e, em, rfl, rfl⟩
    cases em
    simp only [List.cons.injEq, AVal.map.injEq, AVal.ptr.injEq, true_and, and_true] at e
    obtain ⟨e1, e2, e3⟩ := e
    subst e1; subst e3
    have e2 := rV_inj hx hx' e2
    subst e2
    obtain ⟨rfl, rfl⟩ := h.inj h'
    exact ⟨rfl, rfl⟩)
noncomputable def iMo (n : Nat) : List AVal → AMem → Option (AVal × AMem) := rimp fun xs m v m' => ∃ G T p b t ks x most, (PlOK G T p b t ks ∧ okX x ∧ inR x ∧ sz x < n ∧ -1 ≤ most ∧ most < 1000) ∧ xs = [.ptr p 0 0, rV x, .map b, .int .i64 most] ∧ m = ⟨G, T⟩ ∧
  v = .map G.length ∧ m' = ⟨G ++ [.amap (sents (cset (t.length + 1) (Upto (R t x) ks most)))], T⟩
theorem iMo_eq (h : PlOK G T p b t ks) (hx : okX x) (hr : inR x) (hn : sz x < n) (h1 : -1 ≤ most) (h2 : most < 1000) : iMo n [.ptr p 0 0, rV x, .map b, .int .i64 most] ⟨G, T⟩ = some (.map G.length, ⟨G ++ [.amap (sents (cset (t.length + 1) (Upto (R t x) ks most)))], T⟩) :=
  rimp_eq ⟨G, T, p, b, t, ks, x, most, ⟨h, hx, hr, hn, h1, h2⟩, rfl, rfl, rfl, rfl⟩ (by
    rintro _ _ ⟨G', T', p', b', t', ks', x', most', ⟨h', hx', hr', hn', _, _⟩, e, em, rfl, rfl⟩
    cases em
    simp only [List.cons.injEq, AVal.map.injEq, AVal.ptr.injEq, AVal.int.injEq, true_and, and_true] at e
    obtain ⟨e1, e2, e3, e4⟩ := e
    subst e1; subst e3; subst e4
    have e2 := rV_inj hx hx' e2
    subst e2
    obtain ⟨rfl, rfl⟩ := h.inj h'
    exact ⟨rfl, rfl⟩)
def moM (G : List ABlk) (y : Rx) (os : List Nat) (Ls : List (List Nat)) : List ABlk := G ++ (.cells 0 (cR y) :: .amap (sents os) :: .cells 0 [.map (G.length + 1)] :: mps Ls)
theorem cR_clo0 {h t : Nat} {y : Rx} : cloB h t (.cells 0 (cR y)) = true := c_cR
theorem moM_shut {y : Rx} {os : List Nat} {Ls : List (List Nat)} (hs : shut ⟨G, T⟩ = true) : shut ⟨moM G y os Ls, T⟩ = true :=
  shut_one hs fun h hh => by
    simp only [List.length_cons] at hh
    have h1 : cloB h T.length (.cells 0 [.map (G.length + 1)]) = true := by simp [cloB, cloL, clo]; omega
    simp only [List.all_cons, cR_clo0, sents_cloB, mps_clo, h1, Bool.and_true]
theorem moM_len {y : Rx} {os : List Nat} {Ls : List (List Nat)} : (moM G y os Ls).length = G.length + (Ls.length + 3) := by simp [moM, mps_len]
theorem moM_lt {y : Rx} {os : List Nat} {Ls : List (List Nat)} {i : Nat} (h : i < G.length) : (moM G y os Ls)[i]? = G[i]? := m_at h
end
end Go.Hk
namespace Go.Hk
section
variable {G : List ABlk} {T : List (Nat × (Nat × Nat))} {y : Rx} {os os' l l' : List Nat} {Ls : List (List Nat)} {b : Nat}
theorem moM_app : moM G y os (Ls ++ [l]) = moM G y os Ls ++ [.amap (sents l)] := by simp [moM, mps_app]
theorem moM_0 : (moM G y os Ls)[G.length]? = some (.cells 0 (cR y)) := m_own0
theorem moM_1 : (moM G y os Ls)[G.length + 1]? = some (.amap (sents os)) := m_own
theorem moM_2 : (moM G y os Ls)[G.length + 2]? = some (.cells 0 [.map (G.length + 1)]) := m_own
theorem moM_last : (moM G y os (Ls ++ [l]))[(moM G y os Ls).length]? = some (.amap (sents l)) := by rw [moM_app]; simp
theorem moM_setL : (moM G y os (Ls ++ [l])).set (moM G y os Ls).length (.amap (sents l')) = moM G y os (Ls ++ [l']) := by
  rw [moM_app, moM_app, List.set_append_right _ _ (Nat.le_refl _)]; simp
theorem moM_set1 : (moM G y os Ls).set (G.length + 1) (.amap (sents os')) = moM G y os' Ls := by
  unfold moM; rw [m_put]; rfl
theorem moM_noIt (hs : shut ⟨G, T⟩ = true) (hb : G.length ≤ b) : noIt b (moM G y os Ls) = true := by
  unfold moM
  rw [noIt_app, noIt_shut hs hb]
  have : noIt b (mps Ls) = true := mps_noIt
  simp only [noIt] at this ⊢
  simp [noIt1, this]
end
end Go.Hk
namespace Go.Hk
section
variable {t : List UInt8}
theorem Rall_snoc {y : Rx} : ∀ {l : List Rx} {i j : Nat}, Rall t (l ++ [y]) i j ↔ ∃ k, Rall t l i k ∧ R t y k j
  | [], i, j => by
    simp only [List.nil_append, Rall]
    constructor
    · rintro ⟨k, h1, rfl⟩; exact ⟨i, rfl, h1⟩
    · rintro ⟨k, rfl, h1⟩; exact ⟨j, h1, rfl⟩
  | x :: l, i, j => by
    simp only [List.cons_append, Rall]
    constructor
    · rintro ⟨k, h1, h2⟩
      obtain ⟨k', h3, h4⟩ := Rall_snoc.1 h2
      exact ⟨k', ⟨k, h1, h3⟩, h4⟩
    · rintro ⟨k', ⟨k, h1, h3⟩, h4⟩
      exact ⟨k, h1, Rall_snoc.2 ⟨k', h3, h4⟩⟩
theorem Rany_snoc {y : Rx} : ∀ {l : List Rx} {i j : Nat}, Rany t (l ++ [y]) i j ↔ Rany t l i j ∨ R t y i j
  | [], i, j => by simp [Rany]
  | x :: l, i, j => by simp only [List.cons_append, Rany]; rw [Rany_snoc, or_assoc]
theorem Im_all {y : Rx} {l : List Rx} {ks ns : List Nat} (h : ∀ j, j ∈ ns ↔ Im (Rall t l) ks j) {j : Nat} : Im (R t y) ns j ↔ Im (Rall t (l ++ [y])) ks j := by
  constructor
  · rintro ⟨k, h1, h2⟩
    obtain ⟨i, h3, h4⟩ := (h k).1 h1
    exact ⟨i, h3, Rall_snoc.2 ⟨k, h4, h2⟩⟩
  · rintro ⟨i, h3, h4⟩
    obtain ⟨k, h5, h6⟩ := Rall_snoc.1 h4
    exact ⟨k, (h k).2 ⟨i, h3, h5⟩, h6⟩
theorem Im_iter {r : Pl} {n : Nat} {ks ns : List Nat} (h : ∀ j, j ∈ ns ↔ Im (iter r n) ks j) {j : Nat} : Im r ns j ↔ Im (iter r (n + 1)) ks j := by
  constructor
  · rintro ⟨k, h1, h2⟩
    obtain ⟨i, h3, h4⟩ := (h k).1 h1
    exact ⟨i, h3, k, h4, h2⟩
  · rintro ⟨i, h3, k, h5, h6⟩
    exact ⟨k, (h k).2 ⟨i, h3, h5⟩, h6⟩
theorem Im_upto {r : Pl} {lo : Nat} {ks ns : List Nat} {most : Int} {o : Option Nat} (ho : ∀ q : Nat, (most < 0 ∨ (q : Int) ≤ most) ↔ upTo o q) (h : ∀ j, j ∈ ns ↔ Im (iter r lo) ks j) {j : Nat} : Upto r ns most j ↔ Im (fun i j => ∃ n, upTo o n ∧ iter r (lo + n) i j) ks j := by
  constructor
  · rintro ⟨q, h1, k, h2, n, h3, h4⟩
    obtain ⟨i, h5, h6⟩ := (h k).1 h2
    have hn : upTo o n := (ho n).1 (by omega)
    exact ⟨i, h5, n, hn, (iter_add r lo n i j).1 ⟨k, h6, h4⟩⟩
  · rintro ⟨i, h5, n, h1, h2⟩
    obtain ⟨k, h6, h4⟩ := (iter_add r lo n i j).2 h2
    exact ⟨n, (ho n).2 h1, k, (h k).2 ⟨i, h5, h6⟩, n, Nat.le_refl _, h4⟩
theorem Im_le {x : Rx} {ks : List Nat} (hk : ∀ k ∈ ks, k ≤ t.length) {j : Nat} (h : Im (R t x) ks j) : j ≤ t.length := by
  obtain ⟨i, h1, h2⟩ := h
  exact R_le x i j h2 (hk i h1)
theorem cset_le {x : Rx} {ks : List Nat} (hk : ∀ k ∈ ks, k ≤ t.length) {j : Nat} : j ∈ cset (t.length + 1) (Im (R t x) ks) ↔ Im (R t x) ks j := by
  rw [cset_mem]
  exact ⟨fun h => h.2, fun h => ⟨by have := Im_le hk h; omega, h⟩⟩
end
end Go.Hk
namespace Go.Hk
noncomputable def endsL (x : Rx) (s : List UInt8) (i : Int) : List Int :=
  if rightT x = true ∧ s.length ≤ 10000 ∧ 0 ≤ i ∧ i ≤ s.length then (cset (s.length + 1) (R s x i.toNat)).map fun k : Nat => (k : Int) else []
theorem cset_sorted {n : Nat} {S : Nat → Prop} : ((cset n S).map fun k : Nat => (k : Int)).mergeSort (fun x y => decide (x ≤ y)) = (cset n S).map fun k : Nat => (k : Int) := by
  refine List.mergeSort_of_pairwise ?_
  rw [List.pairwise_map]
  have h : (cset n S).Pairwise (· < ·) := List.Pairwise.sublist List.filter_sublist List.pairwise_lt_range
  exact h.imp fun {a b} hab => by simp; omega
theorem Im_one {r : Pl} {i : Nat} : Im r [i] = r i := by
  funext j
  simp [Im]
end Go.Hk
namespace Go.Hk
theorem fl_cI_map : ∀ l : List Int, fl cI l = l.map fun n => .int .i64 n
  | [] => rfl
  | x :: l => by rw [fl_cons, fl_cI_map l]; rfl
theorem fl_cI_get {l : List Int} {i : Nat} {x : Int} (h : l[i]? = some x) : (fl cI l)[i]? = some (.int .i64 x) := by
  rw [fl_cI_map, List.getElem?_map, h]; rfl
end Go.Hk
namespace Go.Hk
open Go.Maps Go.WideElems Go.WideShapes Go.RowKit
def unitR : Value → Option (DataW Unit × List MemPlace) := fun _ => some (.nil, [])
theorem set_keys {κ : Cx} {ks : List Nat} {l : List MapEntry} (h : AL κ (sents ks) l) : l.map (·.key) = ks.map fun k : Nat => encZ (k : Int) := by
  obtain ⟨h1, h2⟩ := h
  rw [sents_len] at h1
  apply List.ext_getElem (by simp [h1])
  intro j hj hj'
  simp only [List.length_map] at hj hj'
  have := (h2 j (by rw [sents_len]; exact hj') hj).1
  rw [sents_get] at this
  simp only [List.getElem_map]
  generalize l[j].key = u at this ⊢
  cases this
  rfl
theorem set_owned {P : Program} {kt : TypeId} (hk : P.underlying kt = some (.int .i64)) {γ : Ghost} (hr : Rl γ) {b : Nat} {ks : List Nat} (hb : γ.S.H[b]? = some (.amap (sents ks))) (hn : ks.Nodup) (hl : ks.length < 1000000) (hlt : ∀ k ∈ ks, k < 1000000) :
    ∃ D0 : DataW Unit, γ.w.ownsMap P kt unitR (γ.ι.h b) ks.length D0 ∧ (intKeys D0).Perm (ks.map fun k : Nat => (k : Int)) ∧ Maps.size D0 = ks.length := by
  obtain ⟨en, clk, h1, h2⟩ := hr.maps b _ hb
  have hsz := h2.size
  rw [sents_len] at hsz
  obtain ⟨l, hp, ha⟩ := h2.perm
  have hkeys := set_keys ha
  have hkm : ∀ x ∈ en.toList, ∃ k, k ∈ ks ∧ x.key = encZ ((k : Nat) : Int) := fun x hx => by
    have : x.key ∈ l.map (·.key) := List.mem_map.2 ⟨x, hp.mem_iff.2 hx, rfl⟩
    rw [hkeys, List.mem_map] at this
    obtain ⟨k, h1, h2⟩ := this
    exact ⟨k, h1, h2.symm⟩
  have wfb : ∀ k : Nat, k < 1000000 → IntKind.i64.min ≤ (k : Int) ∧ (k : Int) ≤ IntKind.i64.max := fun k hk => by
    have e1 : IntKind.i64.min = -9223372036854775808 := by rfl
    have e2 : IntKind.i64.max = 9223372036854775807 := by rfl
    rw [e1, e2]
    omega
  have hml : 1000000 ≤ maxLen := by decide
  have hrd : ∀ x ∈ en.toList, ∀ k : Nat, k < 1000000 → x.key = encZ (k : Int) → WideElems.rd P kt unitR x = some (.int .i64 (k : Int), .nil) := fun x _ k hk2 he => by
    have hw : (Lit.int .i64 (k : Int)).wf = true := by simp only [Lit.wf, Bool.and_eq_true, decide_eq_true_eq]; exact wfb k hk2
    simp only [WideElems.rd, he, unitR]
    rw [show encZ (k : Int) = .int .i64 (k : Int) from rfl, keyOf_int_mk hk hw]
    rfl
  have hF : Fit P kt unitR en clk := ⟨by rw [hsz]; omega, ⟨h2.lt, h2.born, by
      refine ((hp.map _).nodup_iff).1 ?_
      rw [hkeys]
      exact List.Pairwise.map _ (fun a b hab e => hab (by have := encZ_inj e; omega)) hn⟩, fun x hx => by
      obtain ⟨k, k1, k2⟩ := hkm x hx
      exact ⟨_, hrd x hx k (hlt k k1) k2⟩⟩
  refine ⟨.map ((en.toList.map (rg P kt unitR)).foldr DataW.insert []), ⟨en, clk, h1, hF, by omega, rfl⟩, ?_, ?_⟩
  · show (((en.toList.map (rg P kt unitR)).foldr DataW.insert []).map fun p => intOf p.1).Perm _
    refine ((sorted_perm _).map _).trans ?_
    rw [List.map_map]
    have e : l.map (fun x => intOf (rg P kt unitR x).1) = ks.map fun k : Nat => (k : Int) := by
      have e2 : l.map (fun x => intOf (rg P kt unitR x).1) = (l.map (·.key)).map fun v => match v with | .int _ a => a | _ => 0 := by
        rw [List.map_map]
        refine List.map_congr_left fun x hx => ?_
        obtain ⟨k, k1, k2⟩ := hkm x (hp.mem_iff.1 hx)
        have := hrd x (hp.mem_iff.1 hx) k (hlt k k1) k2
        simp only [rg, this, Option.getD_some, intOf, Function.comp_apply, k2]
      rw [e2, hkeys, List.map_map]
      rfl
    rw [← e]
    exact (hp.map _).symm
  · show ((en.toList.map (rg P kt unitR)).foldr DataW.insert []).length = _
    rw [(sorted_perm _).length_eq, List.length_map]
    simpa using hsz
theorem told_row {γ : Ghost} (hr : Rl γ) {w' : World} (hb : Below γ.w.heap.size γ.w w') {e : TypeId} {v : Value} {n : Nat} {L : List Int} (h : w'.ownsRow γ.w.heap.size e 1 v n (L.map encZ)) :
    Rl { γ with w := w' } ∧ Ext γ { γ with w := w' } ∧ VR ({ γ with w := w' } : Ghost).cx (slc cI L) v := by
  have hg : Grow γ.w w' := ⟨hb.os, hb.tape, hb.output, hb.size, hb.block⟩
  refine ⟨rl_grow hr hg, ext_grow hg, ?_⟩
  obtain ⟨hn, h⟩ := h
  rw [List.length_map, Nat.mul_one] at hn
  rcases h with ⟨rfl, hz⟩ | ⟨g, cap, cur, rfl, hbase, hgb, r1, r2, r3, r4⟩
  · have : L = [] := List.eq_nil_of_length_eq_zero (by omega)
    subst this
    exact .slnil .no trivial
  · rw [Nat.mul_one] at r4
    subst hn
    have hcl : (fl cI L).length = L.length := by rw [fl_len cI_len, Nat.mul_one]
    have hcur : ∀ j (hj : j < L.length), cur[j]? = some (encZ L[j]) := fun j hj => by
      have := congrArg (·[j]?) r4
      simp only [List.getElem?_take, hj, if_true, List.getElem?_map, Array.getElem?_toList] at this
      rw [this]
      simp [hj]
    have hfl : ∀ j (hj : j < (fl cI L).length), (fl cI L)[j] = .int .i64 (L[j]'(by omega)) := fun j hj => by
      have hj' : j < L.length := by omega
      have : (fl cI L)[j]? = some (.int .i64 L[j]) := by
        have key : ∀ (M : List Int) (q : Nat) (hq : q < M.length), (fl cI M)[q]? = some (.int .i64 M[q]) := by
          intro M
          induction M with
          | nil => intro q hq; simp at hq
          | cons a M ih =>
            intro q hq
            rw [fl_cons]
            cases q with
            | zero => rfl
            | succ q => exact ih q (by simpa using hq)
        exact key L j hj'
      rw [List.getElem?_eq_getElem hj] at this
      exact Option.some.inj this
    refine .sl .no L.length (fl cI L) g 0 cap (fun j => cur.getD j undef) (by omega) (fun j hj => ?_) (fun j hj => ?_) trivial
    · have hj' : j < L.length := by omega
      have hc := hcur j hj'
      have hd : cur.getD j undef = encZ L[j] := by
        rw [Array.getD_eq_getD_getElem?, hc]; rfl
      refine ⟨?_, by rw [hd]; rfl, fun hbad => ?_, fun b hbo => ?_, fun t ht => ?_⟩
      · show w'.cell? _ = _
        simp only [World.cell?, hgb, Nat.zero_add]
        rw [hd]
        simpa using hc
      · have := hr.bad _ _ hbad
        have := hr.lo
        omega
      · have := (hr.own g (.inl ⟨b, hbo⟩)).2
        omega
      · have := (hr.own g (.inr ⟨t, ht⟩)).2
        omega
    · have hj' : j < L.length := by omega
      have hd : cur.getD j undef = encZ L[j] := by
        rw [Array.getD_eq_getD_getElem?, hcur j hj']; rfl
      simp only [hd, hfl j hj]
      exact .int _ _
end Go.Hk
namespace Go.Hk
open Classical in
noncomputable def bset (n : Nat) (S : Nat → Prop) : List Bool := (List.range n).map fun j => decide (S j)
def isT (L : List Bool) (j : Nat) : Prop := L[j]? = some true
def ImP (r : Pl) (S : Nat → Prop) (j : Nat) : Prop := ∃ i, S i ∧ r i j
theorem bset_len {n : Nat} {S : Nat → Prop} : (bset n S).length = n := by simp [bset]
theorem bset_get {n j : Nat} {S : Nat → Prop} (h : j < n) : (bset n S)[j]? = some (@decide (S j) (Classical.propDecidable _)) := by simp [bset, h]
theorem isT_bset {n j : Nat} {S : Nat → Prop} : isT (bset n S) j ↔ j < n ∧ S j := by
  unfold isT
  by_cases h : j < n
  · rw [bset_get h]; simp [h]
  · rw [List.getElem?_eq_none (by rw [bset_len]; omega)]; simp [h]
theorem isT_lt {L : List Bool} {j : Nat} (h : isT L j) : j < L.length := (List.getElem?_eq_some_iff.1 h).1
theorem isT_get {L : List Bool} {j : Nat} (h : j < L.length) : isT L j ↔ L[j] = true := by simp [isT, h]
theorem bool_ext {a b : List Bool} (hl : a.length = b.length) (h : ∀ j, j < a.length → (isT a j ↔ isT b j)) : a = b := by
  apply List.ext_getElem hl
  intro j h1 h2
  have := h j h1
  rw [isT_get h1, isT_get h2] at this
  cases ha : a[j] <;> cases hb : b[j] <;> simp_all
theorem bset_isT {L : List Bool} {n : Nat} (h : L.length = n) : bset n (isT L) = L := bool_ext (by rw [bset_len, h]) fun j hj => by
  rw [bset_len] at hj
  rw [isT_bset]
  exact ⟨fun h => h.2, fun h => ⟨hj, h⟩⟩
theorem bset_congr {n : Nat} {S S' : Nat → Prop} (h : ∀ j, j < n → (S j ↔ S' j)) : bset n S = bset n S' := by
  unfold bset
  refine List.map_congr_left fun j hj => ?_
  simp only [List.mem_range] at hj
  exact decide_eq_decide.2 (h j hj)
def orB (a b : List Bool) : List Bool := (a.zip b).map fun p => p.1 || p.2
theorem orB_len {a b : List Bool} (h : a.length = b.length) : (orB a b).length = a.length := by simp [orB, h]
theorem orB_get {a b : List Bool} {j : Nat} (ha : j < a.length) (hb : j < b.length) : (orB a b)[j]? = some (a[j] || b[j]) := by
  have e : (a.zip b)[j]? = some (a[j], b[j]) := by rw [List.getElem?_eq_getElem (by simp; omega)]; simp
  simp only [orB, List.getElem?_map, e, Option.map_some]
theorem orB_isT {a b : List Bool} (h : a.length = b.length) {j : Nat} : isT (orB a b) j ↔ isT a j ∨ isT b j := by
  by_cases hj : j < a.length
  · rw [isT_get (L := a) hj, isT_get (L := b) (by omega)]
    unfold isT
    rw [orB_get hj (by omega)]
    simp
  · have h1 : ¬ isT (orB a b) j := fun h' => by have := isT_lt h'; rw [orB_len h] at this; omega
    have h2 : ¬ isT a j := fun h' => hj (isT_lt h')
    have h3 : ¬ isT b j := fun h' => by have := isT_lt h'; omega
    simp [h1, h2, h3]
theorem orB_bset {n : Nat} {S S' : Nat → Prop} : orB (bset n S) (bset n S') = bset n fun j => S j ∨ S' j := bool_ext (by rw [orB_len (by simp [bset_len]), bset_len, bset_len]) fun j _ => by
  rw [orB_isT (by simp [bset_len]), isT_bset, isT_bset, isT_bset]
  constructor
  · rintro (h | h)
    · exact ⟨h.1, .inl h.2⟩
    · exact ⟨h.1, .inr h.2⟩
  · rintro ⟨h, h1 | h1⟩
    · exact .inl ⟨h, h1⟩
    · exact .inr ⟨h, h1⟩
def inB (a b : List Bool) : Bool := (a.zip b).all fun p => !p.1 || p.2
theorem inB_iff {a b : List Bool} (h : a.length = b.length) : inB a b = true ↔ ∀ j, isT a j → isT b j := by
  unfold inB
  rw [List.all_eq_true]
  constructor
  · intro hh j hj
    have hja := isT_lt hj
    have hjb : j < b.length := by omega
    have := hh (a[j], b[j]) (List.mem_iff_getElem.2 ⟨j, by simp; omega, by simp⟩)
    rw [isT_get hja] at hj
    rw [isT_get hjb]
    simpa [hj] using this
  · rintro hh ⟨p, q⟩ hp
    obtain ⟨j, hj, e⟩ := List.mem_iff_getElem.1 hp
    simp only [List.length_zip] at hj
    have hja : j < a.length := by omega
    have hjb : j < b.length := by omega
    simp only [List.getElem_zip, Prod.mk.injEq] at e
    obtain ⟨e1, e2⟩ := e
    have := hh j
    rw [isT_get hja, isT_get hjb] at this
    rw [← e1, ← e2]
    cases ha : a[j] <;> simp_all
theorem fl_cB_map : ∀ l : List Bool, fl cB l = l.map fun n => .bool n
  | [] => rfl
  | x :: l => by rw [fl_cons, fl_cB_map l]; rfl
theorem fl_cB_get {l : List Bool} {i : Nat} {x : Bool} (h : l[i]? = some x) : (fl cB l)[i]? = some (.bool x) := by
  rw [fl_cB_map, List.getElem?_map, h]; rfl
theorem orB_next {a b : List Bool} {i : Nat} (ha : i < a.length) (hb : i < b.length) : orB (a.take (i + 1)) (b.take (i + 1)) = orB (a.take i) (b.take i) ++ [a[i] || b[i]] := by
  unfold orB
  rw [List.take_succ_eq_append_getElem ha, List.take_succ_eq_append_getElem hb, List.zip_append (by simp; omega)]
  simp
theorem inB_next {a b : List Bool} {i : Nat} (ha : i < a.length) (hb : i < b.length) : inB (a.take (i + 1)) (b.take (i + 1)) = (inB (a.take i) (b.take i) && (!a[i] || b[i])) := by
  unfold inB
  rw [List.take_succ_eq_append_getElem ha, List.take_succ_eq_append_getElem hb, List.zip_append (by simp; omega)]
  simp
end Go.Hk
namespace Go.Hk
theorem isT_take {a : List Bool} {n j : Nat} : isT (a.take n) j ↔ j < n ∧ isT a j := by
  unfold isT
  rw [List.getElem?_take]
  split <;> simp [*]
theorem inB_take {a b : List Bool} {n : Nat} (h : a.length = b.length) (hf : inB (a.take n) (b.take n) = false) : inB a b = false := by
  cases hb : inB a b
  · rfl
  · rw [← hf]
    rw [inB_iff h] at hb
    rw [eq_comm, inB_iff (by simp [h])]
    intro j hj
    rw [isT_take] at hj ⊢
    exact ⟨hj.1, hb j hj.2⟩
end Go.Hk
namespace Go.Hk
theorem bset_false {N : Nat} {S : Nat → Prop} (h : ∀ j, j < N → ¬ S j) : bset N S = List.replicate N false := by
  apply bool_ext (by simp [bset_len])
  intro j hj
  rw [bset_len] at hj
  rw [isT_bset]
  simp only [isT]
  constructor
  · exact fun h' => absurd h'.2 (h j hj)
  · intro h'; simp [hj] at h'
theorem fl_cB_set {l : List Bool} {k : Nat} {v : Bool} : (fl cB l).set k (.bool v) = fl cB (l.set k v) := by
  rw [fl_cB_map, fl_cB_map, List.map_set]
theorem bset_set {N k : Nat} {S S' : Nat → Prop} {v : Bool} (hk : k < N) (hv : v = true ↔ S' k) (h : ∀ j, j < N → j ≠ k → (S' j ↔ S j)) : (bset N S).set k v = bset N S' := by
  apply bool_ext (by simp [bset_len])
  intro j hj
  simp only [List.length_set, bset_len] at hj
  rw [isT_bset]
  unfold isT
  rw [List.getElem?_set]
  by_cases e : k = j
  · subst e
    rw [if_pos rfl, if_pos (by rw [bset_len]; exact hj)]
    simp only [Option.some.injEq]
    rw [hv]
    exact ⟨fun h => ⟨hj, h⟩, fun h => h.2⟩
  · rw [if_neg e]
    have := isT_bset (n := N) (j := j) (S := S)
    unfold isT at this
    rw [this, h j hj (fun e' => e e'.symm)]
section
variable {r : Pl} {S : Nat → Prop} {N : Nat}
theorem ImP_lt (hr : ∀ i j, r i j → i < N → j < N) (hS : ∀ i, S i → i < N) {j : Nat} (h : ImP r S j) : j < N := by
  obtain ⟨i, h1, h2⟩ := h
  exact hr i j h2 (hS i h1)
theorem isT_bset' (hS : ∀ i, S i → i < N) {j : Nat} : isT (bset N S) j ↔ S j := by
  rw [isT_bset]
  exact ⟨fun h => h.2, fun h => ⟨hS j h, h⟩⟩
theorem iter_lt (hr : ∀ i j, r i j → i < N → j < N) : ∀ (n i j : Nat), iter r n i j → i < N → j < N
  | 0, i, j, e, hi => by simp only [iter] at e; omega
  | n + 1, i, j, ⟨k, h1, h2⟩, hi => hr k j h2 (iter_lt hr n i k h1 hi)
def DS (r : Pl) (S : Nat → Prop) (m n j : Nat) : Prop := ∃ k, k ≤ n ∧ ImP (iter r (m + k)) S j
theorem ImP_iter {n j : Nat} : ImP r (ImP (iter r n) S) j ↔ ImP (iter r (n + 1)) S j := by
  constructor
  · rintro ⟨k, ⟨i, h1, h2⟩, h3⟩; exact ⟨i, h1, k, h2, h3⟩
  · rintro ⟨i, h1, k, h2, h3⟩; exact ⟨k, ⟨i, h1, h2⟩, h3⟩
theorem DS_succ {m n j : Nat} : DS r S m (n + 1) j ↔ DS r S m n j ∨ ImP (iter r (m + (n + 1))) S j := by
  constructor
  · rintro ⟨k, h1, h2⟩
    by_cases h : k ≤ n
    · exact .inl ⟨k, h, h2⟩
    · obtain rfl : k = n + 1 := by omega
      exact .inr h2
  · rintro (⟨k, h1, h2⟩ | h)
    · exact ⟨k, by omega, h2⟩
    · exact ⟨n + 1, Nat.le_refl _, h⟩
theorem DS_zero {m j : Nat} : DS r S m 0 j ↔ ImP (iter r m) S j := by
  constructor
  · rintro ⟨k, h1, h2⟩
    obtain rfl : k = 0 := by omega
    exact h2
  · exact fun h => ⟨0, Nat.le_refl _, h⟩
theorem DS_done {m n : Nat} (h : ∀ j, ImP (iter r (m + (n + 1))) S j → DS r S m n j) : ∀ k j, ImP (iter r (m + k)) S j → DS r S m n j := by
  have step : ∀ j, (∃ k, DS r S m n k ∧ r k j) → DS r S m n j := by
    rintro j ⟨k, ⟨q, h1, h2⟩, h3⟩
    have h4 : ImP (iter r (m + (q + 1))) S j := ImP_iter.1 ⟨k, h2, h3⟩
    by_cases hq : q + 1 ≤ n
    · exact ⟨q + 1, hq, h4⟩
    · obtain rfl : q = n := by omega
      exact h j h4
  intro k
  induction k with
  | zero => exact fun j h => ⟨0, Nat.zero_le _, h⟩
  | succ k ih =>
    intro j h
    obtain ⟨i, h1, h2⟩ := ImP_iter.2 (show ImP (iter r ((m + k) + 1)) S j from h)
    exact step j ⟨i, ih i h1, h2⟩
end
theorem sub_len {l l' : List Nat} (h : l.Nodup) (h' : l'.Nodup) (hs : ∀ x ∈ l, x ∈ l') : l.length ≤ l'.length := by
  have hp : l.Perm (l'.filter fun x => decide (x ∈ l)) := perm_of_mem h (List.Nodup.sublist List.filter_sublist h') fun j => by
    rw [List.mem_filter, decide_eq_true_eq]
    exact ⟨fun hj => ⟨hs j hj, hj⟩, fun hj => hj.2⟩
  rw [hp.length_eq]
  exact List.length_filter_le _ _
theorem cset_grow {N j : Nat} {S S' : Nat → Prop} (h : ∀ j, S j → S' j) (hj : j < N) (h1 : S' j) (h2 : ¬ S j) : (cset N S).length + 1 ≤ (cset N S').length := by
  have := sub_len (l := j :: cset N S) (l' := cset N S') (List.nodup_cons.2 ⟨fun hm => h2 (cset_mem.1 hm).2, cset_nodup⟩) cset_nodup fun x hx => by
    rcases List.mem_cons.1 hx with rfl | hx
    · exact cset_mem.2 ⟨hj, h1⟩
    · exact cset_mem.2 ⟨(cset_mem.1 hx).1, h x (cset_mem.1 hx).2⟩
  simpa using this
theorem cset_full {N j : Nat} {S : Nat → Prop} (h : N ≤ (cset N S).length) (hj : j < N) : S j := by
  by_cases hS : S j
  · exact hS
  · have := nodup_len (l := j :: cset N S) (n := N) (List.nodup_cons.2 ⟨fun hm => hS (cset_mem.1 hm).2, cset_nodup⟩) fun x hx => by
      rcases List.mem_cons.1 hx with rfl | hx
      · exact hj
      · exact (cset_mem.1 hx).1
    simp only [List.length_cons] at this
    omega
end Go.Hk
namespace Go.Hk
noncomputable def iOrM : List AVal → AMem → Option (AVal × AMem) := rimp fun xs m v m' => ∃ (A B : List Bool) (u : AVal), (A.length = B.length ∧ A.length < 100000000) ∧ xs = [u, slc cB B] ∧
  (u = slc cB A ∨ ∃ b, u = .msl b 1 0 A.length A.length ∧ m.H[b]? = some (.cells 1 (fl cB A)) ∧ m.T = [] ∧ shut m = true) ∧ v = slc cB (orB A B) ∧ m' = m
theorem fl_cB_inj {a b : List Bool} (h : fl cB a = fl cB b) : a = b := by
  rw [fl_cB_map, fl_cB_map] at h
  exact List.map_inj_right (fun x y e => AVal.bool.inj e) |>.1 h
theorem iOrM_at {m : AMem} {A B : List Bool} {u : AVal} (h : A.length = B.length ∧ A.length < 100000000) (hu : u = slc cB A ∨ ∃ b, u = .msl b 1 0 A.length A.length ∧ m.H[b]? = some (.cells 1 (fl cB A)) ∧ m.T = [] ∧ shut m = true) :
    iOrM [u, slc cB B] m = some (slc cB (orB A B), m) :=
  rimp_eq ⟨A, B, u, h, rfl, hu, rfl, rfl⟩ (by
    rintro _ _ ⟨A', B', u', h', e, hu', rfl, rfl⟩
    simp only [List.cons.injEq, and_true] at e
    obtain ⟨rfl, e2⟩ := e
    have hB := slc_inj cB_len (fun _ _ _ _ => cB_inj) e2
    subst hB
    have hA : A' = A := by
      rcases hu with rfl | ⟨b, rfl, hb, _, _⟩ <;> rcases hu' with e1 | ⟨b', e1, hb', _, _⟩
      · exact (slc_inj cB_len (fun _ _ _ _ => cB_inj) e1).symm
      · simp [slc] at e1
      · simp [slc] at e1
      · simp only [AVal.msl.injEq, true_and] at e1
        obtain ⟨rfl, _⟩ := e1
        rw [hb] at hb'
        simp only [Option.some.injEq, ABlk.cells.injEq, true_and] at hb'
        exact (fl_cB_inj hb').symm
    subst hA
    exact ⟨rfl, rfl⟩)
theorem iOrM_told {m : AMem} {A B : List Bool} (h : A.length = B.length ∧ A.length < 100000000) : iOrM [slc cB A, slc cB B] m = some (slc cB (orB A B), m) := iOrM_at h (.inl rfl)
end Go.Hk
namespace Go.Hk
section
variable {r : Pl} {S : Nat → Prop} {m : Nat}
theorem DS_ex {n j : Nat} : DS r S m n j ↔ ImP (fun i j => ∃ k, k ≤ n ∧ iter r (m + k) i j) S j := by
  constructor
  · rintro ⟨k, h1, i, h2, h3⟩; exact ⟨i, h2, k, h1, h3⟩
  · rintro ⟨i, h2, k, h1, h3⟩; exact ⟨k, h1, i, h2, h3⟩
theorem DS_bound {n j : Nat} : DS r S m n j ↔ ImP (fun i j => ∃ k, upTo (some n) k ∧ iter r (m + k) i j) S j := DS_ex
theorem DS_stand {o : Option Nat} {n : Nat} (hn : upTo o n) (h : ∀ j, ImP (iter r (m + (n + 1))) S j → DS r S m n j) {j : Nat} : DS r S m n j ↔ ImP (fun i j => ∃ k, upTo o k ∧ iter r (m + k) i j) S j := by
  constructor
  · rintro ⟨k, h1, i, h2, h3⟩
    refine ⟨i, h2, k, ?_, h3⟩
    cases o with
    | none => trivial
    | some M => simp only [upTo] at hn ⊢; omega
  · rintro ⟨i, h2, k, _, h3⟩
    exact DS_done h k j ⟨i, h2, h3⟩
theorem DS_any {n j : Nat} (h : DS r S m n j) : ImP (fun i j => ∃ k, upTo none k ∧ iter r (m + k) i j) S j := by
  obtain ⟨k, _, i, h2, h3⟩ := h
  exact ⟨i, h2, k, trivial, h3⟩
end
end Go.Hk
namespace Go.Hk
theorem cB_clo1 {h t e : Nat} {l : List Bool} : cloB h t (.cells e (fl cB l)) = true := cloL_strip _ _ l_s_cB
end Go.Hk
namespace Go.Hk
def plT (L : List Bool) (i : Nat) : List Int := ((List.range i).filter fun j => L[j]? == some true).map fun j : Nat => (j : Int)
theorem plT_next {L : List Bool} {i : Nat} (h : i < L.length) : plT L (i + 1) = if L[i] = true then plT L i ++ [(i : Int)] else plT L i := by
  unfold plT
  rw [List.range_succ, List.filter_append, List.map_append]
  cases hb : L[i] <;> simp [h, hb]
theorem plT_len {L : List Bool} {i : Nat} : (plT L i).length ≤ i := by
  have := List.length_filter_le (fun j => L[j]? == some true) (List.range i)
  simpa [plT] using this
theorem plT_bset {N : Nat} {S : Nat → Prop} : plT (bset N S) N = (cset N S).map fun j : Nat => (j : Int) := by
  unfold plT cset
  congr 1
  refine List.filter_congr fun j hj => ?_
  simp only [List.mem_range] at hj
  rw [bset_get hj]
  cases h : @decide (S j) (Classical.propDecidable _) <;> rfl
theorem cset_last {N : Nat} {S : Nat → Prop} {n : Nat} (hn : N = n + 1) : (0 < ((cset N S).map fun j : Nat => (j : Int)).length ∧ ((cset N S).map fun j : Nat => (j : Int))[((cset N S).map fun j : Nat => (j : Int)).length - 1]? = some (n : Int)) ↔ (n : Int) ∈ (cset N S).map fun j : Nat => (j : Int) := by
  constructor
  · rintro ⟨_, h⟩; exact List.mem_of_getElem? h
  · intro h
    have hm : n ∈ cset N S := by
      obtain ⟨j, h1, h2⟩ := List.mem_map.1 h
      have : j = n := by omega
      exact this ▸ h1
    have hS := (cset_mem.1 hm).2
    have e : cset N S = cset n S ++ [n] := by
      subst hn
      unfold cset
      rw [List.range_succ, List.filter_append]
      simp [hS]
    rw [e]
    simp
end Go.Hk
