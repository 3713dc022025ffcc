/- Layer 6: cells of a list of rules, written. -/
import Derived.Test.YtpbepclmcjmlbaaGreatDoorHkSpk
set_option linter.unusedSimpArgs false
set_option linter.unusedVariables false
namespace Go.Hk
theorem setMany_app_r (a : List AVal) : ∀ (vs b : List AVal) (j : Nat), setMany (a ++ b) (a.length + j) vs = a ++ setMany b j vs
  | [], b, j => rfl
  | v :: vs, b, j => by
    rw [setMany, setMany, List.set_append_right _ _ (Nat.le_add_right _ _), Nat.add_sub_cancel_left, Nat.add_assoc, setMany_app_r a vs]
theorem setMany_app_l (c : List AVal) : ∀ (vs b : List AVal) (j : Nat), j + vs.length ≤ b.length → setMany (b ++ c) j vs = setMany b j vs ++ c
  | [], b, j, _ => rfl
  | v :: vs, b, j, h => by
    simp only [List.length_cons] at h
    rw [setMany, setMany, List.set_append_left _ _ (by omega), setMany_app_l c vs _ _ (by simp; omega)]
section
variable {α : Type} {f : α → List AVal} {K k j : Nat} {l : List α} {x y : α} {vs : List AVal}
theorem fl_split (hx : l[k]? = some x) : fl f l = fl f (l.take k) ++ (f x ++ fl f (l.drop (k + 1))) := by
  obtain ⟨hk, rfl⟩ := List.getElem?_eq_some_iff.1 hx
  have e : l = l.take k ++ (l[k] :: l.drop (k + 1)) := by rw [← List.drop_eq_getElem_cons hk, List.take_append_drop]
  have := congrArg (fl f) e
  rw [fl_append, fl_cons] at this
  exact this
theorem fl_setMany (hl : ∀ x, (f x).length = K) (hx : l[k]? = some x) (hj : j + vs.length ≤ K) (hy : f y = setMany (f x) j vs) : setMany (fl f l) (k * K + j) vs = fl f (l.set k y) := by
  have hk := (List.getElem?_eq_some_iff.1 hx).1
  have ht : (fl f (l.take k)).length = k * K := by rw [fl_len hl, List.length_take]; congr 1; omega
  rw [fl_split hx, ← ht, setMany_app_r, setMany_app_l _ _ _ _ (by rw [hl]; exact hj), ← hy]
  have h2 : (l.set k y)[k]? = some y := List.getElem?_set_self hk
  rw [fl_split h2, List.take_set_of_le (Nat.le_refl _), List.drop_set_of_lt (by omega)]
end
theorem stripL_setMany : ∀ (vs us cs ds : List AVal) (o : Nat), stripL cs = some ds → stripL vs = some us → stripL (setMany cs o vs) = some (setMany ds o us)
  | [], us, cs, ds, o, h1, h2 => by simp only [stripL, Option.some.injEq] at h2; subst h2; exact h1
  | v :: vs, us, cs, ds, o, h1, h2 => by
    simp only [stripL] at h2
    split at h2
    · rename_i u us' hu hus
      simp only [Option.some.injEq] at h2
      subst h2
      rw [setMany, setMany]
      refine stripL_setMany vs us' _ _ _ ?_ hus
      clear hus
      induction cs generalizing ds o with
      | nil => simp only [stripL, Option.some.injEq] at h1; subst h1; rfl
      | cons c cs ih =>
        simp only [stripL] at h1
        split at h1
        · rename_i d ds' hd hds
          simp only [Option.some.injEq] at h1
          subst h1
          cases o with
          | zero => simp [stripL, hu, hds]
          | succ o => simp [stripL, hd, ih ds' o hds]
        · cases h1
    · cases h2
/-! Rules, conditions, written. -/
def Sp.upR (s : Sp) (k : Nat) (q : Ru) : Sp := ⟨s.conds, s.deft, s.rules.set k q⟩
def Sp.upC (s : Sp) (k : Nat) (c : Cd) : Sp := ⟨s.conds.set k c, s.deft, s.rules⟩
theorem okSp.upR {s : Sp} (h : okSp s) {k : Nat} {q : Ru} (hq : okRu q) : okSp (s.upR k q) := ⟨h.nc, by simpa [Sp.upR] using h.nr, h.nm, fun r hr => by
  rcases List.mem_or_eq_of_mem_set hr with hr | rfl
  · exact h.ru r hr
  · exact hq⟩
theorem okSp.upC {s : Sp} (h : okSp s) {k : Nat} {c : Cd} (hc : c.name.length < 9223372036854775808) : okSp (s.upC k c) := ⟨by simpa [Sp.upC] using h.nc, h.nr, fun d hd => by
  rcases List.mem_or_eq_of_mem_set hd with hd | rfl
  · exact h.nm d hd
  · exact hc, h.ru⟩
end Go.Hk
namespace Go.Hk
theorem optMap_set {g : AVal → Option AVal} : ∀ (cs ds : List AVal) (i : Nat) (v u : AVal), optMap g cs = some ds → g v = some u → optMap g (cs.set i v) = some (ds.set i u)
  | [], ds, i, v, u, h, hu => by simp only [optMap, Option.some.injEq] at h; subst h; rfl
  | c :: cs, ds, i, v, u, h, hu => by
    simp only [optMap] at h
    split at h
    · rename_i x y hx hy
      simp only [Option.some.injEq] at h
      subst h
      cases i with
      | zero => simp [optMap, hu, hy]
      | succ i => simp [optMap, hx, optMap_set cs y i v u hy hu]
    · cases h
theorem stripL_no : ∀ (cs : List AVal) (i : Nat) (v : AVal), i < cs.length → strip v = none → stripL (cs.set i v) = none
  | c :: cs, 0, v, h, hv => by simp [stripL, hv]
  | c :: cs, i + 1, v, h, hv => by
    have := stripL_no cs i v (by simpa using h) hv
    simp only [List.set_cons_succ, stripL, this]
    cases strip c <;> rfl
/-- What a list is that holds a list which may be written too. -/
theorem view_in {m : AMem} {b e n l i : Nat} {cs ds xs ys : List AVal} {b' e' n' l' k : Nat} (hb : m.H[b]? = some (.cells e (cs.set i (.msl b' e' 0 n' l')))) (hl : l = cs.length) (hi : i < cs.length) (hs : stripL cs = some ds)
    (hb' : m.H[b']? = some (.cells e' xs)) (hl' : l' = xs.length) (hs' : stripL xs = some ys) : viewN (k + 1) m (.msl b e 0 n l) n (stripL (cs.set i (.msl b' e' 0 n' l'))) = some (.sl .no n (ds.set i (.sl .no n' ys))) := by
  subst hl hl'
  rw [stripL_no cs i _ hi rfl]
  show view (k + 1 + 1) m (.msl b e 0 n cs.length) = _
  have h1 : view (k + 1) m (.msl b' e' 0 n' xs.length) = some (.sl .no n' ys) := by
    simp only [view, strip, hb', Nat.zero_add, Nat.le_refl, and_self, if_true, List.drop_zero, List.take_length, view_strips hs']
  have h2 := optMap_set (g := view (k + 1) m) cs ds i _ _ (view_strips hs) h1
  rw [view]
  simp only [strip, hb, List.length_set, Nat.zero_add, Nat.le_refl, and_self, if_true, List.drop_zero]
  rw [List.take_of_length_le (by simp), h2]
end Go.Hk
