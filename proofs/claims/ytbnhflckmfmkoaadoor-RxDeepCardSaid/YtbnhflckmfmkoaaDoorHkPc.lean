import Derived.Test.YtbnhflckmfmkoaaDoorHkPb
import Derived.Laws.Externs
import Derived.Lib.MakeNoZero
/- Calls: what a callee is handed, and what it hands back. -/
namespace Go.Hk
open Go.RowKit

mutual
/-- A value without rights and without memory that may be written: the same for whoever holds it. -/
def strip : AVal → Option AVal
  | .sl _ n cs => (match stripL cs with | some ds => some (.sl .no n ds) | none => none)
  | .agg cs => (match stripL cs with | some ds => some (.agg ds) | none => none)
  | .ipt cs o => (match stripL cs with | some ds => some (.ipt ds o) | none => none)
  | .fn f a b => (match stripL a, stripL b with | some x, some y => some (.fn f x y) | _, _ => none)
  | .ifc t v => (match strip v with | some u => some (.ifc t u) | none => none)
  | .tup a vs => (match strip a, stripL vs with | some x, some y => some (.tup x y) | _, _ => none)
  | .ptr _ _ _ => none
  | .msl _ _ _ _ _ => none
  | .map _ => none
  | .dead => some .dead
  | .undef => some .undef
  | .bool b => some (.bool b)
  | .int k n => some (.int k n)
  | .str s => some (.str s)
  | .nilp => some .nilp
  | .nilm => some .nilm
  | .nilf => some .nilf
  | .nili => some .nili
  | .dpt _ _ => none
  | .tpt _ _ _ => none
def stripL : List AVal → Option (List AVal)
  | [] => some []
  | v :: vs => (match strip v, stripL vs with | some x, some y => some (x :: y) | _, _ => none)
end

theorem stripL_spec : ∀ (cs ds : List AVal), stripL cs = some ds → ds.length = cs.length ∧ ∀ (j : Nat) (h : j < cs.length) (h' : j < ds.length), strip cs[j] = some ds[j]
  | [], ds, h => by
    simp only [stripL, Option.some.injEq] at h; subst h
    exact ⟨rfl, fun j h => absurd h (Nat.not_lt_zero j)⟩
  | c :: cs, ds, h => by
    simp only [stripL] at h
    split at h
    · rename_i x y hx hy
      simp only [Option.some.injEq] at h; subst h
      obtain ⟨h1, h2⟩ := stripL_spec cs y hy
      refine ⟨by simp [h1], fun j hj hj' => ?_⟩
      cases j with
      | zero => exact hx
      | succ j => exact h2 j (Nat.lt_of_succ_lt_succ hj) (Nat.lt_of_succ_lt_succ hj')
    · cases h

theorem strip_sound {κ κ' : Cx} (hk : ∀ g o v, κ.cell g o v → κ'.cell g o v) {a : AVal} {v : Value} (h : VR κ a v) : ∀ a', strip a = some a' → VR κ' a' v := by
  have lst : ∀ {cs ds : List AVal} {f : Nat → Value}, stripL cs = some ds → (∀ (j : Nat) (h : j < cs.length), ∀ a', strip cs[j] = some a' → VR κ' a' (f j)) → ds.length = cs.length ∧ ∀ (j : Nat) (h : j < ds.length), VR κ' ds[j] (f j) := by
    intro cs ds f hs ih
    obtain ⟨h1, h2⟩ := stripL_spec cs ds hs
    exact ⟨h1, fun j hj => ih j (by omega) _ (h2 j (by omega) hj)⟩
  induction h with
  | dead v => intro a' h; simp only [strip, Option.some.injEq] at h; subst h; exact .dead v
  | undef => intro a' h; simp only [strip, Option.some.injEq] at h; subst h; exact .undef
  | bool b => intro a' h; simp only [strip, Option.some.injEq] at h; subst h; exact .bool b
  | int k n => intro a' h; simp only [strip, Option.some.injEq] at h; subst h; exact .int k n
  | str s => intro a' h; simp only [strip, Option.some.injEq] at h; subst h; exact .str s
  | nilp => intro a' h; simp only [strip, Option.some.injEq] at h; subst h; exact .nilp
  | nilm => intro a' h; simp only [strip, Option.some.injEq] at h; subst h; exact .nilm
  | nilf => intro a' h; simp only [strip, Option.some.injEq] at h; subst h; exact .nilf
  | nili => intro a' h; simp only [strip, Option.some.injEq] at h; subst h; exact .nili
  | ptr b e o g c hb => intro a' h; simp [strip] at h
  | dpz t p => intro a' h; simp [strip] at h
  | tpt t b n g c hb ho => intro a' h; simp [strip] at h
  | dpt t cs g f hc hv ho ih => intro a' h; simp [strip] at h
  | msl b e o n k g c cap hb hn ho => intro a' h; simp [strip] at h
  | map b g c hb => intro a' h; simp [strip] at h
  | ipt cs o g k f hc hv ih =>
    intro a' h
    simp only [strip] at h
    split at h
    · rename_i ds hds
      simp only [Option.some.injEq] at h; subst h
      obtain ⟨h1, h2⟩ := lst hds ih
      exact .ipt ds o g k f (fun j hj => hk _ _ _ (hc j (by omega))) h2
    · cases h
  | slnil r hr =>
    intro a' h
    simp only [strip, stripL, Option.some.injEq] at h; subst h
    exact .slnil .no trivial
  | slz a cap =>
    intro a' h
    simp only [strip, stripL, Option.some.injEq] at h; subst h
    exact .slz a cap
  | sl r n cs g k cap f hn hc hv hr ih =>
    intro a' h
    simp only [strip] at h
    split at h
    · rename_i ds hds
      simp only [Option.some.injEq] at h; subst h
      obtain ⟨h1, h2⟩ := lst hds ih
      exact .sl .no n ds g k cap f hn (fun j hj => hk _ _ _ (hc j (by omega))) h2 trivial
    · cases h
  | fn f x y xs ys h1 h2 hx hy ihx ihy =>
    intro a' h
    simp only [strip] at h
    split at h
    · rename_i u w hu hw
      simp only [Option.some.injEq] at h; subst h
      obtain ⟨a1, a2⟩ := lst hu ihx
      obtain ⟨b1, b2⟩ := lst hw ihy
      exact .fn f u w xs ys (by omega) (by omega) a2 b2
    · cases h
  | ifc t a v _ ih =>
    intro a' h
    simp only [strip] at h
    split at h
    · rename_i u hu
      simp only [Option.some.injEq] at h; subst h
      exact .ifc t u v (ih _ hu)
    · cases h
  | agg cs vs hs hv ho ih =>
    intro a' h
    simp only [strip] at h
    split at h
    · rename_i ds hds
      simp only [Option.some.injEq] at h; subst h
      obtain ⟨h1, h2⟩ := lst hds ih
      exact .agg ds vs (by omega) h2 (fun j hj => ho j (by omega))
    · cases h
  | tup a cs vs hs hv ih =>
    intro a' h
    simp only [strip] at h
    split at h
    · rename_i x y hx hy
      simp only [Option.some.injEq] at h; subst h
      have hxy : stripL (a :: cs) = some (x :: y) := by simp only [stripL, hx, hy]
      obtain ⟨h1, h2⟩ := lst hxy ih
      exact .tup x y vs (by omega) h2
    · cases h

def optMap (f : AVal → Option AVal) : List AVal → Option (List AVal)
  | [] => some []
  | v :: vs => (match f v, optMap f vs with | some x, some y => some (x :: y) | _, _ => none)

/-- A value as it reads now. -/
def view : Nat → AMem → AVal → Option AVal
  | 0, _, v => strip v
  | n + 1, m, v =>
    match strip v with
    | some u => some u
    | none =>
      match v with
      | .ptr b e o => (match m.H[b]? with
        | some (.cells e' cs) => if e = e' then (match optMap (view n m) cs with | some ds => some (.ipt ds o) | none => none) else none
        | _ => none)
      | .msl b e o k l => (match m.H[b]? with
        | some (.cells e' cs) => if e = e' ∧ o + l ≤ cs.length then (match optMap (view n m) ((cs.drop o).take l) with | some ds => some (.sl .no k ds) | none => none) else none
        | _ => none)
      | .sl _ k cs => (match optMap (view n m) cs with | some ds => some (.sl .no k ds) | none => none)
      | .agg cs => (match optMap (view n m) cs with | some ds => some (.agg ds) | none => none)
      | .tup a vs => (match view n m a, optMap (view n m) vs with | some x, some y => some (.tup x y) | _, _ => none)
      | .fn f a b => (match optMap (view n m) a, optMap (view n m) b with | some x, some y => some (.fn f x y) | _, _ => none)
      | _ => none

theorem optMap_spec {f : AVal → Option AVal} : ∀ (cs ds : List AVal), optMap f cs = some ds → ds.length = cs.length ∧ ∀ (j : Nat) (h : j < cs.length) (h' : j < ds.length), f cs[j] = some ds[j]
  | [], ds, h => by
    simp only [optMap, Option.some.injEq] at h; subst h
    exact ⟨rfl, fun j h => absurd h (Nat.not_lt_zero j)⟩
  | c :: cs, ds, h => by
    simp only [optMap] at h
    split at h
    · rename_i x y hx hy
      simp only [Option.some.injEq] at h; subst h
      obtain ⟨h1, h2⟩ := optMap_spec cs y hy
      refine ⟨by simp [h1], fun j hj hj' => ?_⟩
      cases j with
      | zero => exact hx
      | succ j => exact h2 j (Nat.lt_of_succ_lt_succ hj) (Nat.lt_of_succ_lt_succ hj')
    · cases h

/-- All that was owned is let go: nobody will write it any more. -/
def Ghost.drop (γ : Ghost) : Ghost := { γ with S := ⟨[], []⟩ }

theorem drop_noblk {γ : Ghost} {b g : Nat} : ¬ γ.drop.blkOwns b g := fun h => absurd h.1 (Nat.not_lt_zero b)
theorem drop_notok {γ : Ghost} {t g : Nat} : ¬ γ.drop.tokOwns t g := fun ⟨_, _, h, _⟩ => by simp [Ghost.drop] at h

theorem drop_cell {γ : Ghost} {g o : Nat} {v : Value} (h : γ.cell g o v) : γ.drop.cell g o v := ⟨h.1, h.2.1, h.2.2.1, fun _ h => drop_noblk h, fun _ h => absurd h drop_notok⟩

theorem rl_drop {γ : Ghost} (hr : Rl γ) : Rl γ.drop where
  lo := hr.lo
  bad := hr.bad
  cells := fun b e cs h => by simp [Ghost.drop] at h
  maps := fun b es h => by simp [Ghost.drop] at h
  toks := fun t g h => absurd h drop_notok
  own := fun g h => by
    rcases h with ⟨b, h⟩ | ⟨t, h⟩
    · exact absurd h drop_noblk
    · exact absurd h drop_notok
  hh := fun b b' g h => absurd h drop_noblk
  ht := fun b t g h => absurd h drop_noblk
  tt := fun t t' g h => absurd h drop_notok
  zs := fun b e cs h => by simp [Ghost.drop] at h

theorem view_sound {γ : Ghost} (hr : Rl γ) : ∀ (n : Nat) (a a' : AVal) (v : Value), view n γ.S a = some a' → VR γ.cx a v → VR γ.drop.cx a' v := by
  intro n
  induction n with
  | zero => intro a a' v h hv; exact strip_sound (fun _ _ _ h => drop_cell h) hv a' h
  | succ n ih =>
    intro a a' v h hv
    have lst : ∀ {cs ds : List AVal} {f : Nat → Value}, optMap (view n γ.S) cs = some ds → (∀ (j : Nat) (h : j < cs.length), VR γ.cx cs[j] (f j)) → ds.length = cs.length ∧ ∀ (j : Nat) (h : j < ds.length), VR γ.drop.cx ds[j] (f j) := by
      intro cs ds f hs hvv
      obtain ⟨h1, h2⟩ := optMap_spec cs ds hs
      exact ⟨h1, fun j hj => ih _ _ _ (h2 j (by omega) hj) (hvv j (by omega))⟩
    unfold view at h
    cases hs : strip a with
    | some u =>
      simp only [hs, Option.some.injEq] at h; subst h
      exact strip_sound (fun _ _ _ h => drop_cell h) hv _ hs
    | none =>
      simp only [hs] at h
      cases a <;> simp only [reduceCtorEq] at h
      case ptr b e o =>
        split at h
        case h_2 => cases h
        rename_i e' cs hb
        split at h
        case isFalse => cases h
        rename_i he; subst he
        split at h
        case h_2 => cases h
        rename_i ds hds
        simp only [Option.some.injEq] at h; subst h
        obtain ⟨arr, ty, k1, k2, _, k4, k5⟩ := hr.cells b e cs hb
        obtain ⟨h1, h2⟩ := lst hds k4
        cases hv with
        | ptr _ _ _ g c hblk =>
          obtain ⟨y, hy, _, hy2⟩ := hblk
          rw [hb] at hy
          cases hy
          obtain ⟨rfl, _⟩ := hy2 rfl
          have hlt : b < γ.S.H.length := (List.getElem?_eq_some_iff.1 hb).1
          have hlo := (hr.own _ (.inl ⟨b, hlt, rfl⟩)).1
          have := VR.ipt (κ := γ.drop.cx) ds o (γ.ι.h b) 0 (fun j => arr.getD j undef) (fun j hj => by
            rw [Nat.zero_add]
            have hj' : j < arr.size := by omega
            refine ⟨?_, k5 j (by omega), fun hbad => ?_, fun _ h => drop_noblk h, fun _ h => absurd h drop_notok⟩
            · show γ.w.cell? _ = _
              rw [cell_of_row _ _ _ _ _ _ k1]; simp [Array.getD, hj']
            · have := hr.bad _ _ hbad; omega) h2
          simpa using this
      case msl b e o k l =>
        split at h
        case h_2 => cases h
        rename_i e' cs hb
        split at h
        case isFalse => cases h
        rename_i he
        obtain ⟨rfl, hol⟩ := he
        split at h
        case h_2 => cases h
        rename_i ds hds
        simp only [Option.some.injEq] at h; subst h
        obtain ⟨arr, ty, k1, k2, _, k4, k5⟩ := hr.cells b e cs hb
        obtain ⟨h1, h2⟩ := lst (f := fun j => arr.getD (o + j) undef) hds (fun j hj => by
          simp only [List.length_take, List.length_drop] at hj
          simp only [List.getElem_take, List.getElem_drop]
          exact k4 _ (by omega))
        simp only [List.length_take, List.length_drop] at h1
        cases hv with
        | msl _ _ _ _ _ g c cap hblk hn ho =>
          obtain ⟨y, hy, _, hy2⟩ := hblk
          rw [hb] at hy
          cases hy
          obtain ⟨rfl, _⟩ := hy2 rfl
          have hlt : b < γ.S.H.length := (List.getElem?_eq_some_iff.1 hb).1
          have hlo := (hr.own _ (.inl ⟨b, hlt, rfl⟩)).1
          refine .sl .no k ds (γ.ι.h b) o cap (fun j => arr.getD (o + j) undef) hn (fun j hj => ?_) h2 trivial
          have hj' : o + j < arr.size := by omega
          refine ⟨?_, k5 _ (by omega), fun hbad => ?_, fun _ h => drop_noblk h, fun _ h => absurd h drop_notok⟩
          · show γ.w.cell? _ = _
            rw [cell_of_row _ _ _ _ _ _ k1]; simp [Array.getD, hj']
          · have := hr.bad _ _ hbad; omega
      case sl r k cs =>
        split at h
        case h_2 => cases h
        rename_i ds hds
        simp only [Option.some.injEq] at h; subst h
        cases hv with
        | slnil _ _ => simp only [optMap, Option.some.injEq] at hds; subst hds; exact .slnil .no trivial
        | slz a cap => simp only [optMap, Option.some.injEq] at hds; subst hds; exact .slz a cap
        | sl _ _ _ g o cap f hn hc hvv _ =>
          obtain ⟨h1, h2⟩ := lst hds hvv
          exact .sl .no k ds g o cap f hn (fun j hj => drop_cell (hc j (by omega))) h2 trivial
      case agg cs =>
        split at h
        case h_2 => cases h
        rename_i ds hds
        simp only [Option.some.injEq] at h; subst h
        cases hv with
        | agg _ vs hsz hvv ho =>
          obtain ⟨h1, h2⟩ := lst hds hvv
          exact .agg ds vs (by omega) h2 (fun j hj => ho j (by omega))
      case tup a cs =>
        split at h
        case h_2 => cases h
        rename_i x y hx hy
        simp only [Option.some.injEq] at h; subst h
        cases hv with
        | tup _ _ vs hsz hvv =>
          have hxy : optMap (view n γ.S) (a :: cs) = some (x :: y) := by simp only [optMap, hx, hy]
          obtain ⟨h1, h2⟩ := lst hxy hvv
          exact .tup x y vs (by omega) h2
      case fn f x y =>
        split at h
        case h_2 => cases h
        rename_i u w hu hw
        simp only [Option.some.injEq] at h; subst h
        cases hv with
        | fn _ _ _ xs ys h1 h2 hx hy =>
          obtain ⟨a1, a2⟩ := lst hu hx
          obtain ⟨b1, b2⟩ := lst hw hy
          exact .fn f u w xs ys (by omega) (by omega) a2 b2

/-- What a caller owns counts, for whom it calls, as what must not be leant on. -/
def Ghost.stab (γ : Ghost) : Ghost :=
  { bad := fun g o => γ.bad g o ∨ (g < γ.w.heap.size ∧ ((∃ b, γ.blkOwns b g) ∨ ∃ t tp sz, γ.tokOwns t g ∧ γ.S.T[t]? = some (tp, sz) ∧ tp ≤ o)), lo := γ.w.heap.size, S := ⟨[], []⟩, ι := γ.ι, w := γ.w }

theorem empty_noblk {γ : Ghost} (h : γ.S = ⟨[], []⟩) {b g : Nat} : ¬ γ.blkOwns b g := fun hb => by have := hb.1; rw [h] at this; exact absurd this (Nat.not_lt_zero b)
theorem empty_notok {γ : Ghost} (h : γ.S = ⟨[], []⟩) {t g : Nat} : ¬ γ.tokOwns t g := fun ⟨_, _, h1, _⟩ => by rw [h] at h1; simp at h1
theorem empty_noown {γ : Ghost} (h : γ.S = ⟨[], []⟩) {g : Nat} : ¬ γ.owns g := fun ho => by
  rcases ho with ⟨b, hb⟩ | ⟨t, ht⟩
  · exact empty_noblk h hb
  · exact empty_notok h ht

theorem stab_cell {γ : Ghost} {g o : Nat} {v : Value} (h : γ.cell g o v) : γ.stab.cell g o v := by
  refine ⟨h.1, h.2.1, fun hb => ?_, fun b hb => empty_noblk rfl hb, fun t ht => absurd ht (empty_notok rfl)⟩
  rcases hb with hb | ⟨_, ⟨b, hb⟩ | ⟨t, tp, sz, ht, h1, h2⟩⟩
  · exact h.2.2.1 hb
  · exact h.2.2.2.1 b hb
  · obtain ⟨tp', sz', h3, h4⟩ := h.2.2.2.2 t ht
    rw [h1] at h3
    cases h3
    omega

theorem rl_stab {γ : Ghost} (hr : Rl γ) : Rl γ.stab where
  lo := Nat.le_refl _
  bad := fun g o h => by
    rcases h with h | h
    · have h1 := hr.bad g o h; have h2 := hr.lo; show g < γ.w.heap.size; omega
    · exact h.1
  cells := fun b e cs h => by simp [Ghost.stab] at h
  maps := fun b es h => by simp [Ghost.stab] at h
  toks := fun t g h => absurd h (empty_notok rfl)
  own := fun g h => absurd h (empty_noown rfl)
  hh := fun b b' g h => absurd h (empty_noblk rfl)
  ht := fun b t g h => absurd h (empty_noblk rfl)
  tt := fun t t' g h => absurd h (empty_notok rfl)
  zs := fun b e cs h => by simp [Ghost.stab] at h

theorem ext_empty_grow {γ γ' : Ghost} (h : γ.S = ⟨[], []⟩) (hl : γ.w.heap.size ≤ γ.lo) (he : Ext γ γ') : Grow γ.w γ'.w :=
  ⟨he.os, he.tape, he.output, he.size, fun k hk => by
    rcases he.frame k hk (empty_noown h) with h1 | ⟨h1, _⟩
    · exact h1
    · omega⟩

mutual
theorem strip_idem : ∀ (v u : AVal), strip v = some u → strip u = some u
  | .sl r n cs, u, hu => by
    simp only [strip] at hu
    split at hu
    · rename_i ds hds; cases hu; simp only [strip, stripL_idem cs ds hds]
    · cases hu
  | .agg cs, u, hu => by
    simp only [strip] at hu
    split at hu
    · rename_i ds hds; cases hu; simp only [strip, stripL_idem cs ds hds]
    · cases hu
  | .ipt cs o, u, hu => by
    simp only [strip] at hu
    split at hu
    · rename_i ds hds; cases hu; simp only [strip, stripL_idem cs ds hds]
    · cases hu
  | .fn f a b, u, hu => by
    simp only [strip] at hu
    split at hu
    · rename_i x y hx hy; cases hu; simp only [strip, stripL_idem a x hx, stripL_idem b y hy]
    · cases hu
  | .ifc _ v, u, hu => by
    simp only [strip] at hu
    split at hu
    · rename_i x hx; cases hu; simp only [strip, strip_idem v x hx]
    · cases hu
  | .tup a cs, u, hu => by
    simp only [strip] at hu
    split at hu
    · rename_i x y hx hy; cases hu; simp only [strip, strip_idem a x hx, stripL_idem cs y hy]
    · cases hu
  | .ptr _ _ _, u, hu => by simp [strip] at hu
  | .msl _ _ _ _ _, u, hu => by simp [strip] at hu
  | .map _, u, hu => by simp [strip] at hu
  | .dpt _ _, u, hu => by simp [strip] at hu
  | .tpt _ _ _, u, hu => by simp [strip] at hu
  | .dead, u, hu => by simp only [strip] at hu; cases hu; rfl
  | .undef, u, hu => by simp only [strip] at hu; cases hu; rfl
  | .bool _, u, hu => by simp only [strip] at hu; cases hu; rfl
  | .int _ _, u, hu => by simp only [strip] at hu; cases hu; rfl
  | .str _, u, hu => by simp only [strip] at hu; cases hu; rfl
  | .nilp, u, hu => by simp only [strip] at hu; cases hu; rfl
  | .nilm, u, hu => by simp only [strip] at hu; cases hu; rfl
  | .nilf, u, hu => by simp only [strip] at hu; cases hu; rfl
  | .nili, u, hu => by simp only [strip] at hu; cases hu; rfl
theorem stripL_idem : ∀ (vs us : List AVal), stripL vs = some us → stripL us = some us
  | [], us, hu => by simp only [stripL] at hu; cases hu; rfl
  | v :: vs, us, hu => by
    simp only [stripL] at hu
    split at hu
    · rename_i x y hx hy; cases hu; simp only [stripL, strip_idem v x hx, stripL_idem vs y hy]
    · cases hu
end
theorem stripL_all : ∀ {l : List AVal}, (∀ u ∈ l, strip u = some u) → stripL l = some l
  | [], _ => rfl
  | v :: l, h => by
    have h1 := h v List.mem_cons_self
    have h2 := stripL_all (l := l) fun u hu => h u (List.mem_cons_of_mem v hu)
    simp only [stripL, h1, h2]
theorem optMap_mem {f : AVal → Option AVal} : ∀ {l r : List AVal}, optMap f l = some r → ∀ u ∈ r, ∃ v ∈ l, f v = some u
  | [], r, h, u, hu => by simp only [optMap, Option.some.injEq] at h; subst h; cases hu
  | v :: l, r, h, u, hu => by
    simp only [optMap] at h
    split at h
    · rename_i x y hx hy
      cases h
      rcases List.mem_cons.1 hu with rfl | hu
      · exact ⟨v, by simp, hx⟩
      · obtain ⟨w, h1, h2⟩ := optMap_mem hy u hu
        exact ⟨w, by simp [h1], h2⟩
    · cases h
theorem view_idem {m : AMem} : ∀ (n : Nat) (v u : AVal), view n m v = some u → strip u = some u
  | 0, v, u, h => strip_idem v u h
  | n + 1, v, u, h => by
    have key : ∀ {l r : List AVal}, optMap (view n m) l = some r → stripL r = some r := fun h => stripL_all fun u hu => by
      obtain ⟨v, _, h2⟩ := optMap_mem h u hu
      exact view_idem n v u h2
    unfold view at h
    cases hs : strip v with
    | some w => simp only [hs, Option.some.injEq] at h; subst h; exact strip_idem v _ hs
    | none =>
      simp only [hs] at h
      cases v <;> simp only [reduceCtorEq] at h
      case ptr b e o =>
        split at h
        case h_2 => cases h
        split at h
        case isFalse => cases h
        split at h
        case h_2 => cases h
        rename_i ds hds
        cases h
        simp only [strip, key hds]
      case msl b e o k l =>
        split at h
        case h_2 => cases h
        split at h
        case isFalse => cases h
        split at h
        case h_2 => cases h
        rename_i ds hds
        cases h
        simp only [strip, key hds]
      case sl r k cs =>
        split at h
        case h_2 => cases h
        rename_i ds hds
        cases h
        simp only [strip, key hds]
      case agg cs =>
        split at h
        case h_2 => cases h
        rename_i ds hds
        cases h
        simp only [strip, key hds]
      case tup a vs =>
        split at h
        case h_2 => cases h
        rename_i x y hx hy
        cases h
        simp only [strip, view_idem n a x hx, key hy]
      case fn f a b =>
        split at h
        case h_2 => cases h
        rename_i x y hx hy
        cases h
        simp only [strip, key hx, key hy]
/-- All is let go, and nothing of today will be frozen. -/
def Ghost.drops (γ : Ghost) : Ghost := { γ.drop with lo := γ.w.heap.size }
theorem rl_drops {γ : Ghost} (hr : Rl γ) : Rl γ.drops where
  lo := Nat.le_refl _
  bad := fun g o h => Nat.lt_of_lt_of_le (hr.bad g o h) hr.lo
  cells := fun b e cs h => by simp [Ghost.drops, Ghost.drop] at h
  maps := fun b es h => by simp [Ghost.drops, Ghost.drop] at h
  toks := fun t g h => absurd h (empty_notok rfl)
  own := fun g h => absurd h (empty_noown rfl)
  hh := fun b b' g h => absurd h (empty_noblk rfl)
  ht := fun b t g h => absurd h (empty_noblk rfl)
  tt := fun t t' g h => absurd h (empty_notok rfl)
  zs := fun b e cs h => by simp [Ghost.drops, Ghost.drop] at h

def VRs (κ : Cx) (args : List AVal) (vals : Array Value) : Prop := vals.size = args.length ∧ ∀ (j : Nat) (h : j < args.length), VR κ args[j] (vals.getD j undef)

def enterable (P : Program) (f : FuncId) : Bool :=
  match P.funcs[f]? with
  | some fn => fn.name != "runtime.NumGoroutine" && fn.body.isSome
  | none => false

/-- A call does what is said: with this memory it hands back r, and leaves that memory. -/
def RCall (P : Program) (f : FuncId) (args : List AVal) (m : AMem) (r : AVal) (m' : AMem) : Prop :=
  enterable P f = true ∧ ∀ γ vals, Rl γ → γ.S = m → VRs γ.cx args vals →
    Calls P f vals γ.w fun e w' => ∃ v γ', e = .returned v ∧ γ'.w = w' ∧ γ'.S = m' ∧ Ext γ γ' ∧ Rl γ' ∧ VR γ'.cx r v

/-- A call that looks at nothing but its arguments. -/
def PCall (P : Program) (f : FuncId) (args : List AVal) (r : AVal) : Prop := RCall P f args ⟨[], []⟩ r ⟨[], []⟩

mutual
def flat : AVal → Bool
  | .agg cs => flatL cs
  | .tup a vs => flat a && flatL vs
  | .undef | .bool _ | .int _ _ | .str _ | .nilp | .nilm | .nilf | .nili => true
  | _ => false
def flatL : List AVal → Bool
  | [] => true
  | v :: vs => flat v && flatL vs
end

theorem flatL_spec : ∀ (cs : List AVal), flatL cs = true → ∀ (j : Nat) (h : j < cs.length), flat cs[j] = true
  | [], _, j, h => absurd h (Nat.not_lt_zero j)
  | c :: cs, hf, j, h => by
    simp only [flatL, Bool.and_eq_true] at hf
    cases j with
    | zero => exact hf.1
    | succ j => exact flatL_spec cs hf.2 j (Nat.lt_of_succ_lt_succ h)

theorem flat_sound {κ κ' : Cx} {a : AVal} {v : Value} (h : VR κ a v) : flat a = true → VR κ' a v := by
  induction h with
  | undef => exact fun _ => .undef
  | bool b => exact fun _ => .bool b
  | int k n => exact fun _ => .int k n
  | str s => exact fun _ => .str s
  | nilp => exact fun _ => .nilp
  | nilm => exact fun _ => .nilm
  | nilf => exact fun _ => .nilf
  | nili => exact fun _ => .nili
  | agg cs vs hs hv ho ih =>
    intro hf
    simp only [flat] at hf
    exact .agg cs vs hs (fun j hj => ih j hj (flatL_spec cs hf j hj)) ho
  | tup a cs vs hs hv ih =>
    intro hf
    have hf' : flatL (a :: cs) = true := by simpa [flat, flatL] using hf
    exact .tup a cs vs hs (fun j hj => ih j hj (flatL_spec _ hf' j hj))
  | _ => intro hf; simp [flat] at hf

/-- A call that looks at nothing but its arguments, in a caller's memory. -/
theorem PCall.stable {P : Program} {f : FuncId} {args as : List AVal} {r : AVal} {m : AMem} (h : PCall P f as r) (hs : stripL args = some as) : RCall P f args m r m := by
  refine ⟨h.1, fun γ vals hr hm hv => ?_⟩
  obtain ⟨h1, h2⟩ := stripL_spec _ _ hs
  refine (h.2 γ.stab vals (rl_stab hr) rfl ⟨by rw [h1]; exact hv.1, fun j hj => strip_sound (fun _ _ _ h => stab_cell h) (hv.2 j (by omega)) _ (h2 j (by omega) hj)⟩).mono ?_
  rintro e w' ⟨v, γ', rfl, rfl, hS, hext, hrl, hvr⟩
  have hg : Grow γ.w γ'.w := ext_empty_grow (γ := γ.stab) rfl (Nat.le_refl _) hext
  refine ⟨v, { γ with w := γ'.w }, rfl, rfl, hm, ext_grow hg, rl_grow hr hg, hvr.mono ⟨fun g o u hc => ?_, fun b e g c hb => ?_, fun t len b c ht => ?_, fun g t n ho => ?_⟩⟩
  · have hb : γ'.bad = γ.stab.bad := hext.bad
    have hnb : ¬ γ.stab.bad g o := by rw [← hb]; exact hc.2.2.1
    refine ⟨hc.1, hc.2.1, fun h => hnb (.inl h), fun b hbo => ?_, fun t ht => ?_⟩
    · exact hnb (.inr ⟨(hr.own g (.inl ⟨b, hbo⟩)).2, .inl ⟨b, hbo⟩⟩)
    · have ht' : γ.tokOwns t g := ht
      obtain ⟨tp, sz, a1, a2, a3⟩ := ht'
      refine ⟨tp, sz, a1, ?_⟩
      rcases Nat.lt_or_ge o tp with h | h
      · exact h
      · exact absurd (.inr ⟨(hr.own g (.inr ⟨t, ht⟩)).2, .inr ⟨t, tp, sz, ht, a1, h⟩⟩) hnb
  · obtain ⟨y, hy, _⟩ := hb
    rw [hS] at hy
    simp at hy
  · obtain ⟨y, z, hy, _⟩ := ht
    rw [hS] at hy
    simp at hy
  · obtain ⟨h1, h2⟩ := ho
    rw [hext.lo] at h1
    exact ⟨Nat.le_trans hr.lo h1, h2⟩

/-- The same, where it looks at what the caller may write, and hands back numbers and the like alone. -/
theorem PCall.viewed {P : Program} {f : FuncId} {args as : List AVal} {r : AVal} {m : AMem} {n : Nat} (h : PCall P f as r) (hs : optMap (view n m) args = some as) (hf : flat r = true) : RCall P f args m r m := by
  refine ⟨h.1, fun γ vals hr hm hv => ?_⟩
  subst hm
  obtain ⟨h1, h2⟩ := optMap_spec _ _ hs
  refine (h.2 γ.drops vals (rl_drops hr) rfl ⟨by rw [h1]; exact hv.1, fun j hj => by
    have hj' : j < args.length := by omega
    have hvw := h2 j hj' hj
    exact strip_sound (κ := γ.drop.cx) (κ' := γ.drops.cx) (fun g o v hc => hc) (view_sound hr _ _ _ _ hvw (hv.2 j hj')) _ (view_idem _ _ _ hvw)⟩).mono ?_
  rintro e w' ⟨v, γ', rfl, rfl, hS, hext, hrl, hvr⟩
  have hg : Grow γ.w γ'.w := ext_empty_grow (γ := γ.drops) rfl (Nat.le_refl _) hext
  exact ⟨v, { γ with w := γ'.w }, rfl, rfl, rfl, ext_grow hg, rl_grow hr hg, flat_sound hvr hf⟩

/-- A function of the library's own, that the model runs in one step: what it gives, and what it takes for itself. -/
def ECall (P : Program) (f : FuncId) (args : List AVal) (T : List (Nat × (Nat × Nat))) (r : AVal) (T' : List (Nat × (Nat × Nat))) : Prop :=
  ∀ (γ : Ghost) vals, Rl γ → γ.S.T = T → VRs γ.cx args vals → ∃ v γ', (callFunc f vals).run P γ.w = .ok (.value v) γ'.w ∧ Ext γ γ' ∧ Rl γ' ∧ γ'.S = ⟨γ.S.H, T'⟩ ∧ VR γ'.cx r v

end Go.Hk
/- Regions: their operations one behind the other, and in whatever order. -/
namespace Go.Hk

/-- What is known of a function. -/
inductive Con where
  | pure (imp : List AVal → Option AVal)
  | raw (imp : List AVal → AMem → Option (AVal × AMem))
  | ext (imp : List AVal → List (Nat × (Nat × Nat)) → Option (AVal × List (Nat × (Nat × Nat))))
  | non

/-- Orders in which a region is to be walked: one step; or two, each of both first. -/
inductive OT where
  | done
  | step (i : Nat) (t : OT)
  | fork (i j : Nat) (a b : OT)
  deriving DecidableEq
/-- What is known of functions; and the regions that are walked in more than one order. -/
structure Gam where
  con : FuncId → Con
  ex : Nat → Option OT
instance : CoeFun Gam (fun _ => FuncId → Con) := ⟨Gam.con⟩

def Sound (P : Program) (Γ : Gam) : Prop := ∀ f,
  match Γ f with
  | .pure imp => ∀ as r, imp as = some r → PCall P f as r
  | .raw imp => ∀ args m r m', imp args m = some (r, m') → RCall P f args m r m'
  | .ext imp => ∀ args T r T', imp args T = some (r, T') → ECall P f args T r T'
  | .non => True

def callPure (imp : List AVal → Option AVal) (m : AMem) (args : List AVal) : Option (AVal × AMem) :=
  match stripL args with
  | some as => (match imp as with | some r => some (r, m) | none => none)
  | none => (match optMap (view 8 m) args with
    | some as => (match imp as with | some r => if flat r = true then some (r, m) else none | none => none)
    | none => none)

def acall (Γ : Gam) (m : AMem) (f : FuncId) (args : List AVal) : Option (AVal × AMem) :=
  match Γ f with
  | .pure imp => callPure imp m args
  | .raw imp => imp args m
  | .ext imp => (match imp args m.T with | some (r, T') => some (r, ⟨m.H, T'⟩) | none => none)
  | .non => none

def acallP (Γ : Gam) (m : AMem) (f : FuncId) (args : List AVal) : Option (AVal × AMem) :=
  match Γ f with
  | .pure imp => callPure imp m args
  | _ => none

/-- One operation, calls too. -/
def aexec (P : Program) (Γ : Gam) (mu : Bool) (m : AMem) (ρ : Operand → AVal) (op : Op) : Option (AVal × AMem) :=
  match op with
  | .call c => (match c.callee with
    | .builtin b => abuiltin P mu m b c.argTypes.toList (c.args.toList.map ρ)
    | .value x => (match x with
      | .func f => acall Γ m f (c.args.toList.map ρ)
      | x => (match ρ x with
        | .fn f first caps => acallP Γ m f (first ++ c.args.toList.map ρ ++ caps)
        | _ => none))
    | .invoke _ _ => none)
  | op => aop P mu m ρ op

def aguard (ops : Array Oper) (env : List (Nat × AVal)) (o : Oper) : Option Bool :=
  match o.guard with
  | none => some true
  | some (j, want) => (match (ops[j]?).bind (·.dst) with
    | some d => (match lk env d with
      | .bool b => some (b == want)
      | .undef => some false
      | _ => none)
    | none => some false)

def put (env : List (Nat × AVal)) (d : Option Nat) (v : AVal) : List (Nat × AVal) :=
  match d with
  | some d => (d, v) :: env
  | none => env

def astep (P : Program) (Γ : Gam) (mu : Bool) (ops : Array Oper) (o : Oper) (s : St) : Option St :=
  match aguard ops s.env o with
  | some g => if g = true then (match aexec P Γ mu s.m (ev s.env) o.op with
      | some (v, m') => some ⟨put s.env o.dst v, m'⟩
      | none => none) else some ⟨put s.env o.dst .undef, s.m⟩
  | none => none

def aops (P : Program) (Γ : Gam) (mu : Bool) (ops : Array Oper) : List Oper → St → Option St
  | [], s => some s
  | o :: r, s => (astep P Γ mu ops o s).bind (aops P Γ mu ops r)

/-! ### Soundness -/

/-- A frame and a world are what an abstract state says. -/
structure Holds (n : Nat) (γ : Ghost) (s : St) (a : Act) : Prop where
  rl : Rl γ
  m : γ.S = s.m
  er : ER γ.cx s.env a.tmps
  size : a.tmps.size = n
  defers : a.defers = []

theorem ER.put' {κ : Cx} {env : List (Nat × AVal)} {a : Act} (he : ER κ env a.tmps) {d : Option Nat} (hd : ∀ x, d = some x → x < a.tmps.size) {v : AVal} {u : Value} (hv : VR κ v u) : ER κ (Hk.put env d v) (a.put d u).tmps := by
  cases d with
  | none => exact he
  | some d => exact he.put (hd d rfl) hv

theorem guard_sound {κ : Cx} {ops : Array Oper} {env : List (Nat × AVal)} {a : Act} {o : Oper} {g : Bool} (he : ER κ env a.tmps) (h : aguard ops env o = some g) : Region.wanted o (yielded ops a.tmps) = g := by
  unfold aguard at h
  unfold Region.wanted
  cases hg : o.guard with
  | none => simp only [hg, Option.some.injEq] at h; subst h; rfl
  | some jw =>
    obtain ⟨j, want⟩ := jw
    simp only [hg] at h
    unfold yielded
    cases hd : (ops[j]?).bind (·.dst) with
    | none => simp only [hd, Option.some.injEq] at h; subst h; simp [hd]
    | some d =>
      simp only [hd] at h
      have hv := he d
      simp only [hd, Option.bind_some]
      split at h
      · rename_i b hb
        simp only [Option.some.injEq] at h; subst h
        rw [hb] at hv
        cases hx : a.tmps[d]? with
        | none =>
          rw [Array.getD_eq_getD_getElem?, hx] at hv
          cases hv
        | some u =>
          rw [Array.getD_eq_getD_getElem?, hx] at hv
          simp only [Option.getD_some] at hv
          cases hv
          simp only
          cases b <;> cases want <;> rfl
      · rename_i hb
        simp only [Option.some.injEq] at h; subst h
        rw [hb] at hv
        cases hx : a.tmps[d]? with
        | none => simp
        | some u =>
          rw [Array.getD_eq_getD_getElem?, hx] at hv
          simp only [Option.getD_some] at hv
          cases hv
          simp
      · cases h

theorem callPure_sound {P : Program} {f : FuncId} {imp : List AVal → Option AVal} (hi : ∀ as r, imp as = some r → PCall P f as r) {m m' : AMem} {args : List AVal} {r : AVal} (h : callPure imp m args = some (r, m')) : RCall P f args m r m' := by
  unfold callPure at h
  split at h
  · rename_i as hs
    split at h
    · rename_i r' hr
      simp only [Option.some.injEq, Prod.mk.injEq] at h
      obtain ⟨rfl, rfl⟩ := h
      exact (hi _ _ hr).stable hs
    · cases h
  · split at h
    · rename_i as hs
      split at h
      · rename_i r' hr
        split at h
        · rename_i hf
          simp only [Option.some.injEq, Prod.mk.injEq] at h
          obtain ⟨rfl, rfl⟩ := h
          exact (hi _ _ hr).viewed hs hf
        · cases h
      · cases h
    · cases h

theorem acall_sound {P : Program} {Γ : Gam} (hΓ : Sound P Γ) {m m' : AMem} {f : FuncId} {args : List AVal} {r : AVal} (h : acall Γ m f args = some (r, m')) : RCall P f args m r m' ∨ ∃ T', m' = ⟨m.H, T'⟩ ∧ ECall P f args m.T r T' := by
  have := hΓ f
  unfold acall at h
  split at h
  · rename_i imp hc; rw [hc] at this; exact .inl (callPure_sound this h)
  · rename_i imp hc; rw [hc] at this; exact .inl (this _ _ _ _ h)
  · rename_i imp hc
    rw [hc] at this
    split at h
    · rename_i r' T' hx
      cases h
      exact .inr ⟨T', rfl, this _ _ _ _ hx⟩
    · cases h
  · cases h

theorem acallP_sound {P : Program} {Γ : Gam} (hΓ : Sound P Γ) {m m' : AMem} {f : FuncId} {args : List AVal} {r : AVal} (h : acallP Γ m f args = some (r, m')) : RCall P f args m r m' := by
  have := hΓ f
  unfold acallP at h
  split at h
  · rename_i imp hc; rw [hc] at this; exact callPure_sound this h
  · cases h

/-- An operation's wp, out of what the abstract one says. -/
def StepsTo (P : Program) (n : Nat) (γ : Ghost) (o : Oper) (a : Act) (s' : St) : Prop :=
  ∀ (K : Act → World → Prop) (Q : Exit → Act → World → Prop), (∀ a' γ', Holds n γ' s' a' → Ext γ γ' → K a' γ'.w) → o.wp P a γ.w K Q

theorem stepsTo_did {P : Program} {n : Nat} {γ : Ghost} {o : Oper} {a : Act} {s : St} (h : Holds n γ s a) (hd : ∀ x, o.dst = some x → x < n) {v : AVal} {m' : AMem} (hdid : Did P γ (execOp a.eval o) v m') : StepsTo P n γ o a ⟨put s.env o.dst v, m'⟩ := by
  intro K Q hK
  obtain ⟨nx, γ', hrun, hnx, hext, hrl, hS⟩ := hdid
  unfold Oper.wp
  rw [hrun]
  have he' := h.er.mono hext.le
  have hd' : ∀ x, o.dst = some x → x < a.tmps.size := fun x hx => by rw [h.size]; exact hd x hx
  have hsz : ∀ u, (a.put o.dst u).tmps.size = n := fun u => by cases hh : o.dst <;> simp [Act.put, h.size]
  have hdf : ∀ u, (a.put o.dst u).defers = [] := fun u => by cases hh : o.dst <;> simp [Act.put, h.defers]
  cases nx <;> simp only [NX] at hnx
  · exact hK _ γ' ⟨hrl, hS, he'.put' hd' hnx, hsz _, hdf _⟩ hext
  · subst hnx
    exact hK _ γ' ⟨hrl, hS, he'.put' hd' .undef, hsz _, hdf _⟩ hext

theorem run_callFunc {P : Program} {f : FuncId} (h : enterable P f = true) (args : Array Value) (w : World) : (callFunc f args).run P w = .ok (.enter f args) w := by
  unfold enterable at h
  split at h
  · rename_i fn hf
    simp only [Bool.and_eq_true, bne_iff_ne, ne_eq] at h
    have hb : fn.body ≠ none := by cases hb : fn.body <;> simp_all
    simp [callFunc, hf, h.1, hb]
  · cases h

theorem stepsTo_call {P : Program} {n : Nat} {γ : Ghost} {o : Oper} {a : Act} {s : St} (h : Holds n γ s a) (hd : ∀ x, o.dst = some x → x < n) {f : FuncId} {args : List AVal} {vals : Array Value} {r : AVal} {m' : AMem}
    (hc : RCall P f args s.m r m') (hv : VRs γ.cx args vals) (hx : (execOp a.eval o).run P γ.w = .ok (.enter f vals) γ.w) : StepsTo P n γ o a ⟨put s.env o.dst r, m'⟩ := by
  intro K Q hK
  unfold Oper.wp
  rw [hx, Oper.upon_enter]
  refine (hc.2 γ vals h.rl h.m hv).mono ?_
  rintro e w' ⟨v, γ', rfl, rfl, hS, hext, hrl, hvr⟩
  have he' := h.er.mono hext.le
  exact hK _ γ' ⟨hrl, hS, he'.put' (fun x hx => by rw [h.size]; exact hd x hx) hvr, by cases hh : o.dst <;> simp [Act.put, h.size], by cases hh : o.dst <;> simp [Act.put, h.defers]⟩ hext

theorem vrs_map {κ : Cx} {ρ : Operand → AVal} {σ : Operand → Value} (h : ∀ x, VR κ (ρ x) (σ x)) (xs : Array Operand) : VRs κ (xs.toList.map ρ) (xs.map σ) := fnvals h xs

theorem VRs.append {κ : Cx} {xs ys : List AVal} {us vs : Array Value} (h : VRs κ xs us) (k : VRs κ ys vs) : VRs κ (xs ++ ys) (us ++ vs) := by
  refine ⟨by simp [h.1, k.1], fun j hj => ?_⟩
  by_cases hjx : j < xs.length
  · rw [List.getElem_append_left hjx]
    have := h.2 j hjx
    simp only [Array.getD_eq_getD_getElem?] at this ⊢
    rw [Array.getElem?_append_left (by rw [h.1]; exact hjx)]
    exact this
  · have hj2 : j - xs.length < ys.length := by simp at hj; omega
    rw [List.getElem_append_right (by omega)]
    have := k.2 _ hj2
    simp only [Array.getD_eq_getD_getElem?] at this ⊢
    rw [Array.getElem?_append_right (by rw [h.1]; omega), h.1]
    exact this

theorem aexec_sound {P : Program} {Γ : Gam} (hΓ : Sound P Γ) {mu : Bool} {n : Nat} {γ : Ghost} {o : Oper} {a : Act} {s : St} (h : Holds n γ s a) (hd : ∀ x, o.dst = some x → x < n) {v : AVal} {m' : AMem}
    (hx : aexec P Γ mu s.m (ev s.env) o.op = some (v, m')) : StepsTo P n γ o a ⟨put s.env o.dst v, m'⟩ := by
  have hE : ∀ x, VR γ.cx (ev s.env x) (a.eval x) := fun x => h.er.ev x
  have viaOp : aop P mu s.m (ev s.env) o.op = some (v, m') → StepsTo P n γ o a ⟨put s.env o.dst v, m'⟩ := fun hop =>
    stepsTo_did h hd (aop_sound h.rl h.er (by rw [h.m]; exact hop))
  cases hop : o.op with
  | call c =>
    rw [hop] at hx
    simp only [aexec] at hx
    cases hc : c.callee with
    | builtin b =>
      simp only [hc] at hx
      refine viaOp ?_
      rw [hop]
      simp only [aop, hc]
      exact hx
    | invoke r mm => simp [hc] at hx
    | value x =>
      simp only [hc] at hx
      have dyn : (match ev s.env x with
          | .fn f first caps => acallP Γ s.m f (first ++ c.args.toList.map (ev s.env) ++ caps)
          | _ => none) = some (v, m') → StepsTo P n γ o a ⟨put s.env o.dst v, m'⟩ := by
        intro hx
        split at hx
        · rename_i f first caps hfn
          have hv := hE x
          rw [hfn] at hv
          have hrc := acallP_sound hΓ hx
          cases hav : a.eval x <;> rw [hav] at hv <;> cases hv
          rename_i xs ys h1 h2 k1 k2
          have hargs := vrs_map hE c.args
          refine stepsTo_call h hd hrc ((VRs.append ⟨h1, h2⟩ hargs).append ⟨k1, k2⟩) ?_
          simp only [execOp, hop, resolve, hc, hav, Deferred.ofValue, invoke, Sem.run_bind, Sem.run_pure, Result.andThen_ok]
          exact run_callFunc hrc.1 _ _
        · cases hx
      cases x with
      | func f =>
        have hargs := vrs_map hE c.args
        rcases acall_sound hΓ hx with hrc | ⟨T', rfl, hec⟩
        case inr =>
          obtain ⟨u, γ', e1, e2, e3, e4, e5⟩ := hec γ _ h.rl (by rw [h.m]) hargs
          refine stepsTo_did h hd ⟨.value u, γ', ?_, e5, e2, e3, by rw [e4, h.m]⟩
          simp only [execOp, hop, resolve, hc, Act.eval, Deferred.ofValue, invoke, Sem.run_bind, Sem.run_pure, Result.andThen_ok]
          simpa using e1
        refine stepsTo_call h hd hrc hargs ?_
        simp only [execOp, hop, resolve, hc, Act.eval, Deferred.ofValue, invoke, Sem.run_bind, Sem.run_pure, Result.andThen_ok]
        have := run_callFunc hrc.1 (c.args.map a.eval) γ.w
        simpa using this
      | tmp t => exact dyn hx
      | const k => exact dyn hx
      | global g => exact dyn hx
  | _ => exact viaOp (by rw [hop] at hx ⊢; exact hx)

/-- One operation of a region, its guard too. -/
theorem astep_sound {P : Program} {Γ : Gam} (hΓ : Sound P Γ) {mu : Bool} {n : Nat} {γ : Ghost} {ops : Array Oper} {o : Oper} {a : Act} {s s' : St} (h : Holds n γ s a) (hd : ∀ x, o.dst = some x → x < n) (hs : astep P Γ mu ops o s = some s')
    {K : Act → World → Prop} {Q : Exit → Act → World → Prop} (hK : ∀ a' γ', Holds n γ' s' a' → Ext γ γ' → K a' γ'.w) :
    if Region.wanted o (yielded ops a.tmps) then o.wp P a γ.w K Q ∨ (o.asks P a γ.w ∧ LetsOut Q) else K (a.put o.dst undef) γ.w := by
  unfold astep at hs
  cases hg : aguard ops s.env o with
  | none => simp [hg] at hs
  | some g =>
    simp only [hg] at hs
    rw [guard_sound h.er hg]
    cases g with
    | true =>
      simp only [if_true] at hs ⊢
      split at hs
      · rename_i v m' hx
        simp only [Option.some.injEq] at hs; subst hs
        exact .inl (aexec_sound hΓ h hd hx K Q hK)
      · cases hs
    | false =>
      simp only [Bool.false_eq_true, if_false, Option.some.injEq] at hs ⊢
      subst hs
      exact hK _ γ ⟨h.rl, h.m, h.er.put' (fun x hx => by rw [h.size]; exact hd x hx) .undef, by cases hh : o.dst <;> simp [Act.put, h.size], by cases hh : o.dst <;> simp [Act.put, h.defers]⟩ (Ext.refl γ)

theorem aops_sound {P : Program} {Γ : Gam} (hΓ : Sound P Γ) {mu : Bool} {n : Nat} {ops : Array Oper} {Q : Exit → Act → World → Prop} : ∀ (l : List Oper) (γ : Ghost) (a : Act) (s s' : St), (∀ o ∈ l, ∀ x, o.dst = some x → x < n) → Holds n γ s a → aops P Γ mu ops l s = some s' →
    (∀ a' γ', Holds n γ' s' a' → Ext γ γ' → Q .normal a' γ'.w) → wpList P ops Q l a γ.w
  | [], γ, a, s, s', _, h, hs, hQ => by
    simp only [aops, Option.some.injEq] at hs; subst hs
    exact hQ a γ h (Ext.refl γ)
  | o :: l, γ, a, s, s', hd, h, hs, hQ => by
    simp only [aops] at hs
    obtain ⟨s1, h1, h2⟩ := Option.bind_eq_some_iff.1 hs
    have := astep_sound (K := wpList P ops Q l) (Q := Q) hΓ h (hd o (by simp)) h1 (fun a' γ' h' he => aops_sound hΓ l γ' a' s1 s' (fun o' ho' => hd o' (by simp [ho'])) h' h2 (fun a'' γ'' h'' he' => hQ a'' γ'' h'' (he.trans he')))
    exact this

end Go.Hk
/- Memory that nobody names any more is let go. -/
namespace Go.Hk

def cloR (t : Nat) : Rt → Bool
  | .tok i => decide (i < t)
  | .no => true
  | .full => true
  | .nil => true
mutual
/-- A value names no block from h on, and no token from t on. -/
def clo (h t : Nat) : AVal → Bool
  | .ptr b _ _ => decide (b < h)
  | .msl b _ _ _ _ => decide (b < h)
  | .map b => decide (b < h)
  | .sl r _ cs => cloR t r && cloL h t cs
  | .ipt cs _ => cloL h t cs
  | .fn _ a b => cloL h t a && cloL h t b
  | .ifc _ v => clo h t v
  | .agg cs => cloL h t cs
  | .tup a cs => clo h t a && cloL h t cs
  | .dead => true
  | .undef => true
  | .bool _ => true
  | .int _ _ => true
  | .str _ => true
  | .nilp => true
  | .nilm => true
  | .nilf => true
  | .nili => true
  | .dpt _ cs => cloL h t cs
  | .tpt _ b _ => decide (b < h)
def cloL (h t : Nat) : List AVal → Bool
  | [] => true
  | v :: vs => clo h t v && cloL h t vs
end

theorem cloL_get {h t : Nat} : ∀ (cs : List AVal), cloL h t cs = true → ∀ (j : Nat) (hj : j < cs.length), clo h t cs[j] = true
  | [], _, j, hj => absurd hj (Nat.not_lt_zero j)
  | c :: cs, hc, j, hj => by
    simp only [cloL, Bool.and_eq_true] at hc
    cases j with
    | zero => exact hc.1
    | succ j => exact cloL_get cs hc.2 j (Nat.lt_of_succ_lt_succ hj)

theorem cloL_all {h t : Nat} : ∀ {cs : List AVal}, (∀ (j : Nat) (hj : j < cs.length), clo h t cs[j] = true) → cloL h t cs = true
  | [], _ => rfl
  | c :: cs, hc => by
    simp only [cloL, Bool.and_eq_true]
    exact ⟨hc 0 (by simp), cloL_all fun j hj => hc (j + 1) (by simpa using hj)⟩

mutual
/-- A value that bears no rights names nothing. -/
theorem clo_strip {h t : Nat} : ∀ (v u : AVal), strip v = some u → clo h t u = true
  | .sl r n cs, u, hu => by
    simp only [strip] at hu
    split at hu
    · rename_i ds hds; cases hu; simp only [clo, cloR, Bool.true_and]; exact cloL_strip cs ds hds
    · cases hu
  | .agg cs, u, hu => by
    simp only [strip] at hu
    split at hu
    · rename_i ds hds; cases hu; simp only [clo]; exact cloL_strip cs ds hds
    · cases hu
  | .ipt cs o, u, hu => by
    simp only [strip] at hu
    split at hu
    · rename_i ds hds; cases hu; simp only [clo]; exact cloL_strip cs ds hds
    · cases hu
  | .fn f a b, u, hu => by
    simp only [strip] at hu
    split at hu
    · rename_i x y hx hy; cases hu; simp only [clo, Bool.and_eq_true]; exact ⟨cloL_strip a x hx, cloL_strip b y hy⟩
    · cases hu
  | .ifc _ v, u, hu => by
    simp only [strip] at hu
    split at hu
    · rename_i x hx; cases hu; simp only [clo]; exact clo_strip v x hx
    · cases hu
  | .tup a cs, u, hu => by
    simp only [strip] at hu
    split at hu
    · rename_i x y hx hy; cases hu; simp only [clo, Bool.and_eq_true]; exact ⟨clo_strip a x hx, cloL_strip cs y hy⟩
    · cases hu
  | .ptr _ _ _, u, hu => by simp [strip] at hu
  | .msl _ _ _ _ _, u, hu => by simp [strip] at hu
  | .map _, u, hu => by simp [strip] at hu
  | .dpt _ _, u, hu => by simp [strip] at hu
  | .tpt _ _ _, u, hu => by simp [strip] at hu
  | .dead, u, hu => by simp only [strip] at hu; cases hu; rfl
  | .undef, u, hu => by simp only [strip] at hu; cases hu; rfl
  | .bool _, u, hu => by simp only [strip] at hu; cases hu; rfl
  | .int _ _, u, hu => by simp only [strip] at hu; cases hu; rfl
  | .str _, u, hu => by simp only [strip] at hu; cases hu; rfl
  | .nilp, u, hu => by simp only [strip] at hu; cases hu; rfl
  | .nilm, u, hu => by simp only [strip] at hu; cases hu; rfl
  | .nilf, u, hu => by simp only [strip] at hu; cases hu; rfl
  | .nili, u, hu => by simp only [strip] at hu; cases hu; rfl
theorem cloL_strip {h t : Nat} : ∀ (vs us : List AVal), stripL vs = some us → cloL h t us = true
  | [], us, hu => by simp only [stripL] at hu; cases hu; rfl
  | v :: vs, us, hu => by
    simp only [stripL] at hu
    split at hu
    · rename_i x y hx hy; cases hu; simp only [cloL, Bool.and_eq_true]; exact ⟨clo_strip v x hx, cloL_strip vs y hy⟩
    · cases hu
end

/-- Only the first h blocks and t tokens are still owned. -/
def Ghost.cut (γ : Ghost) (h t : Nat) : Ghost := { γ with S := ⟨γ.S.H.take h, γ.S.T.take t⟩ }

section
variable {γ : Ghost} {h t : Nat}
theorem cut_H {b : Nat} (hb : b < h) : (γ.cut h t).S.H[b]? = γ.S.H[b]? := by simp [Ghost.cut, List.getElem?_take, hb]
theorem cut_T {i : Nat} (hi : i < t) : (γ.cut h t).S.T[i]? = γ.S.T[i]? := by simp [Ghost.cut, List.getElem?_take, hi]
theorem cut_H' {b : Nat} {x : ABlk} (hx : (γ.cut h t).S.H[b]? = some x) : b < h ∧ γ.S.H[b]? = some x := by
  simp only [Ghost.cut, List.getElem?_take] at hx
  split at hx
  · rename_i hb; exact ⟨hb, hx⟩
  · cases hx
theorem cut_T' {i : Nat} {x : Nat × (Nat × Nat)} (hx : (γ.cut h t).S.T[i]? = some x) : i < t ∧ γ.S.T[i]? = some x := by
  simp only [Ghost.cut, List.getElem?_take] at hx
  split at hx
  · rename_i hb; exact ⟨hb, hx⟩
  · cases hx
theorem cut_blk {b g : Nat} (hb : (γ.cut h t).blkOwns b g) : γ.blkOwns b g := ⟨by
  have := hb.1
  simp only [Ghost.cut, List.length_take] at this
  omega, hb.2⟩
theorem cut_tok {i g : Nat} (hb : (γ.cut h t).tokOwns i g) : i < t ∧ γ.tokOwns i g := by
  obtain ⟨tp, sz, h1, h2, h3⟩ := hb
  obtain ⟨k1, k2⟩ := cut_T' h1
  exact ⟨k1, tp, sz, k2, h2, h3⟩
theorem cut_owns {g : Nat} (ho : (γ.cut h t).owns g) : γ.owns g := by
  rcases ho with ⟨b, hb⟩ | ⟨i, hi⟩
  · exact .inl ⟨b, cut_blk hb⟩
  · exact .inr ⟨i, (cut_tok hi).2⟩
theorem cut_cell {g o : Nat} {v : Value} (hc : γ.cell g o v) : (γ.cut h t).cell g o v :=
  ⟨hc.1, hc.2.1, hc.2.2.1, fun b hb => hc.2.2.2.1 b (cut_blk hb), fun i hi => by
    obtain ⟨h1, h2⟩ := cut_tok hi
    obtain ⟨tp, sz, h3, h4⟩ := hc.2.2.2.2 i h2
    exact ⟨tp, sz, by rw [cut_T h1]; exact h3, h4⟩⟩
theorem cut_cxblk {b e g c : Nat} (hb : b < h) (hx : γ.cx.blk b e g c) : (γ.cut h t).cx.blk b e g c := by
  obtain ⟨x, h1, h2⟩ := hx
  exact ⟨x, by rw [cut_H hb]; exact h1, h2⟩
theorem cut_cxtip {i len : Nat} {base : Option Nat} {cap : Nat} (hi : i < t) (hx : γ.cx.tip i len base cap) : (γ.cut h t).cx.tip i len base cap := by
  obtain ⟨tp, sz, h1, h2⟩ := hx
  exact ⟨tp, sz, by rw [cut_T hi]; exact h1, h2⟩
theorem cut_rt {r : Rt} {n len : Nat} {base : Option Nat} {k cap : Nat} (hc : cloR t r = true) (hr : rtOK γ.cx r n len base k cap) : rtOK (γ.cut h t).cx r n len base k cap := by
  cases r with
  | no => trivial
  | full => exact hr
  | nil => exact hr
  | tok i => exact ⟨cut_cxtip (by simpa [cloR] using hc) hr.1, hr.2⟩

theorem cut_own {g : Nat} {ty : TypeId} {n : Nat} (ho : γ.own g ty n) : (γ.cut h t).own g ty n := ho
theorem VR.cut {a : AVal} {v : Value} (hv : VR γ.cx a v) : clo h t a = true → VR (γ.cut h t).cx a v := by
  induction hv with
  | dead v => exact fun _ => .dead v
  | undef => exact fun _ => .undef
  | bool b => exact fun _ => .bool b
  | int k n => exact fun _ => .int k n
  | str s => exact fun _ => .str s
  | nilp => exact fun _ => .nilp
  | ptr b e o g c hb => exact fun hc => .ptr b e o g c (cut_cxblk (by simpa [clo] using hc) hb)
  | ipt cs o g k f hcell _ ih =>
    intro hc
    simp only [clo] at hc
    exact .ipt cs o g k f (fun j hj => cut_cell (hcell j hj)) fun j hj => ih j hj (cloL_get cs hc j hj)
  | slz a cap => exact fun _ => .slz a cap
  | slnil r hr =>
    intro hc
    simp only [clo, Bool.and_eq_true] at hc
    exact .slnil r (cut_rt hc.1 hr)
  | sl r n cs g k cap f hn hcell _ hr ih =>
    intro hc
    simp only [clo, Bool.and_eq_true] at hc
    exact .sl r n cs g k cap f hn (fun j hj => cut_cell (hcell j hj)) (fun j hj => ih j hj (cloL_get cs hc.2 j hj)) (cut_rt hc.1 hr)
  | msl b e o n k g c cap hb hn ho => exact fun hc => .msl b e o n k g c cap (cut_cxblk (by simpa [clo] using hc) hb) hn ho
  | nilm => exact fun _ => .nilm
  | map b g c hb => exact fun hc => .map b g c (cut_cxblk (by simpa [clo] using hc) hb)
  | fn f first caps xs ys h1 h2 _ _ ih1 ih2 =>
    intro hc
    simp only [clo, Bool.and_eq_true] at hc
    exact .fn f first caps xs ys h1 h2 (fun j hj => ih1 j hj (cloL_get _ hc.1 j hj)) fun j hj => ih2 j hj (cloL_get _ hc.2 j hj)
  | nilf => exact fun _ => .nilf
  | dpz ty p => exact fun _ => .dpz ty p
  | dpt ty cs g f hcell _ ho ih =>
    intro hc
    simp only [clo] at hc
    exact .dpt ty cs g f (fun j hj => cut_cell (hcell j hj)) (fun j hj => ih j hj (cloL_get cs hc j hj)) ho
  | tpt ty b n g c hb ho => exact fun hc => .tpt ty b n g c (cut_cxblk (by simpa [clo] using hc) hb) ho
  | ifc ty a v _ ih => exact fun hc => .ifc ty a v (ih (by simpa [clo] using hc))
  | nili => exact fun _ => .nili
  | agg cs vs hs _ ho ih =>
    intro hc
    simp only [clo] at hc
    exact .agg cs vs hs (fun j hj => ih j hj (cloL_get cs hc j hj)) ho
  | tup a cs vs hs _ ih =>
    intro hc
    simp only [clo, Bool.and_eq_true] at hc
    refine .tup a cs vs hs fun j hj => ih j hj ?_
    have hl : cloL h t (a :: cs) = true := by simp only [cloL, Bool.and_eq_true]; exact hc
    exact cloL_get _ hl j hj
end

/-- A block names nothing that goes. -/
def cloB (h t : Nat) : ABlk → Bool
  | .cells _ cs => cloL h t cs
  | .amap es => es.all fun p => clo h t p.1 && clo h t p.2

section
variable {γ : Ghost} {h t : Nat}
theorem rl_cut (hr : Rl γ) (hc : (γ.S.H.take h).all (cloB h t) = true) : Rl (γ.cut h t) where
  lo := hr.lo
  bad := hr.bad
  cells := fun b e cs hx => by
    have hm := List.all_eq_true.1 hc _ (List.mem_of_getElem? hx)
    obtain ⟨hb, hx⟩ := cut_H' hx
    obtain ⟨arr, ty, k1, k2, k3, k4, k5⟩ := hr.cells b e cs hx
    exact ⟨arr, ty, k1, k2, k3, fun j hj => (k4 j hj).cut (cloL_get cs hm j hj), k5⟩
  maps := fun b es hx => by
    have hm := List.all_eq_true.1 hc _ (List.mem_of_getElem? hx)
    obtain ⟨hb, hx⟩ := cut_H' hx
    obtain ⟨en, clk, k1, k2, k3⟩ := hr.maps b es hx
    refine ⟨en, clk, k1, k2, fun j hj => ?_⟩
    obtain ⟨x, x1, x2, x3, x4⟩ := k3 j hj
    simp only [cloB] at hm
    have := List.all_eq_true.1 hm _ (List.getElem_mem hj)
    simp only [Bool.and_eq_true] at this
    exact ⟨x, x1, x2.cut this.1, x3.cut this.2, x4⟩
  toks := fun i g hi => by
    obtain ⟨h1, h2⟩ := cut_tok hi
    obtain ⟨arr, lo, hi', tp, sz, k1, k2, k3, k4⟩ := hr.toks i g h2
    exact ⟨arr, lo, hi', tp, sz, k1, by rw [cut_T h1]; exact k2, k3, k4⟩
  own := fun g hg => hr.own g (cut_owns hg)
  hh := fun b b' g h1 h2 => hr.hh b b' g (cut_blk h1) (cut_blk h2)
  ht := fun b i g h1 h2 => hr.ht b i g (cut_blk h1) (cut_tok h2).2
  tt := fun i i' g h1 h2 => hr.tt i i' g (cut_tok h1).2 (cut_tok h2).2
  zs := fun b e cs hx => hr.zs b e cs (cut_H' hx).2

theorem ext_cut {hk tk : Nat} (h1 : hk ≤ h) (h2 : tk ≤ t) : ExtN hk tk γ (γ.cut h t) where
  bad := rfl
  lo := rfl
  size := Nat.le_refl _
  os := rfl
  tape := rfl
  output := rfl
  cell := fun _ _ _ hc => cut_cell hc
  blk := fun _ _ _ _ hb hx => cut_cxblk (by omega) hx
  tip := fun _ _ _ _ hi hx => cut_cxtip (by omega) hx
  own := fun _ _ _ h => h
  frame := fun _ _ _ => .inl rfl
  owns := fun _ ho => .inl (cut_owns ho)
end

/-- A state of which less is known, and less owned. -/
structure Wm (s0 s : St) : Prop where
  m : s0.m = s.m ∨ (∃ G X, s.m = ⟨s0.m.H ++ G, s0.m.T ++ X⟩) ∧ s0.m.H.all (cloB s0.m.H.length s0.m.T.length) = true ∧ ∀ t, clo s0.m.H.length s0.m.T.length (lk s0.env t) = true
  le : ∀ t, lk s0.env t = lk s.env t ∨ lk s0.env t = .dead

theorem Holds.less {n hk tk : Nat} {γ : Ghost} {s0 s : St} {a : Act} (hw : Wm s0 s) (h1 : hk ≤ s0.m.H.length) (h2 : tk ≤ s0.m.T.length) (hh : Holds n γ s a) : ∃ γ', γ'.w = γ.w ∧ ExtN hk tk γ γ' ∧ Holds n γ' s0 a := by
  rcases hw.m with hm | ⟨⟨G, X, hm⟩, hB, hE⟩
  · refine ⟨γ, rfl, ExtN.refl γ, hh.rl, hh.m.trans hm.symm, fun t => ?_, hh.size, hh.defers⟩
    rcases hw.le t with h | h
    · rw [h]; exact hh.er t
    · rw [h]; exact .dead _
  · have hS : (γ.cut s0.m.H.length s0.m.T.length).S = s0.m := by
      have := hh.m
      simp only [Ghost.cut, this, hm, List.take_left']
    refine ⟨γ.cut s0.m.H.length s0.m.T.length, rfl, ext_cut h1 h2, rl_cut hh.rl ?_, hS, fun t => ?_, hh.size, hh.defers⟩
    · have := hh.m
      rw [this, hm]
      simpa only [List.take_left'] using hB
    · rcases hw.le t with h | h
      · have := hE t
        rw [h] at this ⊢
        exact (hh.er t).cut this
      · rw [h]; exact .dead _
end Go.Hk
/- Code: what holds behind it, over abstract states. -/
namespace Go.Hk

/-- Behind a piece of code that began at the ghost γ: some abstract state, of which Q. -/
def AQ (hk tk : Nat) (γ : Ghost) (n : Nat) (Q : Exit → St → Prop) : Exit → Act → World → Prop := fun e a w =>
  ∃ γ' s, γ'.w = w ∧ ExtN hk tk γ γ' ∧ Holds n γ' s a ∧ Q e s

/-- From the abstract state s on, code c ends in a way, and in an abstract state, of which Q. -/
def AWp (P : Program) (n hk tk : Nat) (c : Code) (Q : Exit → St → Prop) (s : St) : Prop :=
  ∀ γ a, Holds n γ s a → c.wp P (AQ hk tk γ n Q) a γ.w

section rules
variable {P : Program} {n hk tk : Nat} {Q : Exit → St → Prop} {s : St}

theorem AQ.trans {γ γ' : Ghost} (h : ExtN hk tk γ γ') {e : Exit} {a : Act} {w : World} (k : AQ hk tk γ' n Q e a w) : AQ hk tk γ n Q e a w := by
  obtain ⟨γ'', s, h1, h2, h3, h4⟩ := k
  exact ⟨γ'', s, h1, h.trans h2, h3, h4⟩

theorem AWp.mono {c : Code} {Q' : Exit → St → Prop} (h : AWp P n hk tk c Q s) (hq : ∀ e s, Q e s → Q' e s) : AWp P n hk tk c Q' s := fun γ a hh =>
  wp_mono (h γ a hh) fun _ _ _ ⟨γ', s', h1, h2, h3, h4⟩ => ⟨γ', s', h1, h2, h3, hq _ _ h4⟩

theorem AWp.skip (h : Q .normal s) : AWp P n hk tk .skip Q s := fun γ _ hh => wp_skip ⟨γ, s, rfl, ExtN.refl γ, hh, h⟩
theorem AWp.ret (h : Q .ret s) : AWp P n hk tk .ret Q s := fun γ _ hh => wp_ret ⟨γ, s, rfl, ExtN.refl γ, hh, h⟩
theorem AWp.exit {id : Nat} (h : Q (.exit id) s) : AWp P n hk tk (.exit id) Q s := fun γ _ hh => wp_exit ⟨γ, s, rfl, ExtN.refl γ, hh, h⟩
theorem AWp.label {l : Nat} (h : Q .normal s) : AWp P n hk tk (.label l) Q s := fun γ _ hh => wp_label ⟨γ, s, rfl, ExtN.refl γ, hh, h⟩

/-- What is asked behind the first of two pieces. -/
def seqQ (next : St → Prop) (Q : Exit → St → Prop) : Exit → St → Prop
  | .normal, s => next s
  | e, s => Q e s

theorem AWp.seq {x y : Code} (h : AWp P n hk tk x (seqQ (AWp P n hk tk y Q) Q) s) : AWp P n hk tk (.seq x y) Q s := fun γ a hh => by
  refine wp_seq (wp_mono (h γ a hh) fun e a' w' hq => ?_)
  obtain ⟨γ', s', rfl, h2, h3, h4⟩ := hq
  cases e <;> simp only [seqQ] at h4
  case normal => exact wp_mono (h4 γ' a' h3) fun _ _ _ k => AQ.trans h2 k
  all_goals exact ⟨γ', s', rfl, h2, h3, h4⟩

theorem AWp.cond {c : Operand} {x y : Code} {t : Bool} (hc : ev s.env c = .bool t) (h : AWp P n hk tk (if t then x else y) Q s) : AWp P n hk tk (.cond c x y) Q s := fun γ a hh => by
  have hv := hh.er.ev c
  rw [hc] at hv
  have : a.eval c = .bool t := by cases hav : a.eval c <;> rw [hav] at hv <;> cases hv; rfl
  exact wp_cond this (h γ a hh)

def blockQ (id : Nat) (Q : Exit → St → Prop) : Exit → St → Prop
  | .exit id', s => if id' = id then Q .normal s else Q (.exit id') s
  | e, s => Q e s

theorem AWp.block {id : Nat} {c : Code} (h : AWp P n hk tk c (blockQ id Q) s) : AWp P n hk tk (.block id c) Q s := fun γ a hh => by
  refine wp_block (wp_mono (h γ a hh) fun e a' w' hq => ?_)
  obtain ⟨γ', s', rfl, h2, h3, h4⟩ := hq
  cases e <;> simp only [blockQ] at h4
  case exit id' =>
    simp only [Exit.inBlock]
    split
    · rename_i hid; rw [if_pos hid] at h4; exact ⟨γ', s', rfl, h2, h3, h4⟩
    · rename_i hid; rw [if_neg hid] at h4; exact ⟨γ', s', rfl, h2, h3, h4⟩
  all_goals exact ⟨γ', s', rfl, h2, h3, h4⟩

/-- A loop, with a number that every round lowers. -/
theorem wp_loop_ghost {c : Code} {Q : Exit → Act → World → Prop} (I : Nat → Act → World → Prop)
    (round : ∀ k a w, I k a w → c.wp P (Exit.then (fun a' w' => ∃ k', k' < k ∧ I k' a' w') Q) a w) : ∀ (k : Nat) (a : Act) (w : World), I k a w → (Code.loop c).wp P Q a w := by
  intro k a w hI b r cs
  have key : ∀ n a w, I n a w → ∃ e a' w', Q e a' w' ∧ Arrives P (lone (b.at a (.code c :: .inLoop c :: r)) cs w) b r cs e a' w' := by
    intro n
    induction n using Nat.strongRecOn with
    | _ n ih =>
      intro a w hI
      obtain ⟨e, a₁, w₁, hq, harr⟩ := round n a w hI b (.inLoop c :: r) cs
      cases e with
      | normal =>
        obtain ⟨k', hlt, hI₁⟩ := hq
        obtain ⟨e₂, a₂, w₂, hq₂, harr₂⟩ := ih k' hlt a₁ w₁ hI₁
        exact ⟨e₂, a₂, w₂, hq₂, .of_steps (Steps.trans harr (.one step_inLoop)) harr₂⟩
      | exit id => exact ⟨_, a₁, w₁, hq, .pass (x := .inLoop c) rfl (fun _ _ => .inl (by simp)) harr⟩
      | goto l => exact ⟨_, a₁, w₁, hq, .pass (x := .inLoop c) rfl (fun _ _ => .inl (by simp)) harr⟩
      | ret => exact ⟨_, a₁, w₁, hq, .pass (x := .inLoop c) rfl (fun _ _ => .inl (by simp)) harr⟩
      | panic ch => exact ⟨_, a₁, w₁, hq, .pass (x := .inLoop c) rfl (fun _ _ => .inl (by simp)) harr⟩
      | outgrown => exact ⟨_, a₁, w₁, hq, .pass (x := .inLoop c) rfl (fun _ _ => .inl (by simp)) harr⟩
  obtain ⟨e, a', w', hq, harr⟩ := key k a w hI
  exact ⟨e, a', w', hq, .of_steps (.one step_loop) harr⟩

/-- A loop: what holds at each round's head, with a number that every round lowers. -/
theorem AWp.loop {c : Code} (I : Nat → St → Prop) (round : ∀ k s, I k s → AWp P n hk tk c (seqQ (fun s' => ∃ k', k' < k ∧ I k' s') Q) s) {k : Nat} (h : I k s) : AWp P n hk tk (.loop c) Q s := fun γ a hh => by
  refine wp_loop_ghost (fun k a w => ∃ γ' s', γ'.w = w ∧ ExtN hk tk γ γ' ∧ Holds n γ' s' a ∧ I k s') (fun k a w hI => ?_) k a γ.w ⟨γ, s, rfl, ExtN.refl γ, hh, h⟩
  obtain ⟨γ', s', rfl, h2, h3, h4⟩ := hI
  refine wp_mono (round k s' h4 γ' a h3) fun e a' w' hq => ?_
  obtain ⟨γ'', s'', rfl, k2, k3, k4⟩ := hq
  cases e <;> simp only [seqQ] at k4
  case normal =>
    obtain ⟨k', hlt, hI'⟩ := k4
    exact ⟨k', hlt, γ'', s'', rfl, h2.trans k2, k3, hI'⟩
  all_goals exact ⟨γ'', s'', rfl, h2.trans k2, k3, k4⟩

/-- Every temporary that is written is there. -/
def dstOK (n : Nat) (ops : List Oper) : Bool := ops.all fun o => match o.dst with | some d => decide (d < n) | none => true

theorem dstOK_spec {n : Nat} {ops : List Oper} (h : dstOK n ops = true) : ∀ o ∈ ops, ∀ x, o.dst = some x → x < n := by
  intro o ho x hx
  have := List.all_eq_true.1 h o ho
  simpa [hx] using this

theorem AWp.region {Γ : Gam} (hΓ : Sound P Γ) {mu : Bool} {id : Nat} {ops : Array Oper} {s' : St} (hd : dstOK n ops.toList = true) (he : aops P Γ mu ops ops.toList s = some s') (h : Q .normal s') : AWp P n hk tk (.region id ops false) Q s := fun γ a hh =>
  wp_region_list (aops_sound hΓ ops.toList γ a s s' (dstOK_spec hd) hh he fun _ γ' hh' hext => ⟨γ', s', rfl, hext.toN, hh', h⟩)

end rules

/-! ### Functions -/

def envFrom : Nat → List AVal → List (Nat × AVal)
  | _, [] => []
  | i, v :: vs => (i, v) :: envFrom (i + 1) vs

theorem lk_envFrom : ∀ (vs : List AVal) (i t : Nat), lk (envFrom i vs) t = if i ≤ t then vs.getD (t - i) .dead else .dead
  | [], i, t => by simp [envFrom, lk]
  | v :: vs, i, t => by
    simp only [envFrom, lk]
    by_cases h : i = t
    · subst h; simp
    · rw [if_neg h, lk_envFrom vs (i + 1) t]
      by_cases h2 : i ≤ t
      · rw [if_pos h2, if_pos (by omega)]
        rw [show t - i = (t - (i + 1)) + 1 by omega]
        simp
      · rw [if_neg h2, if_neg (by omega)]

def aresL (P : Program) (s : St) : List ResultVar → Option (List AVal)
  | [] => some []
  | .tmp t :: r => (match aresL P s r with | some vs => some (lk s.env t :: vs) | none => none)
  | .cell a t :: r => (match aload P t s.m (lk s.env a), aresL P s r with | some v, some vs => some (v :: vs) | _, _ => none)

/-- What a function hands back. -/
def ares (P : Program) (rs : List ResultVar) (s : St) : Option AVal :=
  match aresL P s rs with
  | some [] => some .undef
  | some [v] => some v
  | some (v :: w :: r) => some (.tup v (w :: r))
  | none => none

theorem aresL_sound {P : Program} {n : Nat} {γ : Ghost} {s : St} {a : Act} (h : Holds n γ s a) : ∀ (rs : List ResultVar) (vs : List AVal), aresL P s rs = some vs →
    ∃ us : List Value, (rs.mapM (m := Sem) fun r => match r with | .tmp t => pure (a.tmps.getD t undef) | .cell x t => do loadVar t (← asAddr (a.tmps.getD x undef))).run P γ.w = .ok us γ.w ∧
      us.length = vs.length ∧ ∀ (j : Nat) (h : j < vs.length), VR γ.cx vs[j] (us.getD j undef)
  | [], vs, hv => by
    simp only [aresL, Option.some.injEq] at hv; subst hv
    exact ⟨[], by simp, rfl, fun j h => absurd h (Nat.not_lt_zero j)⟩
  | .tmp t :: r, vs, hv => by
    simp only [aresL] at hv
    split at hv
    · rename_i ws hws
      simp only [Option.some.injEq] at hv; subst hv
      obtain ⟨us, h1, h2, h3⟩ := aresL_sound h r ws hws
      refine ⟨a.tmps.getD t undef :: us, ?_, by simp [h2], fun j hj => ?_⟩
      · rw [List.mapM_cons]
        simp only [Sem.run_bind, Sem.run_pure, Result.andThen_ok, h1]
      · cases j with
        | zero => exact h.er t
        | succ j => exact h3 j (Nat.lt_of_succ_lt_succ hj)
    · cases hv
  | .cell x t :: r, vs, hv => by
    simp only [aresL] at hv
    split at hv
    · rename_i v ws hld hws
      simp only [Option.some.injEq] at hv; subst hv
      obtain ⟨us, h1, h2, h3⟩ := aresL_sound h r ws hws
      rw [← h.m] at hld
      obtain ⟨u, k1, k2⟩ := aload_sound (P := P) h.rl hld (h.er x)
      have hadr : ∃ ad, a.tmps.getD x undef = .pointer (some ad) := by
        have hx := h.er x
        generalize a.tmps.getD x undef = y at hx
        cases hl : lk s.env x <;> rw [hl] at hld <;> simp only [aload, reduceCtorEq] at hld <;> rw [hl] at hx <;> cases hx <;> exact ⟨_, rfl⟩
      obtain ⟨ad, had⟩ := hadr
      rw [had] at k1
      have k1' : (loadVar t ad).run P γ.w = .ok u γ.w := by simpa [Instr.loadAt, Instr.sureAddr] using k1
      refine ⟨u :: us, ?_, by simp [h2], fun j hj => ?_⟩
      · rw [List.mapM_cons]
        have e1 : ((do loadVar t (← asAddr (a.tmps.getD x undef))) : Sem Value).run P γ.w = .ok u γ.w := by simp [had, asAddr, k1']
        rw [Sem.run_bind]
        refine (congrArg (fun r => Result.andThen r _) e1).trans ?_
        simp only [Result.andThen_ok]
        rw [Sem.run_bind]
        exact (congrArg (fun r => Result.andThen r _) h1).trans rfl
      · cases j with
        | zero => exact k2
        | succ j => exact h3 j (Nat.lt_of_succ_lt_succ hj)
    · cases hv

theorem ares_sound {P : Program} {n : Nat} {γ : Ghost} {s : St} {a : Act} (h : Holds n γ s a) {fn : Func} {v : AVal} (hv : ares P fn.results.toList s = some v) : ∃ u, (results fn a.tmps).run P γ.w = .ok u γ.w ∧ VR γ.cx v u := by
  unfold ares at hv
  have key : ∀ vs, aresL P s fn.results.toList = some vs → ∃ us : List Value, us.length = vs.length ∧ (∀ (j : Nat) (h : j < vs.length), VR γ.cx vs[j] (us.getD j undef)) ∧
      (results fn a.tmps).run P γ.w = .ok (if h : us.toArray.size = 1 then us.toArray[0] else .tuple us.toArray) γ.w := by
    intro vs hvs
    obtain ⟨us, h1, h2, h3⟩ := aresL_sound h _ _ hvs
    refine ⟨us, h2, h3, ?_⟩
    have hm : (fn.results.mapM (m := Sem) fun r => match r with | .tmp t => pure (a.tmps.getD t undef) | .cell x t => do loadVar t (← asAddr (a.tmps.getD x undef))).run P γ.w = .ok us.toArray γ.w := by
      rw [← Array.toArray_toList (xs := fn.results), List.mapM_toArray, Sem.run_map, h1]
      rfl
    unfold results
    rw [Sem.run_bind]
    exact (congrArg (fun r => Result.andThen r _) hm).trans rfl
  split at hv
  · rename_i hl
    simp only [Option.some.injEq] at hv; subst hv
    obtain ⟨us, h1, h2, h3⟩ := key _ hl
    have : us = [] := List.eq_nil_of_length_eq_zero (by simpa using h1)
    subst this
    exact ⟨_, h3, by simpa using VR.undef⟩
  · rename_i x hl
    simp only [Option.some.injEq] at hv; subst hv
    obtain ⟨us, h1, h2, h3⟩ := key _ hl
    cases us with
    | nil => simp at h1
    | cons u us =>
      cases us with
      | cons => simp at h1
      | nil => exact ⟨_, h3, by simpa using h2 0 (by simp)⟩
  · rename_i x y r hl
    simp only [Option.some.injEq] at hv; subst hv
    obtain ⟨us, h1, h2, h3⟩ := key _ hl
    refine ⟨_, h3, ?_⟩
    have hne : ¬ (us.toArray.size = 1) := by simp at h1 ⊢; omega
    rw [dif_neg hne]
    exact .tup x (y :: r) us.toArray (by simpa using h1) (fun j hj => by simpa using h2 j hj)
  · cases hv

/-- What a body that began at these arguments is asked. -/
def FnQ (P : Program) (rs : List ResultVar) (R : AVal → St → Prop) : Exit → St → Prop
  | .normal, s | .ret, s => ∃ r, ares P rs s = some r ∧ R r s
  | _, _ => False

theorem ext_drop {γ γ' : Ghost} (h0 : γ.S = ⟨[], []⟩) (h : Ext γ γ') : Ext γ γ'.drop where
  bad := h.bad
  lo := h.lo
  size := h.size
  os := h.os
  tape := h.tape
  output := h.output
  cell := fun g o v hc => drop_cell (h.cell g o v hc)
  blk := fun b e g c ⟨y, hy, _⟩ => by rw [h0] at hy; simp at hy
  tip := fun t len b c ⟨y, z, hy, _⟩ => by rw [h0] at hy; simp at hy
  own := h.own
  frame := h.frame
  owns := fun k hk => by
    rcases hk with ⟨b, hb⟩ | ⟨t, ht⟩
    · exact absurd hb drop_noblk
    · exact absurd ht drop_notok

theorem enter_holds {γ : Ghost} {args : List AVal} {vals : Array Value} {m : AMem} (hr : Rl γ) (hm : γ.S = m) (hv : VRs γ.cx args vals) {n : Nat} (hn : args.length ≤ n) :
    Holds n γ ⟨envFrom 0 args, m⟩ { tmps := vals ++ Array.replicate (n - vals.size) undef, defers := [] } := by
  refine ⟨hr, hm, fun t => ?_, by simp [hv.1]; omega, rfl⟩
  rw [lk_envFrom, if_pos (Nat.zero_le _), Nat.sub_zero]
  by_cases ht : t < args.length
  · have := hv.2 t ht
    simp only [Array.getD_eq_getD_getElem?, List.getD_eq_getElem?_getD, List.getElem?_eq_getElem ht, Option.getD_some] at this ⊢
    rw [Array.getElem?_append_left (by rw [hv.1]; exact ht)]
    exact this
  · rw [List.getD_eq_getElem?_getD, List.getElem?_eq_none (by omega)]
    exact .dead _

/-- A function's contract, out of its body: it looks at nothing but its arguments. -/
theorem PCall.of_body {P : Program} {f : FuncId} {fn : Func} {c : Code} {args : List AVal} {r : AVal} (hf : P.funcs[f]? = some fn) (hb : fn.body = some c) (hen : enterable P f = true) (hn : args.length ≤ fn.ntmps)
    (h : AWp P fn.ntmps 0 0 c (FnQ P fn.results.toList fun r0 s => view 8 s.m r0 = some r) ⟨envFrom 0 args, ⟨[], []⟩⟩) : PCall P f args r := by
  refine ⟨hen, fun γ vals hr hm hv => ?_⟩
  refine calls_of_wp hf hb (wp_mono (h γ _ (by
    have := enter_holds hr hm hv hn
    exact this)) fun e a w hq => ?_)
  obtain ⟨γ', s, rfl, h2, h3, h4⟩ := hq
  have h2 : Ext γ γ' := ExtN.full (by rw [hm]; exact h2)
  cases e <;> simp only [FnQ] at h4
  all_goals
    obtain ⟨r0, k1, k2⟩ := h4
    obtain ⟨u, u1, u2⟩ := ares_sound h3 k1
    rw [← h3.m] at k2
    exact ⟨h3.defers, u, u1, u, γ'.drop, rfl, rfl, rfl, ext_drop hm h2, rl_drop h3.rl, view_sound h3.rl _ _ _ _ k2 u2⟩

/-- What a function leaves: the memory said, and perhaps what nobody names. -/
def Left (r : AVal) (m' m : AMem) : Prop :=
  m = m' ∨ (∃ G X, m = ⟨m'.H ++ G, m'.T ++ X⟩) ∧ m'.H.all (cloB m'.H.length m'.T.length) = true ∧ clo m'.H.length m'.T.length r = true

/-- The same of a function that is handed memory to write. -/
theorem RCall.of_body {P : Program} {f : FuncId} {fn : Func} {c : Code} {args : List AVal} {r : AVal} {m m' : AMem} (hf : P.funcs[f]? = some fn) (hb : fn.body = some c) (hen : enterable P f = true) (hn : args.length ≤ fn.ntmps)
    (hH : m.H.length ≤ m'.H.length) (hT : m.T.length ≤ m'.T.length)
    (h : AWp P fn.ntmps m.H.length m.T.length c (FnQ P fn.results.toList fun r0 s => r0 = r ∧ Left r m' s.m) ⟨envFrom 0 args, m⟩) : RCall P f args m r m' := by
  refine ⟨hen, fun γ vals hr hm hv => ?_⟩
  refine calls_of_wp hf hb (wp_mono (h γ _ (enter_holds hr hm hv hn)) fun e a w hq => ?_)
  obtain ⟨γ', s, rfl, h2, h3, h4⟩ := hq
  have key : ∀ r0, ares P fn.results.toList s = some r0 → r0 = r → Left r m' s.m → a.defers = [] ∧ ∃ u, (results fn a.tmps).run P γ'.w = .ok u γ'.w ∧ ∃ v γ'', Ending.returned u = Ending.returned v ∧ γ''.w = γ'.w ∧ γ''.S = m' ∧ Ext γ γ'' ∧ Rl γ'' ∧ VR γ''.cx r v := by
    rintro r0 k1 rfl k3
    obtain ⟨u, u1, u2⟩ := ares_sound h3 k1
    refine ⟨h3.defers, u, u1, ?_⟩
    rcases k3 with hm' | ⟨⟨G, X, hm'⟩, hB, hc⟩
    · exact ⟨u, γ', rfl, rfl, h3.m.trans hm', ExtN.full (by rw [hm]; exact h2), h3.rl, u2⟩
    · have hS : (γ'.cut m'.H.length m'.T.length).S = m' := by
        have := h3.m
        simp only [Ghost.cut, this, hm', List.take_left']
      refine ⟨u, γ'.cut m'.H.length m'.T.length, rfl, rfl, hS, ExtN.full ?_, rl_cut h3.rl ?_, u2.cut hc⟩
      · rw [hm]
        exact h2.trans (ext_cut hH hT)
      · rw [h3.m, hm']
        simpa only [List.take_left'] using hB
  cases e <;> simp only [FnQ] at h4
  all_goals
    obtain ⟨r0, k1, k2, k3⟩ := h4
    exact key r0 k1 k2 k3

/-- The memory that is left, where what is handed back names nothing. -/
def LeftM (m' m : AMem) : Prop := m = m' ∨ (∃ G X, m = ⟨m'.H ++ G, m'.T ++ X⟩) ∧ m'.H.all (cloB m'.H.length m'.T.length) = true
/-- The same, where what is handed back bears no rights. -/
theorem RCall.of_body_s {P : Program} {f : FuncId} {fn : Func} {c : Code} {args : List AVal} {r : AVal} {m m' : AMem} (hf : P.funcs[f]? = some fn) (hb : fn.body = some c) (hen : enterable P f = true) (hn : args.length ≤ fn.ntmps)
    (hH : m.H.length ≤ m'.H.length) (hT : m.T.length ≤ m'.T.length)
    (h : AWp P fn.ntmps m.H.length m.T.length c (FnQ P fn.results.toList fun r0 s => strip r0 = some r ∧ LeftM m' s.m) ⟨envFrom 0 args, m⟩) : RCall P f args m r m' := by
  refine ⟨hen, fun γ vals hr hm hv => ?_⟩
  refine calls_of_wp hf hb (wp_mono (h γ _ (enter_holds hr hm hv hn)) fun e a w hq => ?_)
  obtain ⟨γ', s, rfl, h2, h3, h4⟩ := hq
  have key : ∀ r0, ares P fn.results.toList s = some r0 → strip r0 = some r → LeftM m' s.m → a.defers = [] ∧ ∃ u, (results fn a.tmps).run P γ'.w = .ok u γ'.w ∧ ∃ v γ'', Ending.returned u = Ending.returned v ∧ γ''.w = γ'.w ∧ γ''.S = m' ∧ Ext γ γ'' ∧ Rl γ'' ∧ VR γ''.cx r v := by
    rintro r0 k1 k2 k3
    obtain ⟨u, u1, u2⟩ := ares_sound h3 k1
    refine ⟨h3.defers, u, u1, ?_⟩
    rcases k3 with hm' | ⟨⟨G, X, hm'⟩, hB⟩
    · exact ⟨u, γ', rfl, rfl, h3.m.trans hm', ExtN.full (by rw [hm]; exact h2), h3.rl, strip_sound (fun _ _ _ h => h) u2 _ k2⟩
    · have hS : (γ'.cut m'.H.length m'.T.length).S = m' := by
        have := h3.m
        simp only [Ghost.cut, this, hm', List.take_left']
      refine ⟨u, γ'.cut m'.H.length m'.T.length, rfl, rfl, hS, ExtN.full ?_, rl_cut h3.rl ?_, (strip_sound (fun _ _ _ h => h) u2 _ k2).cut (clo_strip _ _ k2)⟩
      · rw [hm]
        exact h2.trans (ext_cut hH hT)
      · rw [h3.m, hm']
        simpa only [List.take_left'] using hB
  cases e <;> simp only [FnQ] at h4
  all_goals
    obtain ⟨r0, k1, k2, k3⟩ := h4
    exact key r0 k1 k2 k3

end Go.Hk
/- Two functions of the library that the model runs in one step: NoEscape, MakeNoZero. -/
set_option linter.unusedSimpArgs false
set_option linter.unusedVariables false
namespace Go.Hk
open Go.RowKit
theorem vals_one {vals : Array Value} (h : vals.size = 1) : vals = #[vals.getD 0 undef] := by
  match vals, h with
  | ⟨[x]⟩, _ => rfl
theorem ecall_same {P : Program} {f : FuncId} {fn : Func} (hf : P.funcs[f]? = some fn) (hname : (fn.name == "runtime.NumGoroutine") = false) (hb : fn.body.isNone = true) (hn : Extern.findNext fn = none)
    (he : Extern.find fn = some Extern.AbiNoEscape.same) (x : AVal) (T : List (Nat × (Nat × Nat))) : ECall P f [x] T x T := by
  intro γ vals hr hT hv
  obtain ⟨hs, hv⟩ := hv
  refine ⟨vals.getD 0 undef, γ, ?_, Ext.refl γ, hr, ?_, hv 0 (by simp)⟩
  · rw [run_callFunc_extern hf hname hb hn he]
    have hvals := vals_one (vals := vals) (by simpa using hs)
    generalize vals.getD 0 undef = x' at *
    subst hvals
    rfl
  · rw [← hT]
theorem ecall_room {P : Program} {f : FuncId} {fn : Func} {ps : Array TypeId} {t e : TypeId} (hf : P.funcs[f]? = some fn) (hname : (fn.name == "runtime.NumGoroutine") = false) (hb : fn.body.isNone = true) (hn : Extern.findNext fn = none)
    (he : Extern.find fn = some (Extern.BytealgMakeNoZero.makeNoZero ps #[t])) (ht : P.underlying t = some (.slice e)) (n : Nat) (hn2 : n ≤ 281474976710656) (T : List (Nat × (Nat × Nat))) :
    ECall P f [.int .i64 n] T (.sl (.tok T.length) n []) (T ++ [(0, (1, e))]) := by
  intro γ vals hr hT hv
  obtain ⟨hs, hv⟩ := hv
  have h0 := hv 0 (by simp)
  have hvals := vals_one (by simpa using hs)
  simp only [List.getElem_cons_zero] at h0
  generalize vals.getD 0 undef = x at *
  cases h0
  obtain ⟨cs, hrun, hle, _⟩ := Lib.run_makeNoZero (P := P) γ.w ps t e ht n hn2
  have hgw : Grow γ.w (γ.w.drew.drew.alloc (.cells cs e)) := (Grow.drew γ.w).trans ((Grow.drew _).trans (Grow.alloc _ _))
  have hT0 : γ.S.T[γ.S.T.length]? = none := by simp
  have hT1 : (γ.S.T ++ [(0, (1, e))])[γ.S.T.length]? = some (0, (1, e)) := by simp
  have hstep : TokStep γ γ.S.T.length (γ.S.T ++ [(0, (1, e))]) 0 (1, e) (some γ.w.heap.size) cs.size (γ.w.drew.drew.alloc (.cells cs e)) :=
    { os := rfl, tape := rfl, output := rfl, size := hgw.size, at_ := hT1
      other := fun x hx => by
        by_cases h : x < γ.S.T.length
        · rw [List.getElem?_append_left h]
        · rw [List.getElem?_eq_none (by simp; omega), List.getElem?_eq_none (by omega)]
      old := fun tp0 sz0 h0 => by rw [hT0] at h0; cases h0
      block := fun q hq _ => hgw.block q hq
      typed := fun h _ _ => absurd h (by omega)
      tys := fun x ar ty fz hx h => ⟨ar, fz, (hgw.block x (hr.own x (.inr ⟨_, hx⟩)).2).trans h, Nat.le_refl _⟩
      low := fun q _ _ o hown _ _ => World.cell?_of_block (w := γ.w) (hgw.block q (hr.own q (.inr ⟨_, hown⟩)).2)
      new := fun g hg _ => by
        cases hg
        exact ⟨.inr (Nat.le_refl _), by simp, cs, 0, 0, heap_alloc_new _ _, by simp, Nat.zero_le _⟩ }
  have hext := ext_tok hstep
  refine ⟨.slice (some ⟨γ.w.heap.size, 0, none⟩) n cs.size, γ.tok γ.S.T.length (γ.S.T ++ [(0, (1, e))]) (some γ.w.heap.size) cs.size (γ.w.drew.drew.alloc (.cells cs e)), ?_, hext, rl_tok hr hstep, ?_, ?_⟩
  · rw [run_callFunc_extern hf hname hb hn he, hvals, hrun]
    rfl
  · rw [← hT]; rfl
  · rw [← hT]
    refine .sl _ _ _ γ.w.heap.size 0 cs.size (fun _ => undef) hle (fun j hj => absurd hj (by simp)) (fun j hj => absurd hj (by simp)) ⟨⟨0, (1, e), hT1, by simp, fun _ => ⟨?_, ?_⟩, fun h => absurd h (by simp)⟩, .inl rfl⟩
    · show (if _ = _ then _ else _) = _
      rw [if_pos rfl]
    · show (if _ = _ then _ else _) = _
      rw [if_pos rfl]
end Go.Hk
