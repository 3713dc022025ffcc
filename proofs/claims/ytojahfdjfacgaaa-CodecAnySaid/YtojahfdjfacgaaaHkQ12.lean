/- Calls: what a callee is handed, and what it hands back. -/
import Derived.Test.YtojahfdjfacgaaaHkQ11
namespace Go.Hk
open Go.RowKit

mutual
/-- A value without rights and without memory that may be written: the same for whoever holds it. -/
def strip : AVal → Option AVal
  | .sl _ n cs => (match stripL cs with | some ds => some (.sl .no n ds) | none => none)
  | .agg cs => (match stripL cs with | some ds => some (.agg ds) | none => none)
  | .ipt cs o => (match stripL cs with | some ds => some (.ipt ds o) | none => none)
  | .fn f a b => (match stripL a, stripL b with | some x, some y => some (.fn f x y) | _, _ => none)
  | .ifc t v => (match strip v with | some u => some (.ifc t u) | none => none)
  | .tup a vs => (match strip a, stripL vs with | some x, some y => some (.tup x y) | _, _ => none)
  | .ptr _ _ _ => none
  | .msl _ _ _ _ _ => none
  | .map _ => none
  | .dead => some .dead
  | .undef => some .undef
  | .bool b => some (.bool b)
  | .int k n => some (.int k n)
  | .str s => some (.str s)
  | .nilp => some .nilp
  | .nilm => some .nilm
  | .nilf => some .nilf
  | .nili => some .nili
  | .dpt _ _ => none
  | .tpt _ _ _ => none
  | .yld _ => none
def stripL : List AVal → Option (List AVal)
  | [] => some []
  | v :: vs => (match strip v, stripL vs with | some x, some y => some (x :: y) | _, _ => none)
end

theorem stripL_spec : ∀ (cs ds : List AVal), stripL cs = some ds → ds.length = cs.length ∧ ∀ (j : Nat) (h : j < cs.length) (h' : j < ds.length), strip cs[j] = some ds[j]
  | [], ds, h => by
    simp only [stripL, Option.some.injEq] at h; subst h
    exact ⟨rfl, fun j h => absurd h (Nat.not_lt_zero j)⟩
  | c :: cs, ds, h => by
    simp only [stripL] at h
    split at h
    · rename_i x y hx hy
      simp only [Option.some.injEq] at h; subst h
      obtain ⟨h1, h2⟩ := stripL_spec cs y hy
      refine ⟨by simp [h1], fun j hj hj' => ?_⟩
      cases j with
      | zero => exact hx
      | succ j => exact h2 j (Nat.lt_of_succ_lt_succ hj) (Nat.lt_of_succ_lt_succ hj')
    · cases h

theorem strip_sound {κ κ' : Cx} (hk : ∀ g o v, κ.cell g o v → κ'.cell g o v) {a : AVal} {v : Value} (h : VR κ a v) : ∀ a', strip a = some a' → VR κ' a' v := by
  have lst : ∀ {cs ds : List AVal} {f : Nat → Value}, stripL cs = some ds → (∀ (j : Nat) (h : j < cs.length), ∀ a', strip cs[j] = some a' → VR κ' a' (f j)) → ds.length = cs.length ∧ ∀ (j : Nat) (h : j < ds.length), VR κ' ds[j] (f j) := by
    intro cs ds f hs ih
    obtain ⟨h1, h2⟩ := stripL_spec cs ds hs
    exact ⟨h1, fun j hj => ih j (by omega) _ (h2 j (by omega) hj)⟩
  induction h with
  | dead v => intro a' h; simp only [strip, Option.some.injEq] at h; subst h; exact .dead v
  | undef => intro a' h; simp only [strip, Option.some.injEq] at h; subst h; exact .undef
  | bool b => intro a' h; simp only [strip, Option.some.injEq] at h; subst h; exact .bool b
  | int k n => intro a' h; simp only [strip, Option.some.injEq] at h; subst h; exact .int k n
  | str s => intro a' h; simp only [strip, Option.some.injEq] at h; subst h; exact .str s
  | nilp => intro a' h; simp only [strip, Option.some.injEq] at h; subst h; exact .nilp
  | nilm => intro a' h; simp only [strip, Option.some.injEq] at h; subst h; exact .nilm
  | nilf => intro a' h; simp only [strip, Option.some.injEq] at h; subst h; exact .nilf
  | nili => intro a' h; simp only [strip, Option.some.injEq] at h; subst h; exact .nili
  | ptr b e o g c hb => intro a' h; simp [strip] at h
  | dpz t p => intro a' h; simp [strip] at h
  | tpt t b n g c hb ho => intro a' h; simp [strip] at h
  | yld b g c hb => intro a' h; simp [strip] at h
  | dpt t cs g f hc hv ho ih => intro a' h; simp [strip] at h
  | msl b e o n k g c cap hb hn ho => intro a' h; simp [strip] at h
  | map b g c hb => intro a' h; simp [strip] at h
  | ipt cs o g k f hc hv ih =>
    intro a' h
    simp only [strip] at h
    split at h
    · rename_i ds hds
      simp only [Option.some.injEq] at h; subst h
      obtain ⟨h1, h2⟩ := lst hds ih
      exact .ipt ds o g k f (fun j hj => hk _ _ _ (hc j (by omega))) h2
    · cases h
  | slnil r hr =>
    intro a' h
    simp only [strip, stripL, Option.some.injEq] at h; subst h
    exact .slnil .no trivial
  | slz a cap =>
    intro a' h
    simp only [strip, stripL, Option.some.injEq] at h; subst h
    exact .slz a cap
  | sl r n cs g k cap f hn hc hv hr ih =>
    intro a' h
    simp only [strip] at h
    split at h
    · rename_i ds hds
      simp only [Option.some.injEq] at h; subst h
      obtain ⟨h1, h2⟩ := lst hds ih
      exact .sl .no n ds g k cap f hn (fun j hj => hk _ _ _ (hc j (by omega))) h2 trivial
    · cases h
  | fn f x y xs ys h1 h2 hx hy ihx ihy =>
    intro a' h
    simp only [strip] at h
    split at h
    · rename_i u w hu hw
      simp only [Option.some.injEq] at h; subst h
      obtain ⟨a1, a2⟩ := lst hu ihx
      obtain ⟨b1, b2⟩ := lst hw ihy
      exact .fn f u w xs ys (by omega) (by omega) a2 b2
    · cases h
  | ifc t a v _ ih =>
    intro a' h
    simp only [strip] at h
    split at h
    · rename_i u hu
      simp only [Option.some.injEq] at h; subst h
      exact .ifc t u v (ih _ hu)
    · cases h
  | agg cs vs hs hv ho ih =>
    intro a' h
    simp only [strip] at h
    split at h
    · rename_i ds hds
      simp only [Option.some.injEq] at h; subst h
      obtain ⟨h1, h2⟩ := lst hds ih
      exact .agg ds vs (by omega) h2 (fun j hj => ho j (by omega))
    · cases h
  | tup a cs vs hs hv ih =>
    intro a' h
    simp only [strip] at h
    split at h
    · rename_i x y hx hy
      simp only [Option.some.injEq] at h; subst h
      have hxy : stripL (a :: cs) = some (x :: y) := by simp only [stripL, hx, hy]
      obtain ⟨h1, h2⟩ := lst hxy ih
      exact .tup x y vs (by omega) h2
    · cases h

def optMap (f : AVal → Option AVal) : List AVal → Option (List AVal)
  | [] => some []
  | v :: vs => (match f v, optMap f vs with | some x, some y => some (x :: y) | _, _ => none)

/-- A value ars it reads now. -/
def view : Nat → AMem → AVal → Option AVal
  | 0, _, v => strip v
  | n + 1, m, v =>
    match strip v with
    | some u => some u
    | none =>
      match v with
      | .ptr b e o => (match m.H[b]? with
        | some (.cells e' cs) => if e = e' then (match optMap (view n m) cs with | some ds => some (.ipt ds o) | none => none) else none
        | _ => none)
      | .msl b e o k l => (match m.H[b]? with
        | some (.cells e' cs) => if e = e' ∧ o + l ≤ cs.length then (match optMap (view n m) ((cs.drop o).take l) with | some ds => some (.sl .no k ds) | none => none) else none
        | _ => none)
      | .sl _ k cs => (match optMap (view n m) cs with | some ds => some (.sl .no k ds) | none => none)
      | .agg cs => (match optMap (view n m) cs with | some ds => some (.agg ds) | none => none)
      | .tup a vs => (match view n m a, optMap (view n m) vs with | some x, some y => some (.tup x y) | _, _ => none)
      | .fn f a b => (match optMap (view n m) a, optMap (view n m) b with | some x, some y => some (.fn f x y) | _, _ => none)
      | _ => none

theorem optMap_spec {f : AVal → Option AVal} : ∀ (cs ds : List AVal), optMap f cs = some ds → ds.length = cs.length ∧ ∀ (j : Nat) (h : j < cs.length) (h' : j < ds.length), f cs[j] = some ds[j]
  | [], ds, h => by
    simp only [optMap, Option.some.injEq] at h; subst h
    exact ⟨rfl, fun j h => absurd h (Nat.not_lt_zero j)⟩
  | c :: cs, ds, h => by
    simp only [optMap] at h
    split at h
    · rename_i x y hx hy
      simp only [Option.some.injEq] at h; subst h
      obtain ⟨h1, h2⟩ := optMap_spec cs y hy
      refine ⟨by simp [h1], fun j hj hj' => ?_⟩
      cases j with
      | zero => exact hx
      | succ j => exact h2 j (Nat.lt_of_succ_lt_succ hj) (Nat.lt_of_succ_lt_succ hj')
    · cases h

/-- All that was owned is let go: nobody will write it any more. -/
def Ghost.drop (γ : Ghost) : Ghost := { γ with S := ⟨[], []⟩ }

theorem drop_noblk {γ : Ghost} {b g : Nat} : ¬ γ.drop.blkOwns b g := fun h => absurd h.1 (Nat.not_lt_zero b)
theorem drop_notok {γ : Ghost} {t g : Nat} : ¬ γ.drop.tokOwns t g := fun ⟨_, _, h, _⟩ => by simp [Ghost.drop] at h

theorem drop_cell {γ : Ghost} {g o : Nat} {v : Value} (h : γ.cell g o v) : γ.drop.cell g o v := ⟨h.1, h.2.1, h.2.2.1, fun _ h => drop_noblk h, fun _ h => absurd h drop_notok⟩

theorem rl_drop {γ : Ghost} (hr : Rl γ) : Rl γ.drop where
  lo := hr.lo
  bad := hr.bad
  objs := fun b x h => by simp [Ghost.drop] at h
  its := fun b mb l c h => by simp [Ghost.drop] at h
  toks := fun t g h => absurd h drop_notok
  own := fun g h => by
    rcases h with ⟨b, h⟩ | ⟨t, h⟩
    · exact absurd h drop_noblk
    · exact absurd h drop_notok
  hh := fun b b' g h => absurd h drop_noblk
  ht := fun b t g h => absurd h drop_noblk
  tt := fun t t' g h => absurd h drop_notok

theorem view_sound {γ : Ghost} (hr : Rl γ) : ∀ (n : Nat) (a a' : AVal) (v : Value), view n γ.S a = some a' → VR γ.cx a v → VR γ.drop.cx a' v := by
  intro n
  induction n with
  | zero => intro a a' v h hv; exact strip_sound (fun _ _ _ h => drop_cell h) hv a' h
  | succ n ih =>
    intro a a' v h hv
    have lst : ∀ {cs ds : List AVal} {f : Nat → Value}, optMap (view n γ.S) cs = some ds → (∀ (j : Nat) (h : j < cs.length), VR γ.cx cs[j] (f j)) → ds.length = cs.length ∧ ∀ (j : Nat) (h : j < ds.length), VR γ.drop.cx ds[j] (f j) := by
      intro cs ds f hs hvv
      obtain ⟨h1, h2⟩ := optMap_spec cs ds hs
      exact ⟨h1, fun j hj => ih _ _ _ (h2 j (by omega) hj) (hvv j (by omega))⟩
    unfold view at h
    cases hs : strip a with
    | some u =>
      simp only [hs, Option.some.injEq] at h; subst h
      exact strip_sound (fun _ _ _ h => drop_cell h) hv _ hs
    | none =>
      simp only [hs] at h
      cases a <;> simp only [reduceCtorEq] at h
      case ptr b e o =>
        split at h
        case h_2 => cases h
        rename_i e' cs hb
        split at h
        case isFalse => cases h
        rename_i he; subst he
        split at h
        case h_2 => cases h
        rename_i ds hds
        simp only [Option.some.injEq] at h; subst h
        obtain ⟨arr, ty, k1, k2, _, k4, k5⟩ := hr.cells b e cs hb
        obtain ⟨h1, h2⟩ := lst hds k4
        cases hv with
        | ptr _ _ _ g c hblk =>
          obtain ⟨y, hy, _, hy2⟩ := hblk
          rw [hb] at hy
          cases hy
          obtain ⟨rfl, _⟩ := hy2 rfl
          have hlt : b < γ.S.H.length := (List.getElem?_eq_some_iff.1 hb).1
          have hlo := (hr.own _ (.inl ⟨b, hlt, rfl⟩)).1
          have := VR.ipt (κ := γ.drop.cx) ds o (γ.ι.h b) 0 (fun j => arr.getD j undef) (fun j hj => by
            rw [Nat.zero_add]
            have hj' : j < arr.size := by omega
            refine ⟨?_, k5 j (by omega), fun hbad => ?_, fun _ h => drop_noblk h, fun _ h => absurd h drop_notok⟩
            · show γ.w.cell? _ = _
              rw [cell_of_row _ _ _ _ _ _ k1]; simp [Array.getD, hj']
            · have := hr.bad _ _ hbad; omega) h2
          simpa using this
      case msl b e o k l =>
        split at h
        case h_2 => cases h
        rename_i e' cs hb
        split at h
        case isFalse => cases h
        rename_i he
        obtain ⟨rfl, hol⟩ := he
        split at h
        case h_2 => cases h
        rename_i ds hds
        simp only [Option.some.injEq] at h; subst h
        obtain ⟨arr, ty, k1, k2, _, k4, k5⟩ := hr.cells b e cs hb
        obtain ⟨h1, h2⟩ := lst (f := fun j => arr.getD (o + j) undef) hds (fun j hj => by
          simp only [List.length_take, List.length_drop] at hj
          simp only [List.getElem_take, List.getElem_drop]
          exact k4 _ (by omega))
        simp only [List.length_take, List.length_drop] at h1
        cases hv with
        | msl _ _ _ _ _ g c cap hblk hn ho =>
          obtain ⟨y, hy, _, hy2⟩ := hblk
          rw [hb] at hy
          cases hy
          obtain ⟨rfl, _⟩ := hy2 rfl
          have hlt : b < γ.S.H.length := (List.getElem?_eq_some_iff.1 hb).1
          have hlo := (hr.own _ (.inl ⟨b, hlt, rfl⟩)).1
          refine .sl .no k ds (γ.ι.h b) o cap (fun j => arr.getD (o + j) undef) hn (fun j hj => ?_) h2 trivial
          have hj' : o + j < arr.size := by omega
          refine ⟨?_, k5 _ (by omega), fun hbad => ?_, fun _ h => drop_noblk h, fun _ h => absurd h drop_notok⟩
          · show γ.w.cell? _ = _
            rw [cell_of_row _ _ _ _ _ _ k1]; simp [Array.getD, hj']
          · have := hr.bad _ _ hbad; omega
      case sl r k cs =>
        split at h
        case h_2 => cases h
        rename_i ds hds
        simp only [Option.some.injEq] at h; subst h
        cases hv with
        | slnil _ _ => simp only [optMap, Option.some.injEq] at hds; subst hds; exact .slnil .no trivial
        | slz a cap => simp only [optMap, Option.some.injEq] at hds; subst hds; exact .slz a cap
        | sl _ _ _ g o cap f hn hc hvv _ =>
          obtain ⟨h1, h2⟩ := lst hds hvv
          exact .sl .no k ds g o cap f hn (fun j hj => drop_cell (hc j (by omega))) h2 trivial
      case agg cs =>
        split at h
        case h_2 => cases h
        rename_i ds hds
        simp only [Option.some.injEq] at h; subst h
        cases hv with
        | agg _ vs hsz hvv ho =>
          obtain ⟨h1, h2⟩ := lst hds hvv
          exact .agg ds vs (by omega) h2 (fun j hj => ho j (by omega))
      case tup a cs =>
        split at h
        case h_2 => cases h
        rename_i x y hx hy
        simp only [Option.some.injEq] at h; subst h
        cases hv with
        | tup _ _ vs hsz hvv =>
          have hxy : optMap (view n γ.S) (a :: cs) = some (x :: y) := by simp only [optMap, hx, hy]
          obtain ⟨h1, h2⟩ := lst hxy hvv
          exact .tup x y vs (by omega) h2
      case fn f x y =>
        split at h
        case h_2 => cases h
        rename_i u w hu hw
        simp only [Option.some.injEq] at h; subst h
        cases hv with
        | fn _ _ _ xs ys h1 h2 hx hy =>
          obtain ⟨a1, a2⟩ := lst hu hx
          obtain ⟨b1, b2⟩ := lst hw hy
          exact .fn f u w xs ys (by omega) (by omega) a2 b2

/-- What a caller owns counts, for whom it calls, ars what must not be leant on. -/
def Ghost.stab (γ : Ghost) : Ghost :=
  { bad := fun g o => γ.bad g o ∨ (g < γ.w.heap.size ∧ ((∃ b, γ.blkOwns b g) ∨ ∃ t tp sz, γ.tokOwns t g ∧ γ.S.T[t]? = some (tp, sz) ∧ tp ≤ o)), lo := γ.w.heap.size, S := ⟨[], []⟩, ι := γ.ι, w := γ.w }

theorem empty_noblk {γ : Ghost} (h : γ.S = ⟨[], []⟩) {b g : Nat} : ¬ γ.blkOwns b g := fun hb => by have := hb.1; rw [h] at this; exact absurd this (Nat.not_lt_zero b)
theorem empty_notok {γ : Ghost} (h : γ.S = ⟨[], []⟩) {t g : Nat} : ¬ γ.tokOwns t g := fun ⟨_, _, h1, _⟩ => by rw [h] at h1; simp at h1
theorem empty_noown {γ : Ghost} (h : γ.S = ⟨[], []⟩) {g : Nat} : ¬ γ.owns g := fun ho => by
  rcases ho with ⟨b, hb⟩ | ⟨t, ht⟩
  · exact empty_noblk h hb
  · exact empty_notok h ht

theorem stab_cell {γ : Ghost} {g o : Nat} {v : Value} (h : γ.cell g o v) : γ.stab.cell g o v := by
  refine ⟨h.1, h.2.1, fun hb => ?_, fun b hb => empty_noblk rfl hb, fun t ht => absurd ht (empty_notok rfl)⟩
  rcases hb with hb | ⟨_, ⟨b, hb⟩ | ⟨t, tp, sz, ht, h1, h2⟩⟩
  · exact h.2.2.1 hb
  · exact h.2.2.2.1 b hb
  · obtain ⟨tp', sz', h3, h4⟩ := h.2.2.2.2 t ht
    rw [h1] at h3
    cases h3
    omega

theorem rl_stab {γ : Ghost} (hr : Rl γ) : Rl γ.stab where
  lo := Nat.le_refl _
  bad := fun g o h => by
    rcases h with h | h
    · have h1 := hr.bad g o h; have h2 := hr.lo; show g < γ.w.heap.size; omega
    · exact h.1
  objs := fun b x h => by simp [Ghost.stab] at h
  its := fun b mb l c h => by simp [Ghost.stab] at h
  toks := fun t g h => absurd h (empty_notok rfl)
  own := fun g h => absurd h (empty_noown rfl)
  hh := fun b b' g h => absurd h (empty_noblk rfl)
  ht := fun b t g h => absurd h (empty_noblk rfl)
  tt := fun t t' g h => absurd h (empty_notok rfl)

theorem ext_empty_grow {γ γ' : Ghost} (h : γ.S = ⟨[], []⟩) (hl : γ.w.heap.size ≤ γ.lo) (he : Ext γ γ') : Grow γ.w γ'.w :=
  ⟨he.os, he.tape, he.output, he.size, fun k hk => by
    rcases he.frame k hk (empty_noown h) with h1 | ⟨h1, _⟩
    · exact h1
    · omega⟩

mutual
theorem strip_idem : ∀ (v u : AVal), strip v = some u → strip u = some u
  | .sl r n cs, u, hu => by
    simp only [strip] at hu
    split at hu
    · rename_i ds hds; cases hu; simp only [strip, stripL_idem cs ds hds]
    · cases hu
  | .agg cs, u, hu => by
    simp only [strip] at hu
    split at hu
    · rename_i ds hds; cases hu; simp only [strip, stripL_idem cs ds hds]
    · cases hu
  | .ipt cs o, u, hu => by
    simp only [strip] at hu
    split at hu
    · rename_i ds hds; cases hu; simp only [strip, stripL_idem cs ds hds]
    · cases hu
  | .fn f a b, u, hu => by
    simp only [strip] at hu
    split at hu
    · rename_i x y hx hy; cases hu; simp only [strip, stripL_idem a x hx, stripL_idem b y hy]
    · cases hu
  | .ifc _ v, u, hu => by
    simp only [strip] at hu
    split at hu
    · rename_i x hx; cases hu; simp only [strip, strip_idem v x hx]
    · cases hu
  | .tup a cs, u, hu => by
    simp only [strip] at hu
    split at hu
    · rename_i x y hx hy; cases hu; simp only [strip, strip_idem a x hx, stripL_idem cs y hy]
    · cases hu
  | .ptr _ _ _, u, hu => by simp [strip] at hu
  | .msl _ _ _ _ _, u, hu => by simp [strip] at hu
  | .map _, u, hu => by simp [strip] at hu
  | .dpt _ _, u, hu => by simp [strip] at hu
  | .tpt _ _ _, u, hu => by simp [strip] at hu
  | .yld _, u, hu => by simp [strip] at hu
  | .dead, u, hu => by simp only [strip] at hu; cases hu; rfl
  | .undef, u, hu => by simp only [strip] at hu; cases hu; rfl
  | .bool _, u, hu => by simp only [strip] at hu; cases hu; rfl
  | .int _ _, u, hu => by simp only [strip] at hu; cases hu; rfl
  | .str _, u, hu => by simp only [strip] at hu; cases hu; rfl
  | .nilp, u, hu => by simp only [strip] at hu; cases hu; rfl
  | .nilm, u, hu => by simp only [strip] at hu; cases hu; rfl
  | .nilf, u, hu => by simp only [strip] at hu; cases hu; rfl
  | .nili, u, hu => by simp only [strip] at hu; cases hu; rfl
theorem stripL_idem : ∀ (vs us : List AVal), stripL vs = some us → stripL us = some us
  | [], us, hu => by simp only [stripL] at hu; cases hu; rfl
  | v :: vs, us, hu => by
    simp only [stripL] at hu
    split at hu
    · rename_i x y hx hy; cases hu; simp only [stripL, strip_idem v x hx, stripL_idem vs y hy]
    · cases hu
end
theorem stripL_all : ∀ {l : List AVal}, (∀ u ∈ l, strip u = some u) → stripL l = some l
  | [], _ => rfl
  | v :: l, h => by
    have h1 := h v List.mem_cons_self
    have h2 := stripL_all (l := l) fun u hu => h u (List.mem_cons_of_mem v hu)
    simp only [stripL, h1, h2]
theorem optMap_mem {f : AVal → Option AVal} : ∀ {l r : List AVal}, optMap f l = some r → ∀ u ∈ r, ∃ v ∈ l, f v = some u
  | [], r, h, u, hu => by simp only [optMap, Option.some.injEq] at h; subst h; cases hu
  | v :: l, r, h, u, hu => by
    simp only [optMap] at h
    split at h
    · rename_i x y hx hy
      cases h
      rcases List.mem_cons.1 hu with rfl | hu
      · exact ⟨v, by simp, hx⟩
      · obtain ⟨w, h1, h2⟩ := optMap_mem hy u hu
        exact ⟨w, by simp [h1], h2⟩
    · cases h
theorem view_idem {m : AMem} : ∀ (n : Nat) (v u : AVal), view n m v = some u → strip u = some u
  | 0, v, u, h => strip_idem v u h
  | n + 1, v, u, h => by
    have key : ∀ {l r : List AVal}, optMap (view n m) l = some r → stripL r = some r := fun h => stripL_all fun u hu => by
      obtain ⟨v, _, h2⟩ := optMap_mem h u hu
      exact view_idem n v u h2
    unfold view at h
    cases hs : strip v with
    | some w => simp only [hs, Option.some.injEq] at h; subst h; exact strip_idem v _ hs
    | none =>
      simp only [hs] at h
      cases v <;> simp only [reduceCtorEq] at h
      case ptr b e o =>
        split at h
        case h_2 => cases h
        split at h
        case isFalse => cases h
        split at h
        case h_2 => cases h
        rename_i ds hds
        cases h
        simp only [strip, key hds]
      case msl b e o k l =>
        split at h
        case h_2 => cases h
        split at h
        case isFalse => cases h
        split at h
        case h_2 => cases h
        rename_i ds hds
        cases h
        simp only [strip, key hds]
      case sl r k cs =>
        split at h
        case h_2 => cases h
        rename_i ds hds
        cases h
        simp only [strip, key hds]
      case agg cs =>
        split at h
        case h_2 => cases h
        rename_i ds hds
        cases h
        simp only [strip, key hds]
      case tup a vs =>
        split at h
        case h_2 => cases h
        rename_i x y hx hy
        cases h
        simp only [strip, view_idem n a x hx, key hy]
      case fn f a b =>
        split at h
        case h_2 => cases h
        rename_i x y hx hy
        cases h
        simp only [strip, key hx, key hy]
/-- All is let go, and nothing of today will be frozen. -/
def Ghost.drops (γ : Ghost) : Ghost := { γ.drop with lo := γ.w.heap.size }
theorem rl_drops {γ : Ghost} (hr : Rl γ) : Rl γ.drops where
  lo := Nat.le_refl _
  bad := fun g o h => Nat.lt_of_lt_of_le (hr.bad g o h) hr.lo
  objs := fun b x h => by simp [Ghost.drops, Ghost.drop] at h
  its := fun b mb l c h => by simp [Ghost.drops, Ghost.drop] at h
  toks := fun t g h => absurd h (empty_notok rfl)
  own := fun g h => absurd h (empty_noown rfl)
  hh := fun b b' g h => absurd h (empty_noblk rfl)
  ht := fun b t g h => absurd h (empty_noblk rfl)
  tt := fun t t' g h => absurd h (empty_notok rfl)

def VRs (κ : Cx) (args : List AVal) (vals : Array Value) : Prop := vals.size = args.length ∧ ∀ (j : Nat) (h : j < args.length), VR κ args[j] (vals.getD j undef)

def enterable (P : Program) (f : FuncId) : Bool :=
  match P.funcs[f]? with
  | some fn => fn.name != "runtime.NumGoroutine" && fn.body.isSome
  | none => false

/-- A call does what is said: with this memory it hands back r, and leaves that memory. -/
def RCall (P : Program) (f : FuncId) (args : List AVal) (m : AMem) (r : AVal) (m' : AMem) : Prop :=
  enterable P f = true ∧ ∀ γ vals, Rl γ → γ.S = m → VRs γ.cx args vals →
    Calls P f vals γ.w fun e w' => ∃ v γ', e = .returned v ∧ γ'.w = w' ∧ γ'.S = m' ∧ Ext γ γ' ∧ Rl γ' ∧ VR γ'.cx r v

/-- A call that looks at nothing but its arguments. -/
def PCall (P : Program) (f : FuncId) (args : List AVal) (r : AVal) : Prop := RCall P f args ⟨[], []⟩ r ⟨[], []⟩

mutual
def flat : AVal → Bool
  | .agg cs => flatL cs
  | .tup a vs => flat a && flatL vs
  | .undef | .bool _ | .int _ _ | .str _ | .nilp | .nilm | .nilf | .nili => true
  | _ => false
def flatL : List AVal → Bool
  | [] => true
  | v :: vs => flat v && flatL vs
end

theorem flatL_spec : ∀ (cs : List AVal), flatL cs = true → ∀ (j : Nat) (h : j < cs.length), flat cs[j] = true
  | [], _, j, h => absurd h (Nat.not_lt_zero j)
  | c :: cs, hf, j, h => by
    simp only [flatL, Bool.and_eq_true] at hf
    cases j with
    | zero => exact hf.1
    | succ j => exact flatL_spec cs hf.2 j (Nat.lt_of_succ_lt_succ h)

theorem flat_sound {κ κ' : Cx} {a : AVal} {v : Value} (h : VR κ a v) : flat a = true → VR κ' a v := by
  induction h with
  | undef => exact fun _ => .undef
  | bool b => exact fun _ => .bool b
  | int k n => exact fun _ => .int k n
  | str s => exact fun _ => .str s
  | nilp => exact fun _ => .nilp
  | nilm => exact fun _ => .nilm
  | nilf => exact fun _ => .nilf
  | nili => exact fun _ => .nili
  | agg cs vs hs hv ho ih =>
    intro hf
    simp only [flat] at hf
    exact .agg cs vs hs (fun j hj => ih j hj (flatL_spec cs hf j hj)) ho
  | tup a cs vs hs hv ih =>
    intro hf
    have hf' : flatL (a :: cs) = true := by simpa [flat, flatL] using hf
    exact .tup a cs vs hs (fun j hj => ih j hj (flatL_spec _ hf' j hj))
  | _ => intro hf; simp [flat] at hf

/-- A call that looks at nothing but its arguments, in a caller's memory. -/
theorem PCall.stable {P : Program} {f : FuncId} {args ars : List AVal} {r : AVal} {m : AMem} (h : PCall P f ars r) (hs : stripL args = some ars) : RCall P f args m r m := by
  refine ⟨h.1, fun γ vals hr hm hv => ?_⟩
  obtain ⟨h1, h2⟩ := stripL_spec _ _ hs
  refine (h.2 γ.stab vals (rl_stab hr) rfl ⟨by rw [h1]; exact hv.1, fun j hj => strip_sound (fun _ _ _ h => stab_cell h) (hv.2 j (by omega)) _ (h2 j (by omega) hj)⟩).mono ?_
  rintro e w' ⟨v, γ', rfl, rfl, hS, hext, hrl, hvr⟩
  have hg : Grow γ.w γ'.w := ext_empty_grow (γ := γ.stab) rfl (Nat.le_refl _) hext
  refine ⟨v, { γ with w := γ'.w }, rfl, rfl, hm, ext_grow hg, rl_grow hr hg, hvr.mono ⟨fun g o u hc => ?_, fun b e g c hb => ?_, fun t len b c ht => ?_, fun g t n ho => ?_⟩⟩
  · have hb : γ'.bad = γ.stab.bad := hext.bad
    have hnb : ¬ γ.stab.bad g o := by rw [← hb]; exact hc.2.2.1
    refine ⟨hc.1, hc.2.1, fun h => hnb (.inl h), fun b hbo => ?_, fun t ht => ?_⟩
    · exact hnb (.inr ⟨(hr.own g (.inl ⟨b, hbo⟩)).2, .inl ⟨b, hbo⟩⟩)
    · have ht' : γ.tokOwns t g := ht
      obtain ⟨tp, sz, a1, a2, a3⟩ := ht'
      refine ⟨tp, sz, a1, ?_⟩
      rcases Nat.lt_or_ge o tp with h | h
      · exact h
      · exact absurd (.inr ⟨(hr.own g (.inr ⟨t, ht⟩)).2, .inr ⟨t, tp, sz, ht, a1, h⟩⟩) hnb
  · obtain ⟨y, hy, _⟩ := hb
    rw [hS] at hy
    simp at hy
  · obtain ⟨y, z, hy, _⟩ := ht
    rw [hS] at hy
    simp at hy
  · obtain ⟨h1, h2⟩ := ho
    rw [hext.lo] at h1
    exact ⟨Nat.le_trans hr.lo h1, h2⟩

/-- The same, where it looks at what the caller may write, and hands back numbers and the like alone. -/
theorem PCall.viewed {P : Program} {f : FuncId} {args ars : List AVal} {r : AVal} {m : AMem} {n : Nat} (h : PCall P f ars r) (hs : optMap (view n m) args = some ars) (hf : flat r = true) : RCall P f args m r m := by
  refine ⟨h.1, fun γ vals hr hm hv => ?_⟩
  subst hm
  obtain ⟨h1, h2⟩ := optMap_spec _ _ hs
  refine (h.2 γ.drops vals (rl_drops hr) rfl ⟨by rw [h1]; exact hv.1, fun j hj => by
    have hj' : j < args.length := by omega
    have hvw := h2 j hj' hj
    exact strip_sound (κ := γ.drop.cx) (κ' := γ.drops.cx) (fun g o v hc => hc) (view_sound hr _ _ _ _ hvw (hv.2 j hj')) _ (view_idem _ _ _ hvw)⟩).mono ?_
  rintro e w' ⟨v, γ', rfl, rfl, hS, hext, hrl, hvr⟩
  have hg : Grow γ.w γ'.w := ext_empty_grow (γ := γ.drops) rfl (Nat.le_refl _) hext
  exact ⟨v, { γ with w := γ'.w }, rfl, rfl, rfl, ext_grow hg, rl_grow hr hg, flat_sound hvr hf⟩

/-- A function of the library's own, that the model runs in one step: what it gives, and what memory it leaves. -/
def LCall (P : Program) (f : FuncId) (args : List AVal) (m : AMem) (r : AVal) (m' : AMem) : Prop :=
  ∀ (γ : Ghost) vals, Rl γ → γ.S = m → VRs γ.cx args vals → ∃ v γ', (callFunc f vals).run P γ.w = .ok (.value v) γ'.w ∧ Ext γ γ' ∧ Rl γ' ∧ γ'.S = m' ∧ VR γ'.cx r v
/-- A function of the library's own, that the model runs in one step: what it gives, and what it takes for itself. -/
def ECall (P : Program) (f : FuncId) (args : List AVal) (T : List (Nat × (Nat × Nat))) (r : AVal) (T' : List (Nat × (Nat × Nat))) : Prop :=
  ∀ (γ : Ghost) vals, Rl γ → γ.S.T = T → VRs γ.cx args vals → ∃ v γ', (callFunc f vals).run P γ.w = .ok (.value v) γ'.w ∧ Ext γ γ' ∧ Rl γ' ∧ γ'.S = ⟨γ.S.H, T'⟩ ∧ VR γ'.cx r v

end Go.Hk
