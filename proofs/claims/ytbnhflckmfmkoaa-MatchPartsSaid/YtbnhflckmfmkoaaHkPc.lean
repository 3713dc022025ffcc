import Derived.Test.YtbnhflckmfmkoaaHkPb
import Derived.OrdersIn
import Derived.TacticsIn
import Derived.RangeFuncRecord
import Derived.Laws.Externs
import Derived.Lib.MakeNoZero
/- Calls: what a callee is handed, and what it hands back. -/
namespace Go.Hk
open Go.RowKit

mutual
/-- A value without rights and without memory that may be written: the same for whoever holds it. -/
def strip : AVal → Option AVal
  | .sl _ n cs => (match stripL cs with | some ds => some (.sl .no n ds) | none => none)
  | .agg cs => (match stripL cs with | some ds => some (.agg ds) | none => none)
  | .ipt cs o => (match stripL cs with | some ds => some (.ipt ds o) | none => none)
  | .fn f a b => (match stripL a, stripL b with | some x, some y => some (.fn f x y) | _, _ => none)
  | .ifc t v => (match strip v with | some u => some (.ifc t u) | none => none)
  | .tup a vs => (match strip a, stripL vs with | some x, some y => some (.tup x y) | _, _ => none)
  | .ptr _ _ _ => none
  | .msl _ _ _ _ _ => none
  | .map _ => none
  | .dead => some .dead
  | .undef => some .undef
  | .bool b => some (.bool b)
  | .int k n => some (.int k n)
  | .str s => some (.str s)
  | .nilp => some .nilp
  | .nilm => some .nilm
  | .nilf => some .nilf
  | .nili => some .nili
  | .dpt _ _ => none
  | .tpt _ _ _ => none
  | .yld _ => none
def stripL : List AVal → Option (List AVal)
  | [] => some []
  | v :: vs => (match strip v, stripL vs with | some x, some y => some (x :: y) | _, _ => none)
end

theorem stripL_spec : ∀ (cs ds : List AVal), stripL cs = some ds → ds.length = cs.length ∧ ∀ (j : Nat) (h : j < cs.length) (h' : j < ds.length), strip cs[j] = some ds[j]
  | [], ds, h => by
    simp only [stripL, Option.some.injEq] at h; subst h
    exact ⟨rfl, fun j h => absurd h (Nat.not_lt_zero j)⟩
  | c :: cs, ds, h => by
    simp only [stripL] at h
    split at h
    · rename_i x y hx hy
      simp only [Option.some.injEq] at h; subst h
      obtain ⟨h1, h2⟩ := stripL_spec cs y hy
      refine ⟨by simp [h1], fun j hj hj' => ?_⟩
      cases j with
      | zero => exact hx
      | succ j => exact h2 j (Nat.lt_of_succ_lt_succ hj) (Nat.lt_of_succ_lt_succ hj')
    · cases h

theorem strip_sound {κ κ' : Cx} (hk : ∀ g o v, κ.cell g o v → κ'.cell g o v) {a : AVal} {v : Value} (h : VR κ a v) : ∀ a', strip a = some a' → VR κ' a' v := by
  have lst : ∀ {cs ds : List AVal} {f : Nat → Value}, stripL cs = some ds → (∀ (j : Nat) (h : j < cs.length), ∀ a', strip cs[j] = some a' → VR κ' a' (f j)) → ds.length = cs.length ∧ ∀ (j : Nat) (h : j < ds.length), VR κ' ds[j] (f j) := by
    intro cs ds f hs ih
    obtain ⟨h1, h2⟩ := stripL_spec cs ds hs
    exact ⟨h1, fun j hj => ih j (by omega) _ (h2 j (by omega) hj)⟩
  induction h with
  | dead v => intro a' h; simp only [strip, Option.some.injEq] at h; subst h; exact .dead v
  | undef => intro a' h; simp only [strip, Option.some.injEq] at h; subst h; exact .undef
  | bool b => intro a' h; simp only [strip, Option.some.injEq] at h; subst h; exact .bool b
  | int k n => intro a' h; simp only [strip, Option.some.injEq] at h; subst h; exact .int k n
  | str s => intro a' h; simp only [strip, Option.some.injEq] at h; subst h; exact .str s
  | nilp => intro a' h; simp only [strip, Option.some.injEq] at h; subst h; exact .nilp
  | nilm => intro a' h; simp only [strip, Option.some.injEq] at h; subst h; exact .nilm
  | nilf => intro a' h; simp only [strip, Option.some.injEq] at h; subst h; exact .nilf
  | nili => intro a' h; simp only [strip, Option.some.injEq] at h; subst h; exact .nili
  | ptr b e o g c hb => intro a' h; simp [strip] at h
  | dpz t p => intro a' h; simp [strip] at h
  | tpt t b n g c hb ho => intro a' h; simp [strip] at h
  | yld b g c hb => intro a' h; simp [strip] at h
  | dpt t cs g f hc hv ho ih => intro a' h; simp [strip] at h
  | msl b e o n k g c cap hb hn ho => intro a' h; simp [strip] at h
  | map b g c hb => intro a' h; simp [strip] at h
  | ipt cs o g k f hc hv ih =>
    intro a' h
    simp only [strip] at h
    split at h
    · rename_i ds hds
      simp only [Option.some.injEq] at h; subst h
      obtain ⟨h1, h2⟩ := lst hds ih
      exact .ipt ds o g k f (fun j hj => hk _ _ _ (hc j (by omega))) h2
    · cases h
  | slnil r hr =>
    intro a' h
    simp only [strip, stripL, Option.some.injEq] at h; subst h
    exact .slnil .no trivial
  | slz a cap =>
    intro a' h
    simp only [strip, stripL, Option.some.injEq] at h; subst h
    exact .slz a cap
  | sl r n cs g k cap f hn hc hv hr ih =>
    intro a' h
    simp only [strip] at h
    split at h
    · rename_i ds hds
      simp only [Option.some.injEq] at h; subst h
      obtain ⟨h1, h2⟩ := lst hds ih
      exact .sl .no n ds g k cap f hn (fun j hj => hk _ _ _ (hc j (by omega))) h2 trivial
    · cases h
  | fn f x y xs ys h1 h2 hx hy ihx ihy =>
    intro a' h
    simp only [strip] at h
    split at h
    · rename_i u w hu hw
      simp only [Option.some.injEq] at h; subst h
      obtain ⟨a1, a2⟩ := lst hu ihx
      obtain ⟨b1, b2⟩ := lst hw ihy
      exact .fn f u w xs ys (by omega) (by omega) a2 b2
    · cases h
  | ifc t a v _ ih =>
    intro a' h
    simp only [strip] at h
    split at h
    · rename_i u hu
      simp only [Option.some.injEq] at h; subst h
      exact .ifc t u v (ih _ hu)
    · cases h
  | agg cs vs hs hv ho ih =>
    intro a' h
    simp only [strip] at h
    split at h
    · rename_i ds hds
      simp only [Option.some.injEq] at h; subst h
      obtain ⟨h1, h2⟩ := lst hds ih
      exact .agg ds vs (by omega) h2 (fun j hj => ho j (by omega))
    · cases h
  | tup a cs vs hs hv ih =>
    intro a' h
    simp only [strip] at h
    split at h
    · rename_i x y hx hy
      simp only [Option.some.injEq] at h; subst h
      have hxy : stripL (a :: cs) = some (x :: y) := by simp only [stripL, hx, hy]
      obtain ⟨h1, h2⟩ := lst hxy ih
      exact .tup x y vs (by omega) h2
    · cases h

def optMap (f : AVal → Option AVal) : List AVal → Option (List AVal)
  | [] => some []
  | v :: vs => (match f v, optMap f vs with | some x, some y => some (x :: y) | _, _ => none)

/-- A value as it reads now. -/
def view : Nat → AMem → AVal → Option AVal
  | 0, _, v => strip v
  | n + 1, m, v =>
    match strip v with
    | some u => some u
    | none =>
      match v with
      | .ptr b e o => (match m.H[b]? with
        | some (.cells e' cs) => if e = e' then (match optMap (view n m) cs with | some ds => some (.ipt ds o) | none => none) else none
        | _ => none)
      | .msl b e o k l => (match m.H[b]? with
        | some (.cells e' cs) => if e = e' ∧ o + l ≤ cs.length then (match optMap (view n m) ((cs.drop o).take l) with | some ds => some (.sl .no k ds) | none => none) else none
        | _ => none)
      | .sl _ k cs => (match optMap (view n m) cs with | some ds => some (.sl .no k ds) | none => none)
      | .agg cs => (match optMap (view n m) cs with | some ds => some (.agg ds) | none => none)
      | .tup a vs => (match view n m a, optMap (view n m) vs with | some x, some y => some (.tup x y) | _, _ => none)
      | .fn f a b => (match optMap (view n m) a, optMap (view n m) b with | some x, some y => some (.fn f x y) | _, _ => none)
      | _ => none

theorem optMap_spec {f : AVal → Option AVal} : ∀ (cs ds : List AVal), optMap f cs = some ds → ds.length = cs.length ∧ ∀ (j : Nat) (h : j < cs.length) (h' : j < ds.length), f cs[j] = some ds[j]
  | [], ds, h => by
    simp only [optMap, Option.some.injEq] at h; subst h
    exact ⟨rfl, fun j h => absurd h (Nat.not_lt_zero j)⟩
  | c :: cs, ds, h => by
    simp only [optMap] at h
    split at h
    · rename_i x y hx hy
      simp only [Option.some.injEq] at h; subst h
      obtain ⟨h1, h2⟩ := optMap_spec cs y hy
      refine ⟨by simp [h1], fun j hj hj' => ?_⟩
      cases j with
      | zero => exact hx
      | succ j => exact h2 j (Nat.lt_of_succ_lt_succ hj) (Nat.lt_of_succ_lt_succ hj')
    · cases h

/-- All that was owned is let go: nobody will write it any more. -/
def Ghost.drop (γ : Ghost) : Ghost := { γ with S := ⟨[], []⟩ }

theorem drop_noblk {γ : Ghost} {b g : Nat} : ¬ γ.drop.blkOwns b g := fun h => absurd h.1 (Nat.not_lt_zero b)
theorem drop_notok {γ : Ghost} {t g : Nat} : ¬ γ.drop.tokOwns t g := fun ⟨_, _, h, _⟩ => by simp [Ghost.drop] at h

theorem drop_cell {γ : Ghost} {g o : Nat} {v : Value} (h : γ.cell g o v) : γ.drop.cell g o v := ⟨h.1, h.2.1, h.2.2.1, fun _ h => drop_noblk h, fun _ h => absurd h drop_notok⟩

theorem rl_drop {γ : Ghost} (hr : Rl γ) : Rl γ.drop where
  lo := hr.lo
  bad := hr.bad
  objs := fun b x h => by simp [Ghost.drop] at h
  its := fun b mb l c h => by simp [Ghost.drop] at h
  toks := fun t g h => absurd h drop_notok
  own := fun g h => by
    rcases h with ⟨b, h⟩ | ⟨t, h⟩
    · exact absurd h drop_noblk
    · exact absurd h drop_notok
  hh := fun b b' g h => absurd h drop_noblk
  ht := fun b t g h => absurd h drop_noblk
  tt := fun t t' g h => absurd h drop_notok

theorem view_sound {γ : Ghost} (hr : Rl γ) : ∀ (n : Nat) (a a' : AVal) (v : Value), view n γ.S a = some a' → VR γ.cx a v → VR γ.drop.cx a' v := by
  intro n
  induction n with
  | zero => intro a a' v h hv; exact strip_sound (fun _ _ _ h => drop_cell h) hv a' h
  | succ n ih =>
    intro a a' v h hv
    have lst : ∀ {cs ds : List AVal} {f : Nat → Value}, optMap (view n γ.S) cs = some ds → (∀ (j : Nat) (h : j < cs.length), VR γ.cx cs[j] (f j)) → ds.length = cs.length ∧ ∀ (j : Nat) (h : j < ds.length), VR γ.drop.cx ds[j] (f j) := by
      intro cs ds f hs hvv
      obtain ⟨h1, h2⟩ := optMap_spec cs ds hs
      exact ⟨h1, fun j hj => ih _ _ _ (h2 j (by omega) hj) (hvv j (by omega))⟩
    unfold view at h
    cases hs : strip a with
    | some u =>
      simp only [hs, Option.some.injEq] at h; subst h
      exact strip_sound (fun _ _ _ h => drop_cell h) hv _ hs
    | none =>
      simp only [hs] at h
      cases a <;> simp only [reduceCtorEq] at h
      case ptr b e o =>
        split at h
        case h_2 => cases h
        rename_i e' cs hb
        split at h
        case isFalse => cases h
        rename_i he; subst he
        split at h
        case h_2 => cases h
        rename_i ds hds
        simp only [Option.some.injEq] at h; subst h
        obtain ⟨arr, ty, k1, k2, _, k4, k5⟩ := hr.cells b e cs hb
        obtain ⟨h1, h2⟩ := lst hds k4
        cases hv with
        | ptr _ _ _ g c hblk =>
          obtain ⟨y, hy, _, hy2⟩ := hblk
          rw [hb] at hy
          cases hy
          obtain ⟨rfl, _⟩ := hy2 rfl
          have hlt : b < γ.S.H.length := (List.getElem?_eq_some_iff.1 hb).1
          have hlo := (hr.own _ (.inl ⟨b, hlt, rfl⟩)).1
          have := VR.ipt (κ := γ.drop.cx) ds o (γ.ι.h b) 0 (fun j => arr.getD j undef) (fun j hj => by
            rw [Nat.zero_add]
            have hj' : j < arr.size := by omega
            refine ⟨?_, k5 j (by omega), fun hbad => ?_, fun _ h => drop_noblk h, fun _ h => absurd h drop_notok⟩
            · show γ.w.cell? _ = _
              rw [cell_of_row _ _ _ _ _ _ k1]; simp [Array.getD, hj']
            · have := hr.bad _ _ hbad; omega) h2
          simpa using this
      case msl b e o k l =>
        split at h
        case h_2 => cases h
        rename_i e' cs hb
        split at h
        case isFalse => cases h
        rename_i he
        obtain ⟨rfl, hol⟩ := he
        split at h
        case h_2 => cases h
        rename_i ds hds
        simp only [Option.some.injEq] at h; subst h
        obtain ⟨arr, ty, k1, k2, _, k4, k5⟩ := hr.cells b e cs hb
        obtain ⟨h1, h2⟩ := lst (f := fun j => arr.getD (o + j) undef) hds (fun j hj => by
          simp only [List.length_take, List.length_drop] at hj
          simp only [List.getElem_take, List.getElem_drop]
          exact k4 _ (by omega))
        simp only [List.length_take, List.length_drop] at h1
        cases hv with
        | msl _ _ _ _ _ g c cap hblk hn ho =>
          obtain ⟨y, hy, _, hy2⟩ := hblk
          rw [hb] at hy
          cases hy
          obtain ⟨rfl, _⟩ := hy2 rfl
          have hlt : b < γ.S.H.length := (List.getElem?_eq_some_iff.1 hb).1
          have hlo := (hr.own _ (.inl ⟨b, hlt, rfl⟩)).1
          refine .sl .no k ds (γ.ι.h b) o cap (fun j => arr.getD (o + j) undef) hn (fun j hj => ?_) h2 trivial
          have hj' : o + j < arr.size := by omega
          refine ⟨?_, k5 _ (by omega), fun hbad => ?_, fun _ h => drop_noblk h, fun _ h => absurd h drop_notok⟩
          · show γ.w.cell? _ = _
            rw [cell_of_row _ _ _ _ _ _ k1]; simp [Array.getD, hj']
          · have := hr.bad _ _ hbad; omega
      case sl r k cs =>
        split at h
        case h_2 => cases h
        rename_i ds hds
        simp only [Option.some.injEq] at h; subst h
        cases hv with
        | slnil _ _ => simp only [optMap, Option.some.injEq] at hds; subst hds; exact .slnil .no trivial
        | slz a cap => simp only [optMap, Option.some.injEq] at hds; subst hds; exact .slz a cap
        | sl _ _ _ g o cap f hn hc hvv _ =>
          obtain ⟨h1, h2⟩ := lst hds hvv
          exact .sl .no k ds g o cap f hn (fun j hj => drop_cell (hc j (by omega))) h2 trivial
      case agg cs =>
        split at h
        case h_2 => cases h
        rename_i ds hds
        simp only [Option.some.injEq] at h; subst h
        cases hv with
        | agg _ vs hsz hvv ho =>
          obtain ⟨h1, h2⟩ := lst hds hvv
          exact .agg ds vs (by omega) h2 (fun j hj => ho j (by omega))
      case tup a cs =>
        split at h
        case h_2 => cases h
        rename_i x y hx hy
        simp only [Option.some.injEq] at h; subst h
        cases hv with
        | tup _ _ vs hsz hvv =>
          have hxy : optMap (view n γ.S) (a :: cs) = some (x :: y) := by simp only [optMap, hx, hy]
          obtain ⟨h1, h2⟩ := lst hxy hvv
          exact .tup x y vs (by omega) h2
      case fn f x y =>
        split at h
        case h_2 => cases h
        rename_i u w hu hw
        simp only [Option.some.injEq] at h; subst h
        cases hv with
        | fn _ _ _ xs ys h1 h2 hx hy =>
          obtain ⟨a1, a2⟩ := lst hu hx
          obtain ⟨b1, b2⟩ := lst hw hy
          exact .fn f u w xs ys (by omega) (by omega) a2 b2

/-- What a caller owns counts, for whom it calls, as what must not be leant on. -/
def Ghost.stab (γ : Ghost) : Ghost :=
  { bad := fun g o => γ.bad g o ∨ (g < γ.w.heap.size ∧ ((∃ b, γ.blkOwns b g) ∨ ∃ t tp sz, γ.tokOwns t g ∧ γ.S.T[t]? = some (tp, sz) ∧ tp ≤ o)), lo := γ.w.heap.size, S := ⟨[], []⟩, ι := γ.ι, w := γ.w }

theorem empty_noblk {γ : Ghost} (h : γ.S = ⟨[], []⟩) {b g : Nat} : ¬ γ.blkOwns b g := fun hb => by have := hb.1; rw [h] at this; exact absurd this (Nat.not_lt_zero b)
theorem empty_notok {γ : Ghost} (h : γ.S = ⟨[], []⟩) {t g : Nat} : ¬ γ.tokOwns t g := fun ⟨_, _, h1, _⟩ => by rw [h] at h1; simp at h1
theorem empty_noown {γ : Ghost} (h : γ.S = ⟨[], []⟩) {g : Nat} : ¬ γ.owns g := fun ho => by
  rcases ho with ⟨b, hb⟩ | ⟨t, ht⟩
  · exact empty_noblk h hb
  · exact empty_notok h ht

theorem stab_cell {γ : Ghost} {g o : Nat} {v : Value} (h : γ.cell g o v) : γ.stab.cell g o v := by
  refine ⟨h.1, h.2.1, fun hb => ?_, fun b hb => empty_noblk rfl hb, fun t ht => absurd ht (empty_notok rfl)⟩
  rcases hb with hb | ⟨_, ⟨b, hb⟩ | ⟨t, tp, sz, ht, h1, h2⟩⟩
  · exact h.2.2.1 hb
  · exact h.2.2.2.1 b hb
  · obtain ⟨tp', sz', h3, h4⟩ := h.2.2.2.2 t ht
    rw [h1] at h3
    cases h3
    omega

theorem rl_stab {γ : Ghost} (hr : Rl γ) : Rl γ.stab where
  lo := Nat.le_refl _
  bad := fun g o h => by
    rcases h with h | h
    · have h1 := hr.bad g o h; have h2 := hr.lo; show g < γ.w.heap.size; omega
    · exact h.1
  objs := fun b x h => by simp [Ghost.stab] at h
  its := fun b mb l c h => by simp [Ghost.stab] at h
  toks := fun t g h => absurd h (empty_notok rfl)
  own := fun g h => absurd h (empty_noown rfl)
  hh := fun b b' g h => absurd h (empty_noblk rfl)
  ht := fun b t g h => absurd h (empty_noblk rfl)
  tt := fun t t' g h => absurd h (empty_notok rfl)

theorem ext_empty_grow {γ γ' : Ghost} (h : γ.S = ⟨[], []⟩) (hl : γ.w.heap.size ≤ γ.lo) (he : Ext γ γ') : Grow γ.w γ'.w :=
  ⟨he.os, he.tape, he.output, he.size, fun k hk => by
    rcases he.frame k hk (empty_noown h) with h1 | ⟨h1, _⟩
    · exact h1
    · omega⟩

mutual
theorem strip_idem : ∀ (v u : AVal), strip v = some u → strip u = some u
  | .sl r n cs, u, hu => by
    simp only [strip] at hu
    split at hu
    · rename_i ds hds; cases hu; simp only [strip, stripL_idem cs ds hds]
    · cases hu
  | .agg cs, u, hu => by
    simp only [strip] at hu
    split at hu
    · rename_i ds hds; cases hu; simp only [strip, stripL_idem cs ds hds]
    · cases hu
  | .ipt cs o, u, hu => by
    simp only [strip] at hu
    split at hu
    · rename_i ds hds; cases hu; simp only [strip, stripL_idem cs ds hds]
    · cases hu
  | .fn f a b, u, hu => by
    simp only [strip] at hu
    split at hu
    · rename_i x y hx hy; cases hu; simp only [strip, stripL_idem a x hx, stripL_idem b y hy]
    · cases hu
  | .ifc _ v, u, hu => by
    simp only [strip] at hu
    split at hu
    · rename_i x hx; cases hu; simp only [strip, strip_idem v x hx]
    · cases hu
  | .tup a cs, u, hu => by
    simp only [strip] at hu
    split at hu
    · rename_i x y hx hy; cases hu; simp only [strip, strip_idem a x hx, stripL_idem cs y hy]
    · cases hu
  | .ptr _ _ _, u, hu => by simp [strip] at hu
  | .msl _ _ _ _ _, u, hu => by simp [strip] at hu
  | .map _, u, hu => by simp [strip] at hu
  | .dpt _ _, u, hu => by simp [strip] at hu
  | .tpt _ _ _, u, hu => by simp [strip] at hu
  | .yld _, u, hu => by simp [strip] at hu
  | .dead, u, hu => by simp only [strip] at hu; cases hu; rfl
  | .undef, u, hu => by simp only [strip] at hu; cases hu; rfl
  | .bool _, u, hu => by simp only [strip] at hu; cases hu; rfl
  | .int _ _, u, hu => by simp only [strip] at hu; cases hu; rfl
  | .str _, u, hu => by simp only [strip] at hu; cases hu; rfl
  | .nilp, u, hu => by simp only [strip] at hu; cases hu; rfl
  | .nilm, u, hu => by simp only [strip] at hu; cases hu; rfl
  | .nilf, u, hu => by simp only [strip] at hu; cases hu; rfl
  | .nili, u, hu => by simp only [strip] at hu; cases hu; rfl
theorem stripL_idem : ∀ (vs us : List AVal), stripL vs = some us → stripL us = some us
  | [], us, hu => by simp only [stripL] at hu; cases hu; rfl
  | v :: vs, us, hu => by
    simp only [stripL] at hu
    split at hu
    · rename_i x y hx hy; cases hu; simp only [stripL, strip_idem v x hx, stripL_idem vs y hy]
    · cases hu
end
theorem stripL_all : ∀ {l : List AVal}, (∀ u ∈ l, strip u = some u) → stripL l = some l
  | [], _ => rfl
  | v :: l, h => by
    have h1 := h v List.mem_cons_self
    have h2 := stripL_all (l := l) fun u hu => h u (List.mem_cons_of_mem v hu)
    simp only [stripL, h1, h2]
theorem optMap_mem {f : AVal → Option AVal} : ∀ {l r : List AVal}, optMap f l = some r → ∀ u ∈ r, ∃ v ∈ l, f v = some u
  | [], r, h, u, hu => by simp only [optMap, Option.some.injEq] at h; subst h; cases hu
  | v :: l, r, h, u, hu => by
    simp only [optMap] at h
    split at h
    · rename_i x y hx hy
      cases h
      rcases List.mem_cons.1 hu with rfl | hu
      · exact ⟨v, by simp, hx⟩
      · obtain ⟨w, h1, h2⟩ := optMap_mem hy u hu
        exact ⟨w, by simp [h1], h2⟩
    · cases h
theorem view_idem {m : AMem} : ∀ (n : Nat) (v u : AVal), view n m v = some u → strip u = some u
  | 0, v, u, h => strip_idem v u h
  | n + 1, v, u, h => by
    have key : ∀ {l r : List AVal}, optMap (view n m) l = some r → stripL r = some r := fun h => stripL_all fun u hu => by
      obtain ⟨v, _, h2⟩ := optMap_mem h u hu
      exact view_idem n v u h2
    unfold view at h
    cases hs : strip v with
    | some w => simp only [hs, Option.some.injEq] at h; subst h; exact strip_idem v _ hs
    | none =>
      simp only [hs] at h
      cases v <;> simp only [reduceCtorEq] at h
      case ptr b e o =>
        split at h
        case h_2 => cases h
        split at h
        case isFalse => cases h
        split at h
        case h_2 => cases h
        rename_i ds hds
        cases h
        simp only [strip, key hds]
      case msl b e o k l =>
        split at h
        case h_2 => cases h
        split at h
        case isFalse => cases h
        split at h
        case h_2 => cases h
        rename_i ds hds
        cases h
        simp only [strip, key hds]
      case sl r k cs =>
        split at h
        case h_2 => cases h
        rename_i ds hds
        cases h
        simp only [strip, key hds]
      case agg cs =>
        split at h
        case h_2 => cases h
        rename_i ds hds
        cases h
        simp only [strip, key hds]
      case tup a vs =>
        split at h
        case h_2 => cases h
        rename_i x y hx hy
        cases h
        simp only [strip, view_idem n a x hx, key hy]
      case fn f a b =>
        split at h
        case h_2 => cases h
        rename_i x y hx hy
        cases h
        simp only [strip, key hx, key hy]
/-- All is let go, and nothing of today will be frozen. -/
def Ghost.drops (γ : Ghost) : Ghost := { γ.drop with lo := γ.w.heap.size }
theorem rl_drops {γ : Ghost} (hr : Rl γ) : Rl γ.drops where
  lo := Nat.le_refl _
  bad := fun g o h => Nat.lt_of_lt_of_le (hr.bad g o h) hr.lo
  objs := fun b x h => by simp [Ghost.drops, Ghost.drop] at h
  its := fun b mb l c h => by simp [Ghost.drops, Ghost.drop] at h
  toks := fun t g h => absurd h (empty_notok rfl)
  own := fun g h => absurd h (empty_noown rfl)
  hh := fun b b' g h => absurd h (empty_noblk rfl)
  ht := fun b t g h => absurd h (empty_noblk rfl)
  tt := fun t t' g h => absurd h (empty_notok rfl)

def VRs (κ : Cx) (args : List AVal) (vals : Array Value) : Prop := vals.size = args.length ∧ ∀ (j : Nat) (h : j < args.length), VR κ args[j] (vals.getD j undef)

def enterable (P : Program) (f : FuncId) : Bool :=
  match P.funcs[f]? with
  | some fn => fn.name != "runtime.NumGoroutine" && fn.body.isSome
  | none => false

/-- A call does what is said: with this memory it hands back r, and leaves that memory. -/
def RCall (P : Program) (f : FuncId) (args : List AVal) (m : AMem) (r : AVal) (m' : AMem) : Prop :=
  enterable P f = true ∧ ∀ γ vals, Rl γ → γ.S = m → VRs γ.cx args vals →
    Calls P f vals γ.w fun e w' => ∃ v γ', e = .returned v ∧ γ'.w = w' ∧ γ'.S = m' ∧ Ext γ γ' ∧ Rl γ' ∧ VR γ'.cx r v

/-- A call that looks at nothing but its arguments. -/
def PCall (P : Program) (f : FuncId) (args : List AVal) (r : AVal) : Prop := RCall P f args ⟨[], []⟩ r ⟨[], []⟩

mutual
def flat : AVal → Bool
  | .agg cs => flatL cs
  | .tup a vs => flat a && flatL vs
  | .undef | .bool _ | .int _ _ | .str _ | .nilp | .nilm | .nilf | .nili => true
  | _ => false
def flatL : List AVal → Bool
  | [] => true
  | v :: vs => flat v && flatL vs
end

theorem flatL_spec : ∀ (cs : List AVal), flatL cs = true → ∀ (j : Nat) (h : j < cs.length), flat cs[j] = true
  | [], _, j, h => absurd h (Nat.not_lt_zero j)
  | c :: cs, hf, j, h => by
    simp only [flatL, Bool.and_eq_true] at hf
    cases j with
    | zero => exact hf.1
    | succ j => exact flatL_spec cs hf.2 j (Nat.lt_of_succ_lt_succ h)

theorem flat_sound {κ κ' : Cx} {a : AVal} {v : Value} (h : VR κ a v) : flat a = true → VR κ' a v := by
  induction h with
  | undef => exact fun _ => .undef
  | bool b => exact fun _ => .bool b
  | int k n => exact fun _ => .int k n
  | str s => exact fun _ => .str s
  | nilp => exact fun _ => .nilp
  | nilm => exact fun _ => .nilm
  | nilf => exact fun _ => .nilf
  | nili => exact fun _ => .nili
  | agg cs vs hs hv ho ih =>
    intro hf
    simp only [flat] at hf
    exact .agg cs vs hs (fun j hj => ih j hj (flatL_spec cs hf j hj)) ho
  | tup a cs vs hs hv ih =>
    intro hf
    have hf' : flatL (a :: cs) = true := by simpa [flat, flatL] using hf
    exact .tup a cs vs hs (fun j hj => ih j hj (flatL_spec _ hf' j hj))
  | _ => intro hf; simp [flat] at hf

/-- A call that looks at nothing but its arguments, in a caller's memory. -/
theorem PCall.stable {P : Program} {f : FuncId} {args as : List AVal} {r : AVal} {m : AMem} (h : PCall P f as r) (hs : stripL args = some as) : RCall P f args m r m := by
  refine ⟨h.1, fun γ vals hr hm hv => ?_⟩
  obtain ⟨h1, h2⟩ := stripL_spec _ _ hs
  refine (h.2 γ.stab vals (rl_stab hr) rfl ⟨by rw [h1]; exact hv.1, fun j hj => strip_sound (fun _ _ _ h => stab_cell h) (hv.2 j (by omega)) _ (h2 j (by omega) hj)⟩).mono ?_
  rintro e w' ⟨v, γ', rfl, rfl, hS, hext, hrl, hvr⟩
  have hg : Grow γ.w γ'.w := ext_empty_grow (γ := γ.stab) rfl (Nat.le_refl _) hext
  refine ⟨v, { γ with w := γ'.w }, rfl, rfl, hm, ext_grow hg, rl_grow hr hg, hvr.mono ⟨fun g o u hc => ?_, fun b e g c hb => ?_, fun t len b c ht => ?_, fun g t n ho => ?_⟩⟩
  · have hb : γ'.bad = γ.stab.bad := hext.bad
    have hnb : ¬ γ.stab.bad g o := by rw [← hb]; exact hc.2.2.1
    refine ⟨hc.1, hc.2.1, fun h => hnb (.inl h), fun b hbo => ?_, fun t ht => ?_⟩
    · exact hnb (.inr ⟨(hr.own g (.inl ⟨b, hbo⟩)).2, .inl ⟨b, hbo⟩⟩)
    · have ht' : γ.tokOwns t g := ht
      obtain ⟨tp, sz, a1, a2, a3⟩ := ht'
      refine ⟨tp, sz, a1, ?_⟩
      rcases Nat.lt_or_ge o tp with h | h
      · exact h
      · exact absurd (.inr ⟨(hr.own g (.inr ⟨t, ht⟩)).2, .inr ⟨t, tp, sz, ht, a1, h⟩⟩) hnb
  · obtain ⟨y, hy, _⟩ := hb
    rw [hS] at hy
    simp at hy
  · obtain ⟨y, z, hy, _⟩ := ht
    rw [hS] at hy
    simp at hy
  · obtain ⟨h1, h2⟩ := ho
    rw [hext.lo] at h1
    exact ⟨Nat.le_trans hr.lo h1, h2⟩

/-- The same, where it looks at what the caller may write, and hands back numbers and the like alone. -/
theorem PCall.viewed {P : Program} {f : FuncId} {args as : List AVal} {r : AVal} {m : AMem} {n : Nat} (h : PCall P f as r) (hs : optMap (view n m) args = some as) (hf : flat r = true) : RCall P f args m r m := by
  refine ⟨h.1, fun γ vals hr hm hv => ?_⟩
  subst hm
  obtain ⟨h1, h2⟩ := optMap_spec _ _ hs
  refine (h.2 γ.drops vals (rl_drops hr) rfl ⟨by rw [h1]; exact hv.1, fun j hj => by
    have hj' : j < args.length := by omega
    have hvw := h2 j hj' hj
    exact strip_sound (κ := γ.drop.cx) (κ' := γ.drops.cx) (fun g o v hc => hc) (view_sound hr _ _ _ _ hvw (hv.2 j hj')) _ (view_idem _ _ _ hvw)⟩).mono ?_
  rintro e w' ⟨v, γ', rfl, rfl, hS, hext, hrl, hvr⟩
  have hg : Grow γ.w γ'.w := ext_empty_grow (γ := γ.drops) rfl (Nat.le_refl _) hext
  exact ⟨v, { γ with w := γ'.w }, rfl, rfl, rfl, ext_grow hg, rl_grow hr hg, flat_sound hvr hf⟩

/-- A function of the library's own, that the model runs in one step: what it gives, and what memory it leaves. -/
def LCall (P : Program) (f : FuncId) (args : List AVal) (m : AMem) (r : AVal) (m' : AMem) : Prop :=
  ∀ (γ : Ghost) vals, Rl γ → γ.S = m → VRs γ.cx args vals → ∃ v γ', (callFunc f vals).run P γ.w = .ok (.value v) γ'.w ∧ Ext γ γ' ∧ Rl γ' ∧ γ'.S = m' ∧ VR γ'.cx r v
/-- A function of the library's own, that the model runs in one step: what it gives, and what it takes for itself. -/
def ECall (P : Program) (f : FuncId) (args : List AVal) (T : List (Nat × (Nat × Nat))) (r : AVal) (T' : List (Nat × (Nat × Nat))) : Prop :=
  ∀ (γ : Ghost) vals, Rl γ → γ.S.T = T → VRs γ.cx args vals → ∃ v γ', (callFunc f vals).run P γ.w = .ok (.value v) γ'.w ∧ Ext γ γ' ∧ Rl γ' ∧ γ'.S = ⟨γ.S.H, T'⟩ ∧ VR γ'.cx r v

end Go.Hk
/- Regions: their operations one behind the other, and in whatever order. -/
namespace Go.Hk

/-- What is known of a function. -/
inductive Con where
  | pure (imp : List AVal → Option AVal)
  | raw (imp : List AVal → AMem → Option (AVal × AMem))
  | ext (imp : List AVal → List (Nat × (Nat × Nat)) → Option (AVal × List (Nat × (Nat × Nat))))
  | lib (imp : List AVal → AMem → Option (AVal × AMem))
  | non

/-- Orders in which a region is to be walked: one step; or two, each of both first. -/
inductive OT where
  | done
  | step (i : Nat) (t : OT)
  | fork (i j : Nat) (a b : OT)
  deriving DecidableEq
/-- What is known of functions; and the regions that are walked in more than one order. -/
structure Gam where
  con : FuncId → Con
  ex : Nat → Option OT
  nx : Nat → Bool
  dy : Bool
  yl : Nat → List AVal → AMem → Option (AVal × AMem)
  nt : Nat
instance : CoeFun Gam (fun _ => FuncId → Con) := ⟨Gam.con⟩

/-- What is told of a function holds. -/
def ConOK (P : Program) (f : FuncId) : Con → Prop
  | .pure imp => ∀ as r, imp as = some r → PCall P f as r
  | .raw imp => ∀ args m r m', imp args m = some (r, m') → RCall P f args m r m'
  | .ext imp => ∀ args T r T', imp args T = some (r, T') → ECall P f args T r T'
  | .lib imp => ∀ args m r m', imp args m = some (r, m') → LCall P f args m r m'
  | .non => True
/-- A round of a range over a function, as yield asks for it. -/
def YCall (P : Program) (b : Nat) (args : List AVal) (m : AMem) (r : AVal) (m' : AMem) : Prop :=
  ∀ γ vals, Rl γ → γ.S = m → VRs γ.cx args vals → ∃ x, m.H[b]? = some x ∧ x.ep = 0 ∧ ∃ f tmps assign body, (Instr.yield (γ.ι.h b) vals).run P γ.w = .ok (.round (γ.ι.h b) f tmps assign body) γ.w ∧
    RoundIn Fence.wide 0 P (γ.ι.h b) f tmps assign body γ.w fun e w' => ∃ v γ', e = .returned v ∧ γ'.w = w' ∧ γ'.S = m' ∧ Ext γ γ' ∧ Rl γ' ∧ VR γ'.cx r v
structure Sound (P : Program) (Γ : Gam) : Prop where
  fn : ∀ f, ConOK P f (Γ f)
  yl : ∀ b args m r m', Γ.yl b args m = some (r, m') → YCall P b args m r m'

def callPure (imp : List AVal → Option AVal) (m : AMem) (args : List AVal) : Option (AVal × AMem) :=
  match stripL args with
  | some as => (match imp as with | some r => some (r, m) | none => none)
  | none => (match optMap (view 8 m) args with
    | some as => (match imp as with | some r => if flat r = true then some (r, m) else none | none => none)
    | none => none)

def acall (Γ : Gam) (m : AMem) (f : FuncId) (args : List AVal) : Option (AVal × AMem) :=
  match Γ f with
  | .pure imp => callPure imp m args
  | .raw imp => imp args m
  | .ext imp => (match imp args m.T with | some (r, T') => some (r, ⟨m.H, T'⟩) | none => none)
  | .lib imp => imp args m
  | .non => none

def acallP (Γ : Gam) (m : AMem) (f : FuncId) (args : List AVal) : Option (AVal × AMem) :=
  match Γ f with
  | .pure imp => callPure imp m args
  | .raw imp => if Γ.dy = true then imp args m else none
  | _ => none

/-- One operation, calls too. -/
def aexec (P : Program) (Γ : Gam) (mu : Bool) (m : AMem) (ρ : Operand → AVal) (op : Op) : Option (AVal × AMem) :=
  match op with
  | .call c => (match c.callee with
    | .builtin b => abuiltin P mu m b c.argTypes.toList (c.args.toList.map ρ)
    | .value x => (match x with
      | .func f => acall Γ m f (c.args.toList.map ρ)
      | x => (match ρ x with
        | .fn f first caps => acallP Γ m f (first ++ c.args.toList.map ρ ++ caps)
        | .yld b => if Γ.dy = true then Γ.yl b (c.args.toList.map ρ) m else none
        | _ => none))
    | .invoke _ _ => none)
  | op => aop P mu m ρ op

def aguard (ops : Array Oper) (env : List (Nat × AVal)) (o : Oper) : Option Bool :=
  match o.guard with
  | none => some true
  | some (j, want) => (match (ops[j]?).bind (·.dst) with
    | some d => (match lk env d with
      | .bool b => some (b == want)
      | .undef => some false
      | _ => none)
    | none => some false)

def put (env : List (Nat × AVal)) (d : Option Nat) (v : AVal) : List (Nat × AVal) :=
  match d with
  | some d => (d, v) :: env
  | none => env

def astep (P : Program) (Γ : Gam) (mu : Bool) (ops : Array Oper) (o : Oper) (s : St) : Option St :=
  match aguard ops s.env o with
  | some g => if g = true then (match aexec P Γ mu s.m (ev s.env) o.op with
      | some (v, m') => some ⟨put s.env o.dst v, m'⟩
      | none => none) else some ⟨put s.env o.dst .undef, s.m⟩
  | none => none

def aops (P : Program) (Γ : Gam) (mu : Bool) (ops : Array Oper) : List Oper → St → Option St
  | [], s => some s
  | o :: r, s => (astep P Γ mu ops o s).bind (aops P Γ mu ops r)

/-! ### Soundness -/

/-- A frame and a world are what an abstract state says. -/
structure Holds (n : Nat) (γ : Ghost) (s : St) (a : Act) : Prop where
  rl : Rl γ
  m : γ.S = s.m
  er : ER γ.cx s.env a.tmps
  size : a.tmps.size = n

theorem ER.put' {κ : Cx} {env : List (Nat × AVal)} {a : Act} (he : ER κ env a.tmps) {d : Option Nat} (hd : ∀ x, d = some x → x < a.tmps.size) {v : AVal} {u : Value} (hv : VR κ v u) : ER κ (Hk.put env d v) (a.put d u).tmps := by
  cases d with
  | none => exact he
  | some d => exact he.put (hd d rfl) hv

theorem guard_sound {κ : Cx} {ops : Array Oper} {env : List (Nat × AVal)} {a : Act} {o : Oper} {g : Bool} (he : ER κ env a.tmps) (h : aguard ops env o = some g) : Region.wanted o (yielded ops a.tmps) = g := by
  unfold aguard at h
  unfold Region.wanted
  cases hg : o.guard with
  | none => simp only [hg, Option.some.injEq] at h; subst h; rfl
  | some jw =>
    obtain ⟨j, want⟩ := jw
    simp only [hg] at h
    unfold yielded
    cases hd : (ops[j]?).bind (·.dst) with
    | none => simp only [hd, Option.some.injEq] at h; subst h; simp [hd]
    | some d =>
      simp only [hd] at h
      have hv := he d
      simp only [hd, Option.bind_some]
      split at h
      · rename_i b hb
        simp only [Option.some.injEq] at h; subst h
        rw [hb] at hv
        cases hx : a.tmps[d]? with
        | none =>
          rw [Array.getD_eq_getD_getElem?, hx] at hv
          cases hv
        | some u =>
          rw [Array.getD_eq_getD_getElem?, hx] at hv
          simp only [Option.getD_some] at hv
          cases hv
          simp only
          cases b <;> cases want <;> rfl
      · rename_i hb
        simp only [Option.some.injEq] at h; subst h
        rw [hb] at hv
        cases hx : a.tmps[d]? with
        | none => simp
        | some u =>
          rw [Array.getD_eq_getD_getElem?, hx] at hv
          simp only [Option.getD_some] at hv
          cases hv
          simp
      · cases h

theorem callPure_sound {P : Program} {f : FuncId} {imp : List AVal → Option AVal} (hi : ∀ as r, imp as = some r → PCall P f as r) {m m' : AMem} {args : List AVal} {r : AVal} (h : callPure imp m args = some (r, m')) : RCall P f args m r m' := by
  unfold callPure at h
  split at h
  · rename_i as hs
    split at h
    · rename_i r' hr
      simp only [Option.some.injEq, Prod.mk.injEq] at h
      obtain ⟨rfl, rfl⟩ := h
      exact (hi _ _ hr).stable hs
    · cases h
  · split at h
    · rename_i as hs
      split at h
      · rename_i r' hr
        split at h
        · rename_i hf
          simp only [Option.some.injEq, Prod.mk.injEq] at h
          obtain ⟨rfl, rfl⟩ := h
          exact (hi _ _ hr).viewed hs hf
        · cases h
      · cases h
    · cases h

theorem acall_sound {P : Program} {Γ : Gam} (hΓ : Sound P Γ) {m m' : AMem} {f : FuncId} {args : List AVal} {r : AVal} (h : acall Γ m f args = some (r, m')) : RCall P f args m r m' ∨ LCall P f args m r m' := by
  have := hΓ.fn f
  unfold acall at h
  split at h
  · rename_i imp hc; rw [hc] at this; exact .inl (callPure_sound this h)
  · rename_i imp hc; rw [hc] at this; exact .inl (this _ _ _ _ h)
  · rename_i imp hc
    rw [hc] at this
    split at h
    · rename_i r' T' hx
      cases h
      refine .inr fun γ vals hr hm hv => ?_
      obtain ⟨v, γ', h1, h2, h3, h4, h5⟩ := this _ _ _ _ hx γ vals hr (by rw [hm]) hv
      exact ⟨v, γ', h1, h2, h3, by rw [h4, hm], h5⟩
    · cases h
  · rename_i imp hc; rw [hc] at this; exact .inr (this _ _ _ _ h)
  · cases h

theorem acallP_sound {P : Program} {Γ : Gam} (hΓ : Sound P Γ) {m m' : AMem} {f : FuncId} {args : List AVal} {r : AVal} (h : acallP Γ m f args = some (r, m')) : RCall P f args m r m' := by
  have := hΓ.fn f
  unfold acallP at h
  split at h
  · rename_i imp hc; rw [hc] at this; exact callPure_sound this h
  · rename_i imp hc
    rw [hc] at this
    split at h
    · exact this _ _ _ _ h
    · cases h
  · cases h

/-- Frames of functions, or of rounds of a loop. -/
def wfen (ro : Option Nat) : Fence := { Fence.wide with round := ro }
theorem callsIn_wd {ro : Option Nat} {n : Nat} {P : Program} {f : FuncId} {args : Array Value} {w : World} {R : Ending → World → Prop} (h : Calls P f args w R) : CallsIn (wfen ro) n P f args w R := callsIn_wide.2 h

/-- An operation's wp, out of what the abstract one says. -/
def StepsTo (P : Program) (n : Nat) (γ : Ghost) (o : Oper) (a : Act) (s' : St) : Prop :=
  ∀ (ro : Option Nat) (K : Act → World → Prop) (Q : Exit → Act → World → Prop), (∀ a' γ', Holds n γ' s' a' → Ext γ γ' → a'.defers = a.defers → K a' γ'.w) → o.wpIn (wfen ro) 0 P a γ.w K Q

theorem put_size {a : Act} {d : Option Nat} {u : Value} : (a.put d u).tmps.size = a.tmps.size := by cases d <;> simp [Act.put]
theorem put_defers {a : Act} {d : Option Nat} {u : Value} : (a.put d u).defers = a.defers := by cases d <;> rfl

theorem stepsTo_did {P : Program} {n : Nat} {γ : Ghost} {o : Oper} {a : Act} {s : St} (hnd : ∀ c, o.op ≠ .defer c) (h : Holds n γ s a) (hd : ∀ x, o.dst = some x → x < n) {v : AVal} {m' : AMem} (hdid : Did P γ (execOp a.eval o) v m') : StepsTo P n γ o a ⟨put s.env o.dst v, m'⟩ := by
  intro ro K Q hK
  obtain ⟨nx, γ', hrun, hnx, hext, hrl, hS⟩ := hdid
  refine ⟨fun _ _ => trivial, ?_⟩
  rw [Oper.semAt_eq _ _ _ hnd, hrun]
  have he' := h.er.mono hext.le
  have hd' : ∀ x, o.dst = some x → x < a.tmps.size := fun x hx => by rw [h.size]; exact hd x hx
  cases nx <;> simp only [NX] at hnx
  · exact hK _ γ' ⟨hrl, hS, he'.put' hd' hnx, put_size.trans h.size⟩ hext put_defers
  · subst hnx
    exact hK _ γ' ⟨hrl, hS, he'.put' hd' .undef, put_size.trans h.size⟩ hext put_defers

theorem run_callFunc {P : Program} {f : FuncId} (h : enterable P f = true) (args : Array Value) (w : World) : (callFunc f args).run P w = .ok (.enter f args) w := by
  unfold enterable at h
  split at h
  · rename_i fn hf
    simp only [Bool.and_eq_true, bne_iff_ne, ne_eq] at h
    have hb : fn.body ≠ none := by cases hb : fn.body <;> simp_all
    simp [callFunc, hf, h.1, hb]
  · cases h

theorem stepsTo_call {P : Program} {n : Nat} {γ : Ghost} {o : Oper} {a : Act} {s : St} (hnd : ∀ c, o.op ≠ .defer c) (h : Holds n γ s a) (hd : ∀ x, o.dst = some x → x < n) {f : FuncId} {args : List AVal} {vals : Array Value} {r : AVal} {m' : AMem}
    (hc : RCall P f args s.m r m') (hv : VRs γ.cx args vals) (hx : (execOp a.eval o).run P γ.w = .ok (.enter f vals) γ.w) : StepsTo P n γ o a ⟨put s.env o.dst r, m'⟩ := by
  intro ro K Q hK
  refine ⟨fun _ _ => trivial, ?_⟩
  rw [Oper.semAt_eq _ _ _ hnd, hx, Oper.uponIn_enter]
  refine ⟨fun h => by simp [wfen, Fence.wide] at h, callsIn_wd ((hc.2 γ vals h.rl h.m hv).mono ?_)⟩
  rintro e w' ⟨v, γ', rfl, rfl, hS, hext, hrl, hvr⟩
  have he' := h.er.mono hext.le
  exact hK _ γ' ⟨hrl, hS, he'.put' (fun x hx => by rw [h.size]; exact hd x hx) hvr, put_size.trans h.size⟩ hext put_defers

theorem stepsTo_yield {P : Program} {n : Nat} {γ : Ghost} {o : Oper} {a : Act} {s : St} (hnd : ∀ c, o.op ≠ .defer c) (h : Holds n γ s a) (hd : ∀ x, o.dst = some x → x < n) {b : Nat} {args : List AVal} {vals : Array Value} {r : AVal} {m' : AMem}
    (hc : YCall P b args s.m r m') (hv : VRs γ.cx args vals) {u : Value} (hu : VR γ.cx (.yld b) u) (hx : ∀ l, u = .func (.yield l) #[] #[] → (execOp a.eval o).run P γ.w = (Instr.yield l vals).run P γ.w) : StepsTo P n γ o a ⟨put s.env o.dst r, m'⟩ := by
  intro ro K Q hK
  refine ⟨fun _ _ => trivial, ?_⟩
  obtain ⟨x, hb, h0, f, tmps, asg, body, hrun, hround⟩ := hc γ vals h.rl h.m hv
  cases hu with
  | yld _ g c hblk =>
    obtain ⟨z, hz, _, hz2⟩ := hblk
    rw [h.m, hb] at hz
    cases hz
    obtain ⟨rfl, _⟩ := hz2 h0.symm
    rw [Oper.semAt_eq _ _ _ hnd, hx _ rfl, hrun, Oper.uponIn_round]
    refine ⟨fun h => by simp [wfen, Fence.wide] at h, RoundIn.mono (F := wfen ro) hround ?_⟩
    rintro e w' ⟨v, γ', rfl, rfl, hS, hext, hrl, hvr⟩
    have he' := h.er.mono hext.le
    exact hK _ γ' ⟨hrl, hS, he'.put' (fun x hx => by rw [h.size]; exact hd x hx) hvr, put_size.trans h.size⟩ hext put_defers

theorem vrs_map {κ : Cx} {ρ : Operand → AVal} {σ : Operand → Value} (h : ∀ x, VR κ (ρ x) (σ x)) (xs : Array Operand) : VRs κ (xs.toList.map ρ) (xs.map σ) := fnvals h xs

theorem VRs.append {κ : Cx} {xs ys : List AVal} {us vs : Array Value} (h : VRs κ xs us) (k : VRs κ ys vs) : VRs κ (xs ++ ys) (us ++ vs) := by
  refine ⟨by simp [h.1, k.1], fun j hj => ?_⟩
  by_cases hjx : j < xs.length
  · rw [List.getElem_append_left hjx]
    have := h.2 j hjx
    simp only [Array.getD_eq_getD_getElem?] at this ⊢
    rw [Array.getElem?_append_left (by rw [h.1]; exact hjx)]
    exact this
  · have hj2 : j - xs.length < ys.length := by simp at hj; omega
    rw [List.getElem_append_right (by omega)]
    have := k.2 _ hj2
    simp only [Array.getD_eq_getD_getElem?] at this ⊢
    rw [Array.getElem?_append_right (by rw [h.1]; omega), h.1]
    exact this

theorem aexec_nodefer {P : Program} {Γ : Gam} {mu : Bool} {m : AMem} {ρ : Operand → AVal} {op : Op} {v : AVal} {m' : AMem} (hx : aexec P Γ mu m ρ op = some (v, m')) : ∀ c, op ≠ .defer c := by
  rintro c rfl
  simp [aexec, aop] at hx

theorem aexec_sound {P : Program} {Γ : Gam} (hΓ : Sound P Γ) {mu : Bool} {n : Nat} {γ : Ghost} {o : Oper} {a : Act} {s : St} (h : Holds n γ s a) (hd : ∀ x, o.dst = some x → x < n) {v : AVal} {m' : AMem}
    (hx : aexec P Γ mu s.m (ev s.env) o.op = some (v, m')) : StepsTo P n γ o a ⟨put s.env o.dst v, m'⟩ := by
  have hE : ∀ x, VR γ.cx (ev s.env x) (a.eval x) := fun x => h.er.ev x
  have hnd := aexec_nodefer hx
  have viaOp : aop P mu s.m (ev s.env) o.op = some (v, m') → StepsTo P n γ o a ⟨put s.env o.dst v, m'⟩ := fun hop =>
    stepsTo_did hnd h hd (aop_sound h.rl h.er (by rw [h.m]; exact hop))
  cases hop : o.op with
  | call c =>
    rw [hop] at hx
    simp only [aexec] at hx
    cases hc : c.callee with
    | builtin b =>
      simp only [hc] at hx
      refine viaOp ?_
      rw [hop]
      simp only [aop, hc]
      exact hx
    | invoke r mm => simp [hc] at hx
    | value x =>
      simp only [hc] at hx
      have dyn : (match ev s.env x with
          | .fn f first caps => acallP Γ s.m f (first ++ c.args.toList.map (ev s.env) ++ caps)
          | .yld b => if Γ.dy = true then Γ.yl b (c.args.toList.map (ev s.env)) s.m else none
          | _ => none) = some (v, m') → StepsTo P n γ o a ⟨put s.env o.dst v, m'⟩ := by
        intro hx
        split at hx
        · rename_i f first caps hfn
          have hv := hE x
          rw [hfn] at hv
          have hrc := acallP_sound hΓ hx
          cases hav : a.eval x <;> rw [hav] at hv <;> cases hv
          rename_i xs ys h1 h2 k1 k2
          have hargs := vrs_map hE c.args
          refine stepsTo_call hnd h hd hrc ((VRs.append ⟨h1, h2⟩ hargs).append ⟨k1, k2⟩) ?_
          simp only [execOp, hop, resolve, hc, hav, Deferred.ofValue, invoke, Sem.run_bind, Sem.run_pure, Result.andThen_ok]
          exact run_callFunc hrc.1 _ _
        · rename_i b hfn
          split at hx
          case isFalse => cases hx
          have hv := hE x
          rw [hfn] at hv
          have hyc := hΓ.yl _ _ _ _ _ hx
          have hargs := vrs_map hE c.args
          refine stepsTo_yield hnd h hd hyc hargs hv fun l hl => ?_
          simp only [execOp, hop, resolve, hc, hl, Deferred.ofValue, invoke, Sem.run_bind, Sem.run_pure, Result.andThen_ok]
          simp
        · cases hx
      cases x with
      | func f =>
        have hargs := vrs_map hE c.args
        rcases acall_sound hΓ hx with hrc | hlc
        case inr =>
          obtain ⟨u, γ', e1, e2, e3, e4, e5⟩ := hlc γ _ h.rl h.m hargs
          refine stepsTo_did hnd h hd ⟨.value u, γ', ?_, e5, e2, e3, e4⟩
          simp only [execOp, hop, resolve, hc, Act.eval, Deferred.ofValue, invoke, Sem.run_bind, Sem.run_pure, Result.andThen_ok]
          simpa using e1
        refine stepsTo_call hnd h hd hrc hargs ?_
        simp only [execOp, hop, resolve, hc, Act.eval, Deferred.ofValue, invoke, Sem.run_bind, Sem.run_pure, Result.andThen_ok]
        have := run_callFunc hrc.1 (c.args.map a.eval) γ.w
        simpa using this
      | tmp t => exact dyn hx
      | const k => exact dyn hx
      | global g => exact dyn hx
  | _ => exact viaOp (by rw [hop] at hx ⊢; exact hx)

/-- One operation of a region, its guard too. -/
theorem astep_sound {P : Program} {Γ : Gam} (hΓ : Sound P Γ) {mu : Bool} {n : Nat} {γ : Ghost} {ops : Array Oper} {o : Oper} {a : Act} {s s' : St} (h : Holds n γ s a) (hd : ∀ x, o.dst = some x → x < n) (hs : astep P Γ mu ops o s = some s')
    {ro : Option Nat} {K : Act → World → Prop} {Q : Exit → Act → World → Prop} (hK : ∀ a' γ', Holds n γ' s' a' → Ext γ γ' → a'.defers = a.defers → K a' γ'.w) :
    if Region.wanted o (yielded ops a.tmps) then o.wpIn (wfen ro) 0 P a γ.w K Q else (∀ f, o.about P γ.w a.eval = some f → (wfen ro).fn f) ∧ K (a.put o.dst undef) γ.w := by
  unfold astep at hs
  cases hg : aguard ops s.env o with
  | none => simp [hg] at hs
  | some g =>
    simp only [hg] at hs
    rw [guard_sound h.er hg]
    cases g with
    | true =>
      simp only [if_true] at hs ⊢
      split at hs
      · rename_i v m' hx
        simp only [Option.some.injEq] at hs; subst hs
        exact aexec_sound hΓ h hd hx ro K Q hK
      · cases hs
    | false =>
      simp only [Bool.false_eq_true, if_false, Option.some.injEq] at hs ⊢
      subst hs
      exact ⟨fun _ _ => trivial, hK _ γ ⟨h.rl, h.m, h.er.put' (fun x hx => by rw [h.size]; exact hd x hx) .undef, put_size.trans h.size⟩ (Ext.refl γ) put_defers⟩

theorem aops_sound {P : Program} {Γ : Gam} (hΓ : Sound P Γ) {mu : Bool} {n : Nat} {ops : Array Oper} {ro : Option Nat} {Q : Exit → Act → World → Prop} : ∀ (l : List Oper) (γ : Ghost) (a : Act) (s s' : St), (∀ o ∈ l, ∀ x, o.dst = some x → x < n) → Holds n γ s a → aops P Γ mu ops l s = some s' →
    (∀ a' γ', Holds n γ' s' a' → Ext γ γ' → a'.defers = a.defers → Q .normal a' γ'.w) → wpListIn (wfen ro) 0 P ops Q l a γ.w
  | [], γ, a, s, s', _, h, hs, hQ => by
    simp only [aops, Option.some.injEq] at hs; subst hs
    exact hQ a γ h (Ext.refl γ) rfl
  | o :: l, γ, a, s, s', hd, h, hs, hQ => by
    simp only [aops] at hs
    obtain ⟨s1, h1, h2⟩ := Option.bind_eq_some_iff.1 hs
    exact astep_sound (ro := ro) (K := wpListIn (wfen ro) 0 P ops Q l) (Q := Q) hΓ h (hd o (by simp)) h1 (fun a' γ' h' he hdf => aops_sound hΓ l γ' a' s1 s' (fun o' ho' => hd o' (by simp [ho'])) h' h2 (fun a'' γ'' h'' he' hdf' => hQ a'' γ'' h'' (he.trans he') (hdf'.trans hdf)))

end Go.Hk
/- Memory that nobody names any more is let go. -/
namespace Go.Hk

def cloR (t : Nat) : Rt → Bool
  | .tok i => decide (i < t)
  | .no => true
  | .full => true
  | .nil => true
mutual
/-- A value names no block from h on, and no token from t on. -/
def clo (h t : Nat) : AVal → Bool
  | .ptr b _ _ => decide (b < h)
  | .msl b _ _ _ _ => decide (b < h)
  | .map b => decide (b < h)
  | .sl r _ cs => cloR t r && cloL h t cs
  | .ipt cs _ => cloL h t cs
  | .fn _ a b => cloL h t a && cloL h t b
  | .ifc _ v => clo h t v
  | .agg cs => cloL h t cs
  | .tup a cs => clo h t a && cloL h t cs
  | .dead => true
  | .undef => true
  | .bool _ => true
  | .int _ _ => true
  | .str _ => true
  | .nilp => true
  | .nilm => true
  | .nilf => true
  | .nili => true
  | .dpt _ cs => cloL h t cs
  | .tpt _ b _ => decide (b < h)
  | .yld b => decide (b < h)
def cloL (h t : Nat) : List AVal → Bool
  | [] => true
  | v :: vs => clo h t v && cloL h t vs
end

theorem cloL_get {h t : Nat} : ∀ (cs : List AVal), cloL h t cs = true → ∀ (j : Nat) (hj : j < cs.length), clo h t cs[j] = true
  | [], _, j, hj => absurd hj (Nat.not_lt_zero j)
  | c :: cs, hc, j, hj => by
    simp only [cloL, Bool.and_eq_true] at hc
    cases j with
    | zero => exact hc.1
    | succ j => exact cloL_get cs hc.2 j (Nat.lt_of_succ_lt_succ hj)

mutual
/-- A value that bears no rights names nothing. -/
theorem clo_strip {h t : Nat} : ∀ (v u : AVal), strip v = some u → clo h t u = true
  | .sl r n cs, u, hu => by
    simp only [strip] at hu
    split at hu
    · rename_i ds hds; cases hu; simp only [clo, cloR, Bool.true_and]; exact cloL_strip cs ds hds
    · cases hu
  | .agg cs, u, hu => by
    simp only [strip] at hu
    split at hu
    · rename_i ds hds; cases hu; simp only [clo]; exact cloL_strip cs ds hds
    · cases hu
  | .ipt cs o, u, hu => by
    simp only [strip] at hu
    split at hu
    · rename_i ds hds; cases hu; simp only [clo]; exact cloL_strip cs ds hds
    · cases hu
  | .fn f a b, u, hu => by
    simp only [strip] at hu
    split at hu
    · rename_i x y hx hy; cases hu; simp only [clo, Bool.and_eq_true]; exact ⟨cloL_strip a x hx, cloL_strip b y hy⟩
    · cases hu
  | .ifc _ v, u, hu => by
    simp only [strip] at hu
    split at hu
    · rename_i x hx; cases hu; simp only [clo]; exact clo_strip v x hx
    · cases hu
  | .tup a cs, u, hu => by
    simp only [strip] at hu
    split at hu
    · rename_i x y hx hy; cases hu; simp only [clo, Bool.and_eq_true]; exact ⟨clo_strip a x hx, cloL_strip cs y hy⟩
    · cases hu
  | .ptr _ _ _, u, hu => by simp [strip] at hu
  | .msl _ _ _ _ _, u, hu => by simp [strip] at hu
  | .map _, u, hu => by simp [strip] at hu
  | .dpt _ _, u, hu => by simp [strip] at hu
  | .tpt _ _ _, u, hu => by simp [strip] at hu
  | .yld _, u, hu => by simp [strip] at hu
  | .dead, u, hu => by simp only [strip] at hu; cases hu; rfl
  | .undef, u, hu => by simp only [strip] at hu; cases hu; rfl
  | .bool _, u, hu => by simp only [strip] at hu; cases hu; rfl
  | .int _ _, u, hu => by simp only [strip] at hu; cases hu; rfl
  | .str _, u, hu => by simp only [strip] at hu; cases hu; rfl
  | .nilp, u, hu => by simp only [strip] at hu; cases hu; rfl
  | .nilm, u, hu => by simp only [strip] at hu; cases hu; rfl
  | .nilf, u, hu => by simp only [strip] at hu; cases hu; rfl
  | .nili, u, hu => by simp only [strip] at hu; cases hu; rfl
theorem cloL_strip {h t : Nat} : ∀ (vs us : List AVal), stripL vs = some us → cloL h t us = true
  | [], us, hu => by simp only [stripL] at hu; cases hu; rfl
  | v :: vs, us, hu => by
    simp only [stripL] at hu
    split at hu
    · rename_i x y hx hy; cases hu; simp only [cloL, Bool.and_eq_true]; exact ⟨clo_strip v x hx, cloL_strip vs y hy⟩
    · cases hu
end

/-- Only the first h blocks and t tokens are still owned. -/
def Ghost.cut (γ : Ghost) (h t : Nat) : Ghost := { γ with S := ⟨γ.S.H.take h, γ.S.T.take t⟩ }

section
variable {γ : Ghost} {h t : Nat}
theorem cut_H {b : Nat} (hb : b < h) : (γ.cut h t).S.H[b]? = γ.S.H[b]? := by simp [Ghost.cut, List.getElem?_take, hb]
theorem cut_T {i : Nat} (hi : i < t) : (γ.cut h t).S.T[i]? = γ.S.T[i]? := by simp [Ghost.cut, List.getElem?_take, hi]
theorem cut_H' {b : Nat} {x : ABlk} (hx : (γ.cut h t).S.H[b]? = some x) : b < h ∧ γ.S.H[b]? = some x := by
  simp only [Ghost.cut, List.getElem?_take] at hx
  split at hx
  · rename_i hb; exact ⟨hb, hx⟩
  · cases hx
theorem cut_T' {i : Nat} {x : Nat × (Nat × Nat)} (hx : (γ.cut h t).S.T[i]? = some x) : i < t ∧ γ.S.T[i]? = some x := by
  simp only [Ghost.cut, List.getElem?_take] at hx
  split at hx
  · rename_i hb; exact ⟨hb, hx⟩
  · cases hx
theorem cut_blk {b g : Nat} (hb : (γ.cut h t).blkOwns b g) : γ.blkOwns b g := ⟨by
  have := hb.1
  simp only [Ghost.cut, List.length_take] at this
  omega, hb.2⟩
theorem cut_tok {i g : Nat} (hb : (γ.cut h t).tokOwns i g) : i < t ∧ γ.tokOwns i g := by
  obtain ⟨tp, sz, h1, h2, h3⟩ := hb
  obtain ⟨k1, k2⟩ := cut_T' h1
  exact ⟨k1, tp, sz, k2, h2, h3⟩
theorem cut_owns {g : Nat} (ho : (γ.cut h t).owns g) : γ.owns g := by
  rcases ho with ⟨b, hb⟩ | ⟨i, hi⟩
  · exact .inl ⟨b, cut_blk hb⟩
  · exact .inr ⟨i, (cut_tok hi).2⟩
theorem cut_cell {g o : Nat} {v : Value} (hc : γ.cell g o v) : (γ.cut h t).cell g o v :=
  ⟨hc.1, hc.2.1, hc.2.2.1, fun b hb => hc.2.2.2.1 b (cut_blk hb), fun i hi => by
    obtain ⟨h1, h2⟩ := cut_tok hi
    obtain ⟨tp, sz, h3, h4⟩ := hc.2.2.2.2 i h2
    exact ⟨tp, sz, by rw [cut_T h1]; exact h3, h4⟩⟩
theorem cut_cxblk {b e g c : Nat} (hb : b < h) (hx : γ.cx.blk b e g c) : (γ.cut h t).cx.blk b e g c := by
  obtain ⟨x, h1, h2⟩ := hx
  exact ⟨x, by rw [cut_H hb]; exact h1, h2⟩
theorem cut_cxtip {i len : Nat} {base : Option Nat} {cap : Nat} (hi : i < t) (hx : γ.cx.tip i len base cap) : (γ.cut h t).cx.tip i len base cap := by
  obtain ⟨tp, sz, h1, h2⟩ := hx
  exact ⟨tp, sz, by rw [cut_T hi]; exact h1, h2⟩
theorem cut_rt {r : Rt} {n len : Nat} {base : Option Nat} {k cap : Nat} (hc : cloR t r = true) (hr : rtOK γ.cx r n len base k cap) : rtOK (γ.cut h t).cx r n len base k cap := by
  cases r with
  | no => trivial
  | full => exact hr
  | nil => exact hr
  | tok i => exact ⟨cut_cxtip (by simpa [cloR] using hc) hr.1, hr.2⟩

theorem VR.cut {a : AVal} {v : Value} (hv : VR γ.cx a v) : clo h t a = true → VR (γ.cut h t).cx a v := by
  induction hv with
  | dead v => exact fun _ => .dead v
  | undef => exact fun _ => .undef
  | bool b => exact fun _ => .bool b
  | int k n => exact fun _ => .int k n
  | str s => exact fun _ => .str s
  | nilp => exact fun _ => .nilp
  | ptr b e o g c hb => exact fun hc => .ptr b e o g c (cut_cxblk (by simpa [clo] using hc) hb)
  | ipt cs o g k f hcell _ ih =>
    intro hc
    simp only [clo] at hc
    exact .ipt cs o g k f (fun j hj => cut_cell (hcell j hj)) fun j hj => ih j hj (cloL_get cs hc j hj)
  | slz a cap => exact fun _ => .slz a cap
  | slnil r hr =>
    intro hc
    simp only [clo, Bool.and_eq_true] at hc
    exact .slnil r (cut_rt hc.1 hr)
  | sl r n cs g k cap f hn hcell _ hr ih =>
    intro hc
    simp only [clo, Bool.and_eq_true] at hc
    exact .sl r n cs g k cap f hn (fun j hj => cut_cell (hcell j hj)) (fun j hj => ih j hj (cloL_get cs hc.2 j hj)) (cut_rt hc.1 hr)
  | msl b e o n k g c cap hb hn ho => exact fun hc => .msl b e o n k g c cap (cut_cxblk (by simpa [clo] using hc) hb) hn ho
  | nilm => exact fun _ => .nilm
  | map b g c hb => exact fun hc => .map b g c (cut_cxblk (by simpa [clo] using hc) hb)
  | fn f first caps xs ys h1 h2 _ _ ih1 ih2 =>
    intro hc
    simp only [clo, Bool.and_eq_true] at hc
    exact .fn f first caps xs ys h1 h2 (fun j hj => ih1 j hj (cloL_get _ hc.1 j hj)) fun j hj => ih2 j hj (cloL_get _ hc.2 j hj)
  | nilf => exact fun _ => .nilf
  | dpz ty p => exact fun _ => .dpz ty p
  | dpt ty cs g f hcell _ ho ih =>
    intro hc
    simp only [clo] at hc
    exact .dpt ty cs g f (fun j hj => cut_cell (hcell j hj)) (fun j hj => ih j hj (cloL_get cs hc j hj)) ho
  | tpt ty b n g c hb ho => exact fun hc => .tpt ty b n g c (cut_cxblk (by simpa [clo] using hc) hb) ho
  | yld b g c hb => exact fun hc => .yld b g c (cut_cxblk (by simpa [clo] using hc) hb)
  | ifc ty a v _ ih => exact fun hc => .ifc ty a v (ih (by simpa [clo] using hc))
  | nili => exact fun _ => .nili
  | agg cs vs hs _ ho ih =>
    intro hc
    simp only [clo] at hc
    exact .agg cs vs hs (fun j hj => ih j hj (cloL_get cs hc j hj)) ho
  | tup a cs vs hs _ ih =>
    intro hc
    simp only [clo, Bool.and_eq_true] at hc
    refine .tup a cs vs hs fun j hj => ih j hj ?_
    have hl : cloL h t (a :: cs) = true := by simp only [cloL, Bool.and_eq_true]; exact hc
    exact cloL_get _ hl j hj
end

/-- A block names nothing that goes. -/
def cloB (h t : Nat) : ABlk → Bool
  | .cells _ cs => cloL h t cs
  | .amap es => es.all fun p => clo h t p.1 && clo h t p.2
  | .iter mb l c => decide (mb < h) && (l.all fun p => clo h t p.1 && clo h t p.2) && c.all fun p => clo h t p.1 && clo h t p.2
  | .loop _ _ _ _ _ env _ => env.all fun p => clo h t p.2

theorem AL.cut {γ : Ghost} {h t : Nat} {es : List (AVal × AVal)} {l : List MapEntry} (ha : AL γ.cx es l) (hc : (es.all fun p => clo h t p.1 && clo h t p.2) = true) : AL (γ.cut h t).cx es l :=
  ⟨ha.1, fun j hj hj' => by
    have := List.all_eq_true.1 hc _ (List.getElem_mem hj)
    simp only [Bool.and_eq_true] at this
    exact ⟨(ha.2 j hj hj').1.cut this.1, (ha.2 j hj hj').2.cut this.2⟩⟩
theorem ER.cut {γ : Ghost} {h t : Nat} {env : List (Nat × AVal)} {tmps : Array Value} (he : ER γ.cx env tmps) (hc : (env.all fun p => clo h t p.2) = true) : ER (γ.cut h t).cx env tmps := fun i => by
  refine (he i).cut ?_
  clear he
  induction env with
  | nil => rfl
  | cons p env ih =>
    obtain ⟨k, v⟩ := p
    simp only [List.all_cons, Bool.and_eq_true] at hc
    simp only [lk]
    split
    · exact hc.1
    · exact ih hc.2
theorem BR.cut {γ : Ghost} {h t c z : Nat} {x : ABlk} {o : Obj} (hb : BR γ.cx c z x o) (hc : cloB h t x = true) : BR (γ.cut h t).cx c z x o := by
  cases x with
  | cells e cs => obtain ⟨arr, ty, h1, h2, h3, h4, h5⟩ := hb; exact ⟨arr, ty, h1, h2, h3, fun j hj => (h4 j hj).cut (cloL_get cs hc j hj), h5⟩
  | amap es => obtain ⟨en, clk, h1, h2, h3, l, h4, h5⟩ := hb; exact ⟨en, clk, h1, h2, h3, l, h4, h5.cut hc⟩
  | iter mb l q => exact hb
  | loop st pend ps asg body env n => obtain ⟨r, h1, h2, h3, h4, h5, h6, h7, h8⟩ := hb; exact ⟨r, h1, h2, h3, h4, h5, h6, h7.cut hc, h8⟩

section
variable {γ : Ghost} {h t : Nat}
theorem rl_cut (hr : Rl γ) (hc : (γ.S.H.take h).all (cloB h t) = true) : Rl (γ.cut h t) where
  lo := hr.lo
  bad := hr.bad
  objs := fun b x hx => by
    have hm := List.all_eq_true.1 hc _ (List.mem_of_getElem? hx)
    obtain ⟨hb, hx⟩ := cut_H' hx
    obtain ⟨o, k1, k2⟩ := hr.objs b x hx
    exact ⟨o, k1, k2.cut hm⟩
  its := fun b mb left cur hx => by
    have hm := List.all_eq_true.1 hc _ (List.mem_of_getElem? hx)
    obtain ⟨hb, hx⟩ := cut_H' hx
    obtain ⟨es, en, clk, since, seen, c0, g1, g2, g3, g4⟩ := hr.its b mb left cur hx
    simp only [cloB, Bool.and_eq_true, decide_eq_true_eq] at hm
    obtain ⟨l, l1, l2⟩ := g4.left
    refine ⟨es, en, clk, since, seen, c0, (cut_H hm.1.1).trans g1, g2, g3, g4.old, g4.sc, g4.sk, ⟨l, l1, l2.cut hm.1.2⟩, ?_⟩
    have := g4.cur
    cases cur with
    | none => trivial
    | some p =>
      obtain ⟨x, a, s, b, c, d, e⟩ := this
      have h2 := hm.2
      simp only [Option.all_some, Bool.and_eq_true] at h2
      exact ⟨x, a, s, b, c, d.cut h2.1, e.cut h2.2⟩
  toks := fun i g hi => by
    obtain ⟨h1, h2⟩ := cut_tok hi
    obtain ⟨arr, lo, hi', tp, sz, k1, k2, k3, k4⟩ := hr.toks i g h2
    exact ⟨arr, lo, hi', tp, sz, k1, by rw [cut_T h1]; exact k2, k3, k4⟩
  own := fun g hg => hr.own g (cut_owns hg)
  hh := fun b b' g h1 h2 => hr.hh b b' g (cut_blk h1) (cut_blk h2)
  ht := fun b i g h1 h2 => hr.ht b i g (cut_blk h1) (cut_tok h2).2
  tt := fun i i' g h1 h2 => hr.tt i i' g (cut_tok h1).2 (cut_tok h2).2

theorem ext_cut {hk tk : Nat} (h1 : hk ≤ h) (h2 : tk ≤ t) : ExtN hk tk γ (γ.cut h t) where
  bad := rfl
  lo := rfl
  size := Nat.le_refl _
  os := rfl
  tape := rfl
  output := rfl
  cell := fun _ _ _ hc => cut_cell hc
  blk := fun _ _ _ _ hb hx => cut_cxblk (by omega) hx
  tip := fun _ _ _ _ hi hx => cut_cxtip (by omega) hx
  own := fun _ _ _ h => h
  frame := fun _ _ _ => .inl rfl
  owns := fun _ ho => .inl (cut_owns ho)
end

/-- A state of which less is known, and less owned. -/
structure Wm (s0 s : St) : Prop where
  m : s0.m = s.m ∨ (∃ G X, s.m = ⟨s0.m.H ++ G, s0.m.T ++ X⟩) ∧ s0.m.H.all (cloB s0.m.H.length s0.m.T.length) = true ∧ ∀ t, clo s0.m.H.length s0.m.T.length (lk s0.env t) = true
  le : ∀ t, lk s0.env t = lk s.env t ∨ lk s0.env t = .dead

theorem Holds.less {n hk tk : Nat} {γ : Ghost} {s0 s : St} {a : Act} (hw : Wm s0 s) (h1 : hk ≤ s0.m.H.length) (h2 : tk ≤ s0.m.T.length) (hh : Holds n γ s a) : ∃ γ', γ'.w = γ.w ∧ ExtN hk tk γ γ' ∧ Holds n γ' s0 a := by
  rcases hw.m with hm | ⟨⟨G, X, hm⟩, hB, hE⟩
  · refine ⟨γ, rfl, ExtN.refl γ, hh.rl, hh.m.trans hm.symm, fun t => ?_, hh.size⟩
    rcases hw.le t with h | h
    · rw [h]; exact hh.er t
    · rw [h]; exact .dead _
  · have hS : (γ.cut s0.m.H.length s0.m.T.length).S = s0.m := by
      have := hh.m
      simp only [Ghost.cut, this, hm, List.take_left']
    refine ⟨γ.cut s0.m.H.length s0.m.T.length, rfl, ext_cut h1 h2, rl_cut hh.rl ?_, hS, fun t => ?_, hh.size⟩
    · have := hh.m
      rw [this, hm]
      simpa only [List.take_left'] using hB
    · rcases hw.le t with h | h
      · have := hE t
        rw [h] at this ⊢
        exact (hh.er t).cut this
      · rw [h]; exact .dead _
end Go.Hk
/- Code: what holds behind it, over abstract states. -/
namespace Go.Hk

/-- Marks that rounds have left: of what is deferred, nothing. -/
def mark (D : Nat) : Deferred := { target := .collected D, args := #[] }
structure Mk (z : Nat) (γ : Ghost) (ds : List Deferred) : Prop where
  le : z ≤ γ.w.heap.size
  ds : ∃ Ds : List Nat, ds = Ds.map mark ∧ Ds.Nodup ∧ ∀ D ∈ Ds, z ≤ D ∧ γ.w.heap[D]? = some (.deferred (some [])) ∧ ¬ γ.owns D
theorem Mk.nil {z : Nat} {γ : Ghost} (h : z ≤ γ.w.heap.size) : Mk z γ [] := ⟨h, [], rfl, List.nodup_nil, fun _ h => absurd h (by simp)⟩
theorem ExtN.unowned {hk tk : Nat} {γ γ' : Ghost} (he : ExtN hk tk γ γ') {D : Nat} {x : Option (List Deferred)} (h : γ.w.heap[D]? = some (.deferred x)) (ho : ¬ γ.owns D) : γ'.w.heap[D]? = some (.deferred x) ∧ ¬ γ'.owns D := by
  have hlt := heap_lt h
  refine ⟨?_, fun h' => ?_⟩
  · rcases he.frame D hlt ho with h1 | ⟨_, arr, ty, f, f', h1, _⟩
    · rw [h1]; exact h
    · rw [h] at h1; cases h1
  · rcases he.owns D h' with h1 | h1
    · exact ho h1
    · omega
theorem Mk.ext {z hk tk : Nat} {γ γ' : Ghost} {ds : List Deferred} (h : Mk z γ ds) (he : ExtN hk tk γ γ') : Mk z γ' ds := by
  obtain ⟨h1, Ds, h2, h3, h4⟩ := h
  exact ⟨Nat.le_trans h1 he.size, Ds, h2, h3, fun D hD => by
    obtain ⟨k1, k2, k3⟩ := h4 D hD
    exact ⟨k1, he.unowned k2 k3⟩⟩

/-- Behind a piece of code that began at the ghost γ: some abstract state, of which Q. -/
def AQ (z hk tk : Nat) (γ : Ghost) (n : Nat) (Q : Exit → St → Prop) : Exit → Act → World → Prop := fun e a w =>
  ∃ γ' s, γ'.w = w ∧ ExtN hk tk γ γ' ∧ (Holds n γ' s a ∧ Mk z γ' a.defers) ∧ Q e s

/-- Is there a range over a function? -/
def rf : Code → Bool
  | .rangeFunc _ _ _ _ => true
  | .seq a b => rf a || rf b
  | .cond _ a b => rf a || rf b
  | .block _ a => rf a
  | .loop a => rf a
  | .scope a => rf a
  | _ => false

/-- From the abstract state s on, code c ends in a way, and in an abstract state, of which Q. -/
def AWp (P : Program) (n hk tk : Nat) (c : Code) (Q : Exit → St → Prop) (s : St) : Prop :=
  ∀ (ro : Option Nat) (z : Nat) γ a, (rf c = true → ro = none) → Holds n γ s a → Mk z γ a.defers → c.wpIn (wfen ro) 0 P (AQ z hk tk γ n Q) a γ.w

section rules
variable {P : Program} {n hk tk : Nat} {Q : Exit → St → Prop} {s : St}

theorem AQ.trans {z : Nat} {γ γ' : Ghost} (h : ExtN hk tk γ γ') {e : Exit} {a : Act} {w : World} (k : AQ z hk tk γ' n Q e a w) : AQ z hk tk γ n Q e a w := by
  obtain ⟨γ'', s, h1, h2, h3, h4⟩ := k
  exact ⟨γ'', s, h1, h.trans h2, h3, h4⟩

theorem AWp.mono {c : Code} {Q' : Exit → St → Prop} (h : AWp P n hk tk c Q s) (hq : ∀ e s, Q e s → Q' e s) : AWp P n hk tk c Q' s := fun ro z γ a hro hh hm =>
  wpIn_mono (h ro z γ a hro hh hm) fun _ _ _ ⟨γ', s', h1, h2, h3, h4⟩ => ⟨γ', s', h1, h2, h3, hq _ _ h4⟩

theorem AWp.skip (h : Q .normal s) : AWp P n hk tk .skip Q s := fun _ _ γ _ _ hh hm => wpIn_skip ⟨γ, s, rfl, ExtN.refl γ, ⟨hh, hm⟩, h⟩
theorem AWp.ret (h : Q .ret s) : AWp P n hk tk .ret Q s := fun _ _ γ _ _ hh hm => wpIn_ret ⟨γ, s, rfl, ExtN.refl γ, ⟨hh, hm⟩, h⟩
theorem AWp.exit {id : Nat} (h : Q (.exit id) s) : AWp P n hk tk (.exit id) Q s := fun _ _ γ _ _ hh hm => wpIn_exit ⟨γ, s, rfl, ExtN.refl γ, ⟨hh, hm⟩, h⟩
theorem AWp.label {l : Nat} (h : Q .normal s) : AWp P n hk tk (.label l) Q s := fun _ _ γ _ _ hh hm => wpIn_label ⟨γ, s, rfl, ExtN.refl γ, ⟨hh, hm⟩, h⟩

/-- What is asked behind the first of two pieces. -/
def seqQ (next : St → Prop) (Q : Exit → St → Prop) : Exit → St → Prop
  | .normal, s => next s
  | e, s => Q e s

theorem AWp.seq {x y : Code} (h : AWp P n hk tk x (seqQ (AWp P n hk tk y Q) Q) s) : AWp P n hk tk (.seq x y) Q s := fun ro z γ a hro hh hm => by
  have h1 : rf x = true → ro = none := fun h => hro (by simp [rf, h])
  have h2 : rf y = true → ro = none := fun h => hro (by simp [rf, h])
  refine wpIn_seq (wpIn_mono (h ro z γ a h1 hh hm) fun e a' w' hq => ?_)
  obtain ⟨γ', s', rfl, k2, k3, k4⟩ := hq
  cases e <;> simp only [seqQ] at k4
  case normal => exact wpIn_mono (k4 ro z γ' a' h2 k3.1 k3.2) fun _ _ _ k => AQ.trans k2 k
  all_goals exact ⟨γ', s', rfl, k2, k3, k4⟩

theorem AWp.cond {c : Operand} {x y : Code} {t : Bool} (hc : ev s.env c = .bool t) (h : AWp P n hk tk (if t then x else y) Q s) : AWp P n hk tk (.cond c x y) Q s := fun ro z γ a hro hh hm => by
  have hv := hh.er.ev c
  rw [hc] at hv
  have : a.eval c = .bool t := by cases hav : a.eval c <;> rw [hav] at hv <;> cases hv; rfl
  exact wpIn_cond this (h ro z γ a (fun h => hro (by cases t <;> simp_all [rf])) hh hm)

def blockQ (id : Nat) (Q : Exit → St → Prop) : Exit → St → Prop
  | .exit id', s => if id' = id then Q .normal s else Q (.exit id') s
  | e, s => Q e s

theorem AWp.block {id : Nat} {c : Code} (h : AWp P n hk tk c (blockQ id Q) s) : AWp P n hk tk (.block id c) Q s := fun ro z γ a hro hh hm => by
  refine wpIn_block (wpIn_mono (h ro z γ a (fun h => hro (by simp [rf, h])) hh hm) fun e a' w' hq => ?_)
  obtain ⟨γ', s', rfl, h2, h3, h4⟩ := hq
  cases e <;> simp only [blockQ] at h4
  case exit id' =>
    simp only [Exit.inBlock]
    split
    · rename_i hid; rw [if_pos hid] at h4; exact ⟨γ', s', rfl, h2, h3, h4⟩
    · rename_i hid; rw [if_neg hid] at h4; exact ⟨γ', s', rfl, h2, h3, h4⟩
  all_goals exact ⟨γ', s', rfl, h2, h3, h4⟩

/-- A loop, with a number that every round lowers. -/
theorem wpIn_loop_ghost {F : Fence} {m : Nat} {c : Code} {Q : Exit → Act → World → Prop} (I : Nat → Act → World → Prop)
    (round : ∀ k a w, I k a w → c.wpIn F m P (Exit.then (fun a' w' => ∃ k', k' < k ∧ I k' a' w') Q) a w) : ∀ (k : Nat) (a : Act) (w : World), I k a w → (Code.loop c).wpIn F m P Q a w := by
  intro k a w hI b r cs hro hb hr
  have key : ∀ j a w, I j a w → ∃ e a' w', Q e a' w' ∧ ArrivesIn (Machine.fenced P F) P (lone (b.atR a (.code c :: .inLoop c :: r)) cs w) b r cs e a' w' := by
    intro j
    induction j using Nat.strongRecOn with
    | _ j ih =>
      intro a w hI
      obtain ⟨e, a₁, w₁, hq, harr⟩ := round j a w hI b (.inLoop c :: r) cs hro hb hr
      cases e with
      | normal =>
        obtain ⟨k', hlt, hI₁⟩ := hq
        obtain ⟨e₂, a₂, w₂, hq₂, harr₂⟩ := ih k' hlt a₁ w₁ hI₁
        exact ⟨e₂, a₂, w₂, hq₂, .of_steps (StepsIn.trans harr (.one (fenced_calm hb hr rfl) stepR_inLoop)) harr₂⟩
      | exit id => exact ⟨_, a₁, w₁, hq, .pass (x := .inLoop c) rfl (fun _ _ => .inl (by simp)) harr⟩
      | goto l => exact ⟨_, a₁, w₁, hq, .pass (x := .inLoop c) rfl (fun _ _ => .inl (by simp)) harr⟩
      | ret => exact ⟨_, a₁, w₁, hq, .pass (x := .inLoop c) rfl (fun _ _ => .inl (by simp)) harr⟩
      | panic ch => exact ⟨_, a₁, w₁, hq, .pass (x := .inLoop c) rfl (fun _ _ => .inl (by simp)) harr⟩
      | outgrown => exact ⟨_, a₁, w₁, hq, .pass (x := .inLoop c) rfl (fun _ _ => .inl (by simp)) harr⟩
  obtain ⟨e, a', w', hq, harr⟩ := key k a w hI
  exact ⟨e, a', w', hq, .of_steps (.one (fenced_calm hb hr rfl) stepR_loop) harr⟩

/-- A loop: what holds at each round's head, with a number that every round lowers. -/
theorem AWp.loop {c : Code} (I : Nat → St → Prop) (round : ∀ k s, I k s → AWp P n hk tk c (seqQ (fun s' => ∃ k', k' < k ∧ I k' s') Q) s) {k : Nat} (h : I k s) : AWp P n hk tk (.loop c) Q s := fun ro z γ a hro hh hm => by
  refine wpIn_loop_ghost (fun k a w => ∃ γ' s', γ'.w = w ∧ ExtN hk tk γ γ' ∧ (Holds n γ' s' a ∧ Mk z γ' a.defers) ∧ I k s') (fun k a w hI => ?_) k a γ.w ⟨γ, s, rfl, ExtN.refl γ, ⟨hh, hm⟩, h⟩
  obtain ⟨γ', s', rfl, h2, h3, h4⟩ := hI
  refine wpIn_mono (round k s' h4 ro z γ' a (fun h => hro (by simp [rf, h])) h3.1 h3.2) fun e a' w' hq => ?_
  obtain ⟨γ'', s'', rfl, k2, k3, k4⟩ := hq
  cases e <;> simp only [seqQ] at k4
  case normal =>
    obtain ⟨k', hlt, hI'⟩ := k4
    exact ⟨k', hlt, γ'', s'', rfl, h2.trans k2, k3, hI'⟩
  all_goals exact ⟨γ'', s'', rfl, h2.trans k2, k3, k4⟩

/-- Every temporary that is written is there. -/
def dstOK (n : Nat) (ops : List Oper) : Bool := ops.all fun o => match o.dst with | some d => decide (d < n) | none => true

theorem dstOK_spec {n : Nat} {ops : List Oper} (h : dstOK n ops = true) : ∀ o ∈ ops, ∀ x, o.dst = some x → x < n := by
  intro o ho x hx
  have := List.all_eq_true.1 h o ho
  simpa [hx] using this

theorem AWp.region {Γ : Gam} (hΓ : Sound P Γ) {mu : Bool} {id : Nat} {ops : Array Oper} {s' : St} (hd : dstOK n ops.toList = true) (he : aops P Γ mu ops ops.toList s = some s') (h : Q .normal s') : AWp P n hk tk (.region id ops false) Q s := fun ro z γ a _ hh hm =>
  wpIn_region_list (aops_sound hΓ ops.toList γ a s s' (dstOK_spec hd) hh he fun _ γ' hh' hext hdf => ⟨γ', s', rfl, hext.toN, ⟨hh', by rw [hdf]; exact hm.ext hext.toN (hk := 0) (tk := 0)⟩, h⟩)

end rules

/-! ### Functions -/

def envFrom : Nat → List AVal → List (Nat × AVal)
  | _, [] => []
  | i, v :: vs => (i, v) :: envFrom (i + 1) vs

theorem lk_envFrom : ∀ (vs : List AVal) (i t : Nat), lk (envFrom i vs) t = if i ≤ t then vs.getD (t - i) .dead else .dead
  | [], i, t => by simp [envFrom, lk]
  | v :: vs, i, t => by
    simp only [envFrom, lk]
    by_cases h : i = t
    · subst h; simp
    · rw [if_neg h, lk_envFrom vs (i + 1) t]
      by_cases h2 : i ≤ t
      · rw [if_pos h2, if_pos (by omega)]
        rw [show t - i = (t - (i + 1)) + 1 by omega]
        simp
      · rw [if_neg h2, if_neg (by omega)]

def aresL (P : Program) (s : St) : List ResultVar → Option (List AVal)
  | [] => some []
  | .tmp t :: r => (match aresL P s r with | some vs => some (lk s.env t :: vs) | none => none)
  | .cell a t :: r => (match aload P t s.m (lk s.env a), aresL P s r with | some v, some vs => some (v :: vs) | _, _ => none)

/-- What a function hands back. -/
def ares (P : Program) (rs : List ResultVar) (s : St) : Option AVal :=
  match aresL P s rs with
  | some [] => some .undef
  | some [v] => some v
  | some (v :: w :: r) => some (.tup v (w :: r))
  | none => none

theorem aresL_sound {P : Program} {n : Nat} {γ : Ghost} {s : St} {a : Act} (h : Holds n γ s a) : ∀ (rs : List ResultVar) (vs : List AVal), aresL P s rs = some vs →
    ∃ us : List Value, (rs.mapM (m := Sem) fun r => match r with | .tmp t => pure (a.tmps.getD t undef) | .cell x t => do loadVar t (← asAddr (a.tmps.getD x undef))).run P γ.w = .ok us γ.w ∧
      us.length = vs.length ∧ ∀ (j : Nat) (h : j < vs.length), VR γ.cx vs[j] (us.getD j undef)
  | [], vs, hv => by
    simp only [aresL, Option.some.injEq] at hv; subst hv
    exact ⟨[], by simp, rfl, fun j h => absurd h (Nat.not_lt_zero j)⟩
  | .tmp t :: r, vs, hv => by
    simp only [aresL] at hv
    split at hv
    · rename_i ws hws
      simp only [Option.some.injEq] at hv; subst hv
      obtain ⟨us, h1, h2, h3⟩ := aresL_sound h r ws hws
      refine ⟨a.tmps.getD t undef :: us, ?_, by simp [h2], fun j hj => ?_⟩
      · rw [List.mapM_cons]
        simp only [Sem.run_bind, Sem.run_pure, Result.andThen_ok, h1]
      · cases j with
        | zero => exact h.er t
        | succ j => exact h3 j (Nat.lt_of_succ_lt_succ hj)
    · cases hv
  | .cell x t :: r, vs, hv => by
    simp only [aresL] at hv
    split at hv
    · rename_i v ws hld hws
      simp only [Option.some.injEq] at hv; subst hv
      obtain ⟨us, h1, h2, h3⟩ := aresL_sound h r ws hws
      rw [← h.m] at hld
      obtain ⟨u, k1, k2⟩ := aload_sound (P := P) h.rl hld (h.er x)
      have hadr : ∃ ad, a.tmps.getD x undef = .pointer (some ad) := by
        have hx := h.er x
        generalize a.tmps.getD x undef = y at hx
        cases hl : lk s.env x <;> rw [hl] at hld <;> simp only [aload, reduceCtorEq] at hld <;> rw [hl] at hx <;> cases hx <;> exact ⟨_, rfl⟩
      obtain ⟨ad, had⟩ := hadr
      rw [had] at k1
      have k1' : (loadVar t ad).run P γ.w = .ok u γ.w := by simpa [Instr.loadAt, Instr.sureAddr] using k1
      refine ⟨u :: us, ?_, by simp [h2], fun j hj => ?_⟩
      · rw [List.mapM_cons]
        have e1 : ((do loadVar t (← asAddr (a.tmps.getD x undef))) : Sem Value).run P γ.w = .ok u γ.w := by simp [had, asAddr, k1']
        rw [Sem.run_bind]
        refine (congrArg (fun r => Result.andThen r _) e1).trans ?_
        simp only [Result.andThen_ok]
        rw [Sem.run_bind]
        exact (congrArg (fun r => Result.andThen r _) h1).trans rfl
      · cases j with
        | zero => exact k2
        | succ j => exact h3 j (Nat.lt_of_succ_lt_succ hj)
    · cases hv

theorem ares_sound {P : Program} {n : Nat} {γ : Ghost} {s : St} {a : Act} (h : Holds n γ s a) {fn : Func} {v : AVal} (hv : ares P fn.results.toList s = some v) : ∃ u, (results fn a.tmps).run P γ.w = .ok u γ.w ∧ VR γ.cx v u := by
  unfold ares at hv
  have key : ∀ vs, aresL P s fn.results.toList = some vs → ∃ us : List Value, us.length = vs.length ∧ (∀ (j : Nat) (h : j < vs.length), VR γ.cx vs[j] (us.getD j undef)) ∧
      (results fn a.tmps).run P γ.w = .ok (if h : us.toArray.size = 1 then us.toArray[0] else .tuple us.toArray) γ.w := by
    intro vs hvs
    obtain ⟨us, h1, h2, h3⟩ := aresL_sound h _ _ hvs
    refine ⟨us, h2, h3, ?_⟩
    have hm : (fn.results.mapM (m := Sem) fun r => match r with | .tmp t => pure (a.tmps.getD t undef) | .cell x t => do loadVar t (← asAddr (a.tmps.getD x undef))).run P γ.w = .ok us.toArray γ.w := by
      rw [← Array.toArray_toList (xs := fn.results), List.mapM_toArray, Sem.run_map, h1]
      rfl
    unfold results
    rw [Sem.run_bind]
    exact (congrArg (fun r => Result.andThen r _) hm).trans rfl
  split at hv
  · rename_i hl
    simp only [Option.some.injEq] at hv; subst hv
    obtain ⟨us, h1, h2, h3⟩ := key _ hl
    have : us = [] := List.eq_nil_of_length_eq_zero (by simpa using h1)
    subst this
    exact ⟨_, h3, by simpa using VR.undef⟩
  · rename_i x hl
    simp only [Option.some.injEq] at hv; subst hv
    obtain ⟨us, h1, h2, h3⟩ := key _ hl
    cases us with
    | nil => simp at h1
    | cons u us =>
      cases us with
      | cons => simp at h1
      | nil => exact ⟨_, h3, by simpa using h2 0 (by simp)⟩
  · rename_i x y r hl
    simp only [Option.some.injEq] at hv; subst hv
    obtain ⟨us, h1, h2, h3⟩ := key _ hl
    refine ⟨_, h3, ?_⟩
    have hne : ¬ (us.toArray.size = 1) := by simp at h1 ⊢; omega
    rw [dif_neg hne]
    exact .tup x (y :: r) us.toArray (by simpa using h1) (fun j hj => by simpa using h2 j hj)
  · cases hv

/-- What a body that began at these arguments is asked. -/
def FnQ (P : Program) (rs : List ResultVar) (R : AVal → St → Prop) : Exit → St → Prop
  | .normal, s | .ret, s => ∃ r, ares P rs s = some r ∧ R r s
  | _, _ => False

theorem ext_drop {γ γ' : Ghost} (h0 : γ.S = ⟨[], []⟩) (h : Ext γ γ') : Ext γ γ'.drop where
  bad := h.bad
  lo := h.lo
  size := h.size
  os := h.os
  tape := h.tape
  output := h.output
  cell := fun g o v hc => drop_cell (h.cell g o v hc)
  blk := fun b e g c ⟨y, hy, _⟩ => by rw [h0] at hy; simp at hy
  tip := fun t len b c ⟨y, z, hy, _⟩ => by rw [h0] at hy; simp at hy
  own := h.own
  frame := h.frame
  owns := fun k hk => by
    rcases hk with ⟨b, hb⟩ | ⟨t, ht⟩
    · exact absurd hb drop_noblk
    · exact absurd ht drop_notok

theorem enter_holds {γ : Ghost} {args : List AVal} {vals : Array Value} {m : AMem} (hr : Rl γ) (hm : γ.S = m) (hv : VRs γ.cx args vals) {n : Nat} (hn : args.length ≤ n) :
    Holds n γ ⟨envFrom 0 args, m⟩ { tmps := vals ++ Array.replicate (n - vals.size) undef, defers := [] } := by
  refine ⟨hr, hm, fun t => ?_, by simp [hv.1]; omega⟩
  rw [lk_envFrom, if_pos (Nat.zero_le _), Nat.sub_zero]
  by_cases ht : t < args.length
  · have := hv.2 t ht
    simp only [Array.getD_eq_getD_getElem?, List.getD_eq_getElem?_getD, List.getElem?_eq_getElem ht, Option.getD_some] at this ⊢
    rw [Array.getElem?_append_left (by rw [hv.1]; exact ht)]
    exact this
  · rw [List.getD_eq_getElem?_getD, List.getElem?_eq_none (by omega)]
    exact .dead _

/-! ### Marks are shut on the way out -/
section shut
variable {γ : Ghost} {D : Nat} {x : Option (List Deferred)}
def Ghost.shut (γ : Ghost) (D : Nat) : Ghost := { γ with w := γ.w.putObj D (.deferred none) }
theorem shut_other {k : Nat} (h : k ≠ D) : (γ.shut D).w.heap[k]? = γ.w.heap[k]? := World.putObj_heap_other h
theorem shut_obj {k : Nat} {o : Obj} (hD : γ.w.heap[D]? = some (.deferred x)) (h : γ.w.heap[k]? = some o) (ho : ∀ y, o ≠ .deferred y) : (γ.shut D).w.heap[k]? = some o := by
  rw [shut_other]
  · exact h
  · intro he; subst he; rw [hD] at h; cases h; exact ho _ rfl
theorem shut_cell (hD : γ.w.heap[D]? = some (.deferred x)) {g o : Nat} {v : Value} (h : γ.cell g o v) : (γ.shut D).cell g o v := by
  refine ⟨?_, h.2⟩
  have hne : g ≠ D := fun he => by
    subst he
    have := h.1
    simp [World.cell?, hD] at this
  rw [show (γ.shut D).w.cell? ⟨g, o, none⟩ = γ.w.cell? ⟨g, o, none⟩ from World.cell?_of_block (w := γ.w) (shut_other hne)]
  exact h.1
theorem shut_own (hD : γ.w.heap[D]? = some (.deferred x)) {g : Nat} {t : TypeId} {n : Nat} (h : γ.own g t n) : (γ.shut D).own g t n :=
  own_of (γ := γ) (γ' := γ.shut D) rfl (fun g arr ty fz hg => ⟨arr, fz, shut_obj hD hg (by simp), Nat.le_refl _⟩) h
theorem shut_le (hD : γ.w.heap[D]? = some (.deferred x)) : γ.cx.le (γ.shut D).cx :=
  ⟨fun _ _ _ => shut_cell hD, fun _ _ _ _ h => h, fun _ _ _ _ h => tip_of (γ := γ) (γ' := γ.shut D) rfl rfl rfl (fun _ _ => shut_own hD) h, fun _ _ _ => shut_own hD⟩
theorem shut_size : (γ.shut D).w.heap.size = γ.w.heap.size := by simp [Ghost.shut]
theorem rl_shut (hr : Rl γ) (hD : γ.w.heap[D]? = some (.deferred x)) : Rl (γ.shut D) where
  lo := by rw [shut_size]; exact hr.lo
  bad := hr.bad
  objs := fun b y hb => by
    obtain ⟨o, h1, h2⟩ := hr.objs b y hb
    refine ⟨o, shut_obj hD h1 fun z he => ?_, h2.mono (shut_le hD)⟩
    subst he
    cases y with
    | cells e cs => obtain ⟨_, _, h1, _⟩ := h2; cases h1
    | amap es => obtain ⟨_, _, h1, _⟩ := h2; cases h1
    | iter mb l q => obtain ⟨_, _, _, _, h1⟩ := h2; cases h1
    | loop st pend ps asg body env n => obtain ⟨_, h1, _⟩ := h2; cases h1
  its := fun b mb left cur hb => by
    obtain ⟨es, en, clk, since, seen, c0, h1, h2, h3, h4⟩ := hr.its b mb left cur hb
    exact ⟨es, en, clk, since, seen, c0, h1, shut_obj hD h2 (by simp), shut_obj hD h3 (by simp), h4.mono (shut_le hD)⟩
  toks := fun t g ht => by
    obtain ⟨arr, lo, hi, tp, sz, h1, h2⟩ := hr.toks t g ht
    exact ⟨arr, lo, hi, tp, sz, shut_obj hD h1 (by simp), h2⟩
  own := fun g h => by rw [shut_size]; exact hr.own g h
  hh := hr.hh
  ht := hr.ht
  tt := hr.tt
theorem ext_shut {γ0 : Ghost} {hk tk : Nat} (he : ExtN hk tk γ0 γ) (hD : γ.w.heap[D]? = some (.deferred x)) (hl : γ0.w.heap.size ≤ D) : ExtN hk tk γ0 (γ.shut D) where
  bad := he.bad
  lo := he.lo
  size := by rw [shut_size]; exact he.size
  os := he.os
  tape := he.tape
  output := he.output
  cell := fun g o v h => shut_cell hD (he.cell g o v h)
  blk := fun b e g c hb h => he.blk b e g c hb h
  tip := fun t len base cap ht h => (shut_le hD).tip _ _ _ _ (he.tip t len base cap ht h)
  own := fun g t n h => shut_own hD (he.own g t n h)
  frame := fun k hk ho => by
    rcases he.frame k hk ho with h | ⟨h1, arr, ty, f, f', h2, h3⟩
    · exact .inl ((shut_other (by omega)).trans h)
    · exact .inr ⟨h1, arr, ty, f, f', h2, (shut_other (by omega)).trans h3⟩
  owns := fun k h => he.owns k h
end shut

/-- A frame leaves: its marks are shut, and what it hands back is read. -/
theorem leaves_marks {P : Program} {fn : Func} {n hk tk : Nat} {γ0 : Ghost} {s : St} {a : Act} {R : Ending → World → Prop} : ∀ (Ds : List Nat) (γ : Ghost), Ds.Nodup → (∀ D ∈ Ds, γ0.w.heap.size ≤ D ∧ γ.w.heap[D]? = some (.deferred (some [])) ∧ ¬ γ.owns D) → Holds n γ s a → ExtN hk tk γ0 γ →
    (∀ γ' : Ghost, Holds n γ' s a → ExtN hk tk γ0 γ' → ∃ u, (results fn a.tmps).run P γ'.w = .ok u γ'.w ∧ R (.returned u) γ'.w) → LeavesInM Fence.wide 0 P fn a.tmps R (Ds.map mark) .returning γ.w
  | [], γ, _, _, hh, he, h => h γ hh he
  | D :: Ds, γ, hn, hD, hh, he, h => by
    obtain ⟨k1, k2, k3⟩ := hD D (by simp)
    refine ⟨by simp, .inl ⟨D, _, rfl, run_takeDeferred k2, ?_⟩⟩
    have hn2 := List.nodup_cons.1 hn
    refine leaves_marks Ds (γ.shut D) hn2.2 (fun D' hD' => ?_) ⟨rl_shut hh.rl k2, hh.m, hh.er.mono (shut_le k2), hh.size⟩ (ext_shut he k2 k1) h
    obtain ⟨j1, j2, j3⟩ := hD D' (by simp [hD'])
    exact ⟨j1, (shut_other (fun e => by subst e; exact hn2.1 hD')).trans j2, j3⟩

/-- A call, out of its body's walk. -/
theorem calls_of_awp {P : Program} {f : FuncId} {fn : Func} {c : Code} {γ : Ghost} {vals : Array Value} {s : St} {hk tk : Nat} {Rr : AVal → St → Prop} {R : Ending → World → Prop} (hf : P.funcs[f]? = some fn) (hb : fn.body = some c)
    (hh : Holds fn.ntmps γ s { tmps := vals ++ Array.replicate (fn.ntmps - vals.size) undef, defers := [] })
    (h : AWp P fn.ntmps hk tk c (FnQ P fn.results.toList Rr) s)
    (hR : ∀ (γ' : Ghost) (s' : St) (r : AVal) (u : Value), Rl γ' → γ'.S = s'.m → ExtN hk tk γ γ' → Rr r s' → VR γ'.cx r u → R (.returned u) γ'.w) : Calls P f vals γ.w R := by
  refine callsIn_wide.1 (callsIn_of_wp_marks (n := 0) (F := Fence.wide) hf hb trivial (wpIn_mono (h none γ.w.heap.size γ _ (fun _ => rfl) hh (Mk.nil (Nat.le_refl _))) fun e a w hq => ?_))
  obtain ⟨γ', s', rfl, h2, ⟨h3, h4⟩, h5⟩ := hq
  obtain ⟨_, Ds, k1, k2, k3⟩ := h4
  have key : ∀ r, ares P fn.results.toList s' = some r → Rr r s' → LeavesInM Fence.wide 0 P fn a.tmps R a.defers .returning γ'.w := fun r hr hrr => by
    rw [k1]
    refine leaves_marks Ds γ' k2 k3 h3 h2 fun γ'' hh'' he'' => ?_
    obtain ⟨u, u1, u2⟩ := ares_sound hh'' hr
    exact ⟨u, u1, hR γ'' s' r u hh''.rl hh''.m he'' hrr u2⟩
  cases e <;> simp only [FnQ] at h5
  all_goals
    obtain ⟨r, hr, hrr⟩ := h5
    exact key r hr hrr

/-- A function's contract, out of its body: it looks at nothing but its arguments. -/
theorem PCall.of_body {P : Program} {f : FuncId} {fn : Func} {c : Code} {args : List AVal} {r : AVal} (hf : P.funcs[f]? = some fn) (hb : fn.body = some c) (hen : enterable P f = true) (hn : args.length ≤ fn.ntmps)
    (h : AWp P fn.ntmps 0 0 c (FnQ P fn.results.toList fun r0 s => view 8 s.m r0 = some r) ⟨envFrom 0 args, ⟨[], []⟩⟩) : PCall P f args r := by
  refine ⟨hen, fun γ vals hr hm hv => calls_of_awp hf hb (enter_holds hr hm hv hn) h fun γ' s' r0 u hr' hm' he hrr hvr => ?_⟩
  have he : Ext γ γ' := ExtN.full (by rw [hm]; exact he)
  exact ⟨u, γ'.drop, rfl, rfl, rfl, ext_drop hm he, rl_drop hr', view_sound hr' _ _ _ _ (by rw [hm']; exact hrr) hvr⟩

/-- What a function leaves: the memory said, and perhaps what nobody names. -/
def Left (r : AVal) (m' m : AMem) : Prop :=
  m = m' ∨ (∃ G X, m = ⟨m'.H ++ G, m'.T ++ X⟩) ∧ m'.H.all (cloB m'.H.length m'.T.length) = true ∧ clo m'.H.length m'.T.length r = true

/-- The same of a function that is handed memory to write. -/
theorem RCall.of_body {P : Program} {f : FuncId} {fn : Func} {c : Code} {args : List AVal} {r : AVal} {m m' : AMem} (hf : P.funcs[f]? = some fn) (hb : fn.body = some c) (hen : enterable P f = true) (hn : args.length ≤ fn.ntmps)
    (hH : m.H.length ≤ m'.H.length) (hT : m.T.length ≤ m'.T.length)
    (h : AWp P fn.ntmps m.H.length m.T.length c (FnQ P fn.results.toList fun r0 s => r0 = r ∧ Left r m' s.m) ⟨envFrom 0 args, m⟩) : RCall P f args m r m' := by
  refine ⟨hen, fun γ vals hr hm hv => calls_of_awp hf hb (enter_holds hr hm hv hn) h fun γ' s' r0 u hr' hm' he hrr hvr => ?_⟩
  obtain ⟨rfl, hl⟩ := hrr
  rcases hl with hl | ⟨⟨G, X, hl⟩, hB, hc⟩
  · exact ⟨u, γ', rfl, rfl, hm'.trans hl, ExtN.full (by rw [hm]; exact he), hr', hvr⟩
  · have hS : (γ'.cut m'.H.length m'.T.length).S = m' := by
      simp only [Ghost.cut, hm', hl, List.take_left']
    refine ⟨u, γ'.cut m'.H.length m'.T.length, rfl, rfl, hS, ExtN.full ?_, rl_cut hr' ?_, hvr.cut hc⟩
    · rw [hm]
      exact he.trans (ext_cut hH hT)
    · rw [hm', hl]
      simpa only [List.take_left'] using hB

/-- The memory that is left, where what is handed back names nothing. -/
def LeftM (m' m : AMem) : Prop := m = m' ∨ (∃ G X, m = ⟨m'.H ++ G, m'.T ++ X⟩) ∧ m'.H.all (cloB m'.H.length m'.T.length) = true
/-- The same, where what is handed back bears no rights. -/
theorem RCall.of_body_s {P : Program} {f : FuncId} {fn : Func} {c : Code} {args : List AVal} {r : AVal} {m m' : AMem} (hf : P.funcs[f]? = some fn) (hb : fn.body = some c) (hen : enterable P f = true) (hn : args.length ≤ fn.ntmps)
    (hH : m.H.length ≤ m'.H.length) (hT : m.T.length ≤ m'.T.length)
    (h : AWp P fn.ntmps m.H.length m.T.length c (FnQ P fn.results.toList fun r0 s => strip r0 = some r ∧ LeftM m' s.m) ⟨envFrom 0 args, m⟩) : RCall P f args m r m' := by
  refine ⟨hen, fun γ vals hr hm hv => calls_of_awp hf hb (enter_holds hr hm hv hn) h fun γ' s' r0 u hr' hm' he hrr hvr => ?_⟩
  obtain ⟨hs, hl⟩ := hrr
  rcases hl with hl | ⟨⟨G, X, hl⟩, hB⟩
  · exact ⟨u, γ', rfl, rfl, hm'.trans hl, ExtN.full (by rw [hm]; exact he), hr', strip_sound (fun _ _ _ h => h) hvr _ hs⟩
  · have hS : (γ'.cut m'.H.length m'.T.length).S = m' := by
      simp only [Ghost.cut, hm', hl, List.take_left']
    refine ⟨u, γ'.cut m'.H.length m'.T.length, rfl, rfl, hS, ExtN.full ?_, rl_cut hr' ?_, (strip_sound (fun _ _ _ h => h) hvr _ hs).cut (clo_strip _ _ hs)⟩
    · rw [hm]
      exact he.trans (ext_cut hH hT)
    · rw [hm', hl]
      simpa only [List.take_left'] using hB

end Go.Hk
/- Two functions of the library that the model runs in one step: NoEscape, MakeNoZero. -/
set_option linter.unusedSimpArgs false
set_option linter.unusedVariables false
namespace Go.Hk
open Go.RowKit
theorem vals_one {vals : Array Value} (h : vals.size = 1) : vals = #[vals.getD 0 undef] := by
  match vals, h with
  | ⟨[x]⟩, _ => rfl
end Go.Hk
