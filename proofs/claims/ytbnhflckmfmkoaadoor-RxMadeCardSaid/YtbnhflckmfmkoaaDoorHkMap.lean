/- Maps: keys, and what is found under them. -/
import Derived.Test.YtbnhflckmfmkoaaDoorHkG
set_option linter.unusedSimpArgs false
namespace Go.Hk
open Go.RowKit

/-- May this value be a key of this type? -/
def akey (P : Program) : Nat → TypeId → AVal → Bool
  | 0, _, _ => false
  | d + 1, t, x =>
    match tiOf P t with
    | none => false
    | some I =>
      match I.k, x with
      | .bool, .bool _ => true
      | .int _, .int _ _ => true
      | .str, .str _ => true
      | .arr n e, .agg cs =>
        match tiOf P e with
        | some E => (List.range n).all fun i => match apart P e cs (i * E.size) with
          | some a => akey P d e a
          | none => false
        | none => false
      | _, _ => false

theorem akey_sound {P : Program} {κ : Cx} (w : World) : ∀ (d : Nat) (t : TypeId) (x : AVal) (u : Value), akey P d t x = true → VR κ x u → ∀ (em : Bool) (D : Nat), d ≤ D → (Instr.checkKey em D t u).run P w = .ok () w := by
  intro d
  induction d with
  | zero => intro t x u h; simp [akey] at h
  | succ d ih =>
    intro t x u h hu em D hD
    obtain ⟨D, rfl⟩ : ∃ m, D = m + 1 := ⟨D - 1, by omega⟩
    have hD' : d ≤ D := by omega
    unfold akey at h
    cases hI : tiOf P t with
    | none => simp [hI] at h
    | some I =>
      simp only [hI] at h
      obtain ⟨i, ds, hi⟩ := tiOf_spec hI
      have hk := hi.k
      cases hkk : I.k with
      | bool =>
        rw [hkk] at hk h
        have := tk_bool hk; subst this
        cases hu <;> simp only [reduceCtorEq] at h
        simp [Instr.checkKey, hi.run_under w]
      | int kk =>
        rw [hkk] at hk h
        have := tk_int hk; subst this
        cases hu <;> simp only [reduceCtorEq] at h
        simp [Instr.checkKey, hi.run_under w]
      | str =>
        rw [hkk] at hk h
        have := tk_str hk; subst this
        cases hu <;> simp only [reduceCtorEq] at h
        simp [Instr.checkKey, hi.run_under w]
      | arr n e =>
        rw [hkk] at hk h
        have := tk_arr hk; subst this
        cases hu <;> simp only [reduceCtorEq] at h
        rename_i xs us hus huv huo
        cases hE : tiOf P e with
        | none => simp [hE] at h
        | some E =>
          simp only [hE] at h
          obtain ⟨i', d', hi'⟩ := tiOf_spec hE
          rw [Instr.checkKey]
          simp only [Sem.run_bind, hi.run_under w, Result.andThen_ok]
          simp only [Std.Legacy.Range.forIn_eq_forIn_range', Std.Legacy.Range.size, Nat.sub_zero, Nat.add_one_sub_one, Nat.div_one]
          rw [List.range_eq_range'] at h
          have each : ∀ j ∈ List.range' 0 n, ∃ a, apart P e xs (j * E.size) = some a ∧ akey P d e a = true := fun j hj => by
            have := List.all_eq_true.1 h j hj
            split at this
            · rename_i a ha; exact ⟨a, ha, this⟩
            · cases this
          clear h
          generalize List.range' 0 n = l at each
          induction l with
          | nil => simp
          | cons j l ihl =>
            obtain ⟨a, ha, hka⟩ := each j (by simp)
            obtain ⟨a', ra, va⟩ := apart_sound w ha hus huv huo
            have p2 := ih e a a' hka va em D hD'
            simp only [List.forIn_cons, Sem.run_bind, hi'.run_size w, Result.andThen_ok, ra, p2, Sem.run_pure]
            exact ihl fun y hy => each y (by simp [hy])
      | _ => rw [hkk] at h; simp at h

/-- Where a key stands. -/
def afind (P : Program) (kt : TypeId) (k : AVal) : List (AVal × AVal) → Nat → Option (Option Nat)
  | [], _ => some none
  | e :: es, i =>
    match aeq P 20 kt k e.1 with
    | some true => some (some i)
    | some false => afind P kt k es (i + 1)
    | none => none

theorem afind_ge {P : Program} {kt : TypeId} {k : AVal} : ∀ (es : List (AVal × AVal)) (i j : Nat), afind P kt k es i = some (some j) → i ≤ j ∧ j < i + es.length
  | [], i, j, h => by simp [afind] at h
  | e :: es, i, j, h => by
    simp only [afind] at h
    split at h
    · simp only [Option.some.injEq] at h; subst h; simp
    · have := afind_ge es (i + 1) j h; simp; omega
    · cases h

theorem same_now {P : Program} {κ : Cx} {kt : TypeId} {d : TypeDesc} (hd : P.underlying kt = some d) {x y : AVal} {u v : Value} (hu : VR κ x u) (hv : VR κ y v) {b b' : Bool} (h : aeq P 20 kt x y = some b) (h' : Instr.sameNow d u v = some b') : b' = b := by
  unfold aeq at h
  cases hI : tiOf P kt with
  | none => simp [hI] at h
  | some I =>
    simp only [hI] at h
    obtain ⟨i, ds, hi⟩ := tiOf_spec hI
    have hk := hi.k
    have hdd : ds = d := by have := hi.under; rw [hd] at this; exact (Option.some.inj this).symm
    subst hdd
    cases ds with
    | bool =>
      simp only [tkOf] at hk
      rw [hk] at h
      cases hu <;> cases hv <;> first | cases h; done | skip
      simp only [Instr.sameNow, Option.some.injEq] at h h'
      rw [← h, ← h']
    | int kk =>
      simp only [tkOf] at hk
      rw [hk] at h
      cases hu <;> cases hv <;> first | cases h; done | skip
      simp only [Instr.sameNow] at h h'
      split at h
      · rename_i hkk
        rw [if_pos hkk] at h'
        simp only [Option.some.injEq] at h h'; rw [← h, ← h']
      · cases h
    | string =>
      simp only [tkOf] at hk
      rw [hk] at h
      cases hu <;> cases hv <;> first | cases h; done | skip
      simp only [Instr.sameNow, Option.some.injEq] at h h'
      rw [← h, ← h']
      rename_i s1 s2
      have e2 : (ByteArray.mk s1.toArray == ByteArray.mk s2.toArray) = (s1.toArray == s2.toArray) := rfl
      rw [e2]
      by_cases e : s1 = s2
      · subst e; simp
      · simp [e]
    | _ => simp [Instr.sameNow] at h'

/-- What the machine finds. -/
def foundAt (l : List MapEntry) (i : Nat) (r : Option Nat) : Option (Nat × Value) :=
  match r with
  | some j => some (j, ((l[j - i]?).map (·.val)).getD undef)
  | none => none

theorem afind_sound {P : Program} {κ : Cx} (w : World) {kt : TypeId} {d : TypeDesc} (hd : P.underlying kt = some d) {k : AVal} {u : Value} (hu : VR κ k u) :
    ∀ (es : List (AVal × AVal)) (l : List MapEntry) (i : Nat) (r : Option Nat), afind P kt k es i = some r → l.length = es.length → (∀ (j : Nat) (h : j < es.length) (h' : j < l.length), VR κ es[j].1 l[j].key) →
      (Instr.findAsking kt u l i).run P w = .ok (foundAt l i r) w ∧ ∀ q, Instr.findNow d u l i = some q → q = foundAt l i r
  | [], l, i, r, h, hl, _ => by
    simp only [afind, Option.some.injEq] at h; subst h
    have : l = [] := List.eq_nil_of_length_eq_zero (by simpa using hl)
    subst this
    exact ⟨by simp [Instr.findAsking, foundAt], fun q hq => by simp [Instr.findNow] at hq; rw [← hq]; rfl⟩
  | e :: es, [], i, r, h, hl, _ => by simp at hl
  | e :: es, m :: l, i, r, h, hl, hv => by
    have hv0 : VR κ e.1 m.key := hv 0 (by simp) (by simp)
    simp only [afind] at h
    split at h
    · rename_i heq
      simp only [Option.some.injEq] at h; subst h
      have he := aeq_sound (κ := κ) w 20 kt k e.1 true u m.key heq hu hv0 10000 (by omega)
      have hE : (Op.equal kt u m.key).run P w = .ok true w := he
      refine ⟨by simp [Instr.findAsking, hE, foundAt], fun q hq => ?_⟩
      simp only [Instr.findNow] at hq
      split at hq
      · simp only [Option.some.injEq] at hq; rw [← hq]; simp [foundAt]
      · rename_i hs; have := same_now hd hu hv0 heq hs; cases this
      · cases hq
    · rename_i heq
      have he := aeq_sound (κ := κ) w 20 kt k e.1 false u m.key heq hu hv0 10000 (by omega)
      have hE : (Op.equal kt u m.key).run P w = .ok false w := he
      obtain ⟨h1, h2⟩ := afind_sound w hd hu es l (i + 1) r h (by simpa using hl) fun j hj hj' => hv (j + 1) (by simpa using hj) (by simpa using hj')
      have hf : foundAt (m :: l) i r = foundAt l (i + 1) r := by
        cases r with
        | none => rfl
        | some j =>
          obtain ⟨g1, _⟩ := afind_ge es (i + 1) j h
          simp only [foundAt]
          rw [show j - i = (j - (i + 1)) + 1 by omega]
          simp
      rw [hf]
      refine ⟨by simp [Instr.findAsking, hE, h1], fun q hq => ?_⟩
      simp only [Instr.findNow] at hq
      split at hq
      · rename_i hs; have := same_now hd hu hv0 heq hs; cases this
      · exact h2 q hq
      · cases hq
    · cases h

theorem find_sound {P : Program} {κ : Cx} (w : World) {kt : TypeId} {d : TypeDesc} (hd : P.underlying kt = some d) {k : AVal} {u : Value} (hu : VR κ k u) {es : List (AVal × AVal)} {l : List MapEntry} {r : Option Nat} (h : afind P kt k es 0 = some r)
    (hl : l.length = es.length) (hv : ∀ (j : Nat) (h : j < es.length) (h' : j < l.length), VR κ es[j].1 l[j].key) : (Instr.findKey kt u l).run P w = .ok (foundAt l 0 r) w := by
  obtain ⟨h1, h2⟩ := afind_sound w hd hu es l 0 r h hl hv
  simp only [Instr.findKey, Sem.run_bind, run_underlying hd, Result.andThen_ok]
  cases hq : Instr.findNow d u l 0 with
  | none => exact h1
  | some q => rw [h2 q hq]; simp

def afound (ok : Bool) (b : Bool) (v : AVal) : AVal := if ok then .tup v [.bool b] else v

def alookup (P : Program) (t : TypeId) (m : AMem) (x k : AVal) (ok : Bool) : Option AVal :=
  match tiOf P t with
  | some I => (match I.k with
    | .map kt et => (match tiOf P et with
      | some E => (match x with
        | .map b => (match m.H[b]? with
          | some (.amap es) => if akey P 20 kt k = true then (match afind P kt k es 0 with
            | some (some j) => (es[j]?).map fun e => afound ok true e.2
            | some none => E.zero.map (afound ok false)
            | none => none) else none
          | _ => none)
        | .nilm => if akey P 20 kt k = true then E.zero.map (afound ok false) else none
        | _ => none)
      | none => none)
    | _ => none)
  | none => none

theorem afound_vr {κ : Cx} {ok b : Bool} {v : AVal} {u : Value} (h : VR κ v u) : VR κ (afound ok b v) (if ok = true then .tuple #[u, .bool b] else u) := by
  cases ok with
  | false => exact h
  | true =>
    refine .tup v [.bool b] _ rfl fun j hj => ?_
    have hj2 : j < 2 := hj
    match j, hj2 with
    | 0, _ => exact h
    | 1, _ => exact .bool b

theorem alookup_sound {P : Program} {γ : Ghost} (hr : Rl γ) {t : TypeId} {x k v : AVal} {ok : Bool} {xu ku : Value} (h : alookup P t γ.S x k ok = some v) (hx : VR γ.cx x xu) (hk : VR γ.cx k ku) :
    ∃ v', (Instr.lookup t xu ku ok).run P γ.w = .ok v' γ.w ∧ VR γ.cx v v' := by
  unfold alookup at h
  cases hI : tiOf P t with
  | none => simp [hI] at h
  | some I =>
    simp only [hI] at h
    obtain ⟨i, ds, hi⟩ := tiOf_spec hI
    have hkk := hi.k
    cases hq : I.k <;> simp only [hq, reduceCtorEq] at h
    rename_i kt et
    rw [hq] at hkk
    have := tk_map hkk; subst this
    cases hE : tiOf P et with
    | none => simp [hE] at h
    | some E =>
      simp only [hE] at h
      obtain ⟨i', d', hi'⟩ := tiOf_spec hE
      have kd : ∀ {a : AVal} {u : Value}, akey P 20 kt a = true → ∃ d, P.underlying kt = some d := fun {a u} hak => by
        unfold akey at hak
        cases hK : tiOf P kt with
        | none => simp [hK] at hak
        | some K => obtain ⟨_, d, hd⟩ := tiOf_spec hK; exact ⟨d, hd.under⟩
      cases x <;> simp only [reduceCtorEq] at h
      case nilm =>
        split at h
        · rename_i hak
          cases hx
          obtain ⟨d, hd⟩ := kd (u := ku) hak
          cases hz : E.zero with
          | none => simp [hz] at h
          | some z =>
            simp only [hz, Option.map_some, Option.some.injEq] at h
            obtain ⟨zv, hrz, hiz, rfl⟩ := hi'.run_zero γ.w hz
            have hc := akey_sound (κ := γ.cx) γ.w 20 kt k ku hak hk true 10000 (by omega)
            have hf := find_sound (κ := γ.cx) γ.w hd hk (es := []) (l := []) (r := none) rfl rfl (fun j hj => absurd hj (Nat.not_lt_zero j))
            refine ⟨if ok = true then .tuple #[zv, .bool false] else zv, ?_, h ▸ afound_vr (VR.ofVal γ.cx zv)⟩
            simp only [Instr.lookup, Sem.run_bind, hi.run_under γ.w, Result.andThen_ok, Sem.run_pure]
            simp [hc, hf, foundAt, hrz]
        · cases h
      case map b =>
        cases hb : γ.S.H[b]? with
        | none => simp [hb] at h
        | some y =>
          cases y with
          | cells e cs => simp [hb] at h
          | amap es =>
            simp only [hb] at h
            split at h
            case isFalse => cases h
            rename_i hak
            obtain ⟨en, clk, h1, h2, h3⟩ := hr.maps b es hb
            cases hx with
            | map _ g c hblk =>
              obtain ⟨y, hy, _, hy2⟩ := hblk
              rw [hb] at hy
              cases hy
              obtain ⟨hg, _⟩ := hy2 rfl
              subst hg
              obtain ⟨d, hd⟩ := kd (u := ku) hak
              have hc := akey_sound (κ := γ.cx) γ.w 20 kt k ku hak hk en.isEmpty 10000 (by omega)
              have hgo : (getObj (γ.ι.h b)).run P γ.w = .ok (.map en clk) γ.w := by simp [getObj, Sem.run, h1]
              cases hfd : afind P kt k es 0 with
              | none => simp [hfd] at h
              | some r =>
                have hf := find_sound (κ := γ.cx) γ.w hd hk hfd (l := en.toList) (by simpa using h2) (fun j hj hj' => by
                  obtain ⟨m, a1, a2, _⟩ := h3 j hj
                  have hj2 : j < en.size := by simpa using hj'
                  rw [Array.getElem?_eq_getElem hj2] at a1
                  cases a1
                  simpa using a2)
                simp only [hfd] at h
                cases r with
                | none =>
                  cases hz : E.zero with
                  | none => simp [hz] at h
                  | some z =>
                    simp only [hz, Option.map_some, Option.some.injEq] at h
                    obtain ⟨zv, hrz, hiz, rfl⟩ := hi'.run_zero γ.w hz
                    refine ⟨if ok = true then .tuple #[zv, .bool false] else zv, ?_, h ▸ afound_vr (VR.ofVal γ.cx zv)⟩
                    simp only [Instr.lookup, Sem.run_bind, hi.run_under γ.w, Result.andThen_ok, Sem.run_pure, hgo]
                    simp [hc, hf, foundAt, hrz]
                | some j =>
                  obtain ⟨_, hjl⟩ := afind_ge es 0 j hfd
                  have hj : j < es.length := by omega
                  simp only [List.getElem?_eq_getElem hj, Option.map_some, Option.some.injEq] at h
                  obtain ⟨m, a1, a2, a3, _⟩ := h3 j hj
                  refine ⟨if ok = true then .tuple #[m.val, .bool true] else m.val, ?_, h ▸ afound_vr a3⟩
                  simp only [Instr.lookup, Sem.run_bind, hi.run_under γ.w, Result.andThen_ok, Sem.run_pure, hgo]
                  simp [hc, hf, foundAt, a1]

/-! ### A map is written -/

def Ghost.mset (γ : Ghost) (b : Nat) (es : List (AVal × AVal)) (o : Obj) : Ghost :=
  { γ with S := { γ.S with H := γ.S.H.set b (.amap es) }, w := { γ.w with heap := γ.w.heap.setIfInBounds (γ.ι.h b) o } }

section mset
variable {γ : Ghost} {b : Nat} {es0 es : List (AVal × AVal)} {o : Obj}

theorem mset_blkOwns {x g : Nat} : (γ.mset b es o).blkOwns x g ↔ γ.blkOwns x g := by simp [Ghost.blkOwns, Ghost.mset]
theorem mset_heap {k : Nat} (h : k ≠ γ.ι.h b) : (γ.mset b es o).w.heap[k]? = γ.w.heap[k]? := by simp [Ghost.mset, Ne.symm h]
theorem mset_get_self (hb : γ.S.H[b]? = some (.amap es0)) : (γ.mset b es o).S.H[b]? = some (.amap es) := by
  have := (List.getElem?_eq_some_iff.1 hb).1
  simp [Ghost.mset, this]
theorem mset_get_other {x : Nat} (hx : x ≠ b) : (γ.mset b es o).S.H[x]? = γ.S.H[x]? := by
  simp only [Ghost.mset]; rw [List.getElem?_set_ne (Ne.symm hx)]

theorem own_mset (hr : Rl γ) (hb : γ.S.H[b]? = some (.amap es0)) {q : Nat} {t : TypeId} {n : Nat} (hq : γ.own q t n) : (γ.mset b es o).own q t n :=
  own_of (γ := γ) (γ' := γ.mset b es o) rfl (fun q arr ty fz hg => by
    by_cases hk : q = γ.ι.h b
    · subst hk
      obtain ⟨en, clk, h1, _⟩ := hr.maps b es0 hb
      rw [h1] at hg
      cases hg
    · exact ⟨arr, fz, (mset_heap hk).trans hg, Nat.le_refl _⟩) hq
theorem ext_mset (hr : Rl γ) (hb : γ.S.H[b]? = some (.amap es0)) : Ext γ (γ.mset b es o) where
  bad := rfl
  lo := rfl
  size := by simp [Ghost.mset]
  os := rfl
  tape := rfl
  output := rfl
  cell := fun g o' u h => by
    have hlt : b < γ.S.H.length := (List.getElem?_eq_some_iff.1 hb).1
    refine ⟨?_, h.2.1, h.2.2.1, fun b' hb' => h.2.2.2.1 b' (mset_blkOwns.1 hb'), h.2.2.2.2⟩
    have hne : g ≠ γ.ι.h b := fun he => h.2.2.2.1 b ⟨hlt, he.symm⟩
    rw [show (γ.mset b es o).w.cell? ⟨g, o', none⟩ = γ.w.cell? ⟨g, o', none⟩ from World.cell?_of_block (w := γ.w) (mset_heap hne)]
    exact h.1
  blk := fun b' e' g c ⟨y, h1, h2, h3⟩ => by
    by_cases hbb : b' = b
    · subst hbb
      rw [hb] at h1
      cases h1
      exact ⟨.amap es, mset_get_self hb, h2, h3⟩
    · exact ⟨y, (mset_get_other hbb).trans h1, h2, h3⟩
  tip := fun _ _ _ _ ht => tip_of (γ := γ) (γ' := γ.mset b es o) rfl rfl rfl (fun _ _ => own_mset hr hb) ht
  own := fun _ _ _ => own_mset hr hb
  frame := fun k _ ho => .inl (mset_heap fun he => ho (.inl ⟨b, (List.getElem?_eq_some_iff.1 hb).1, he.symm⟩))
  owns := fun k h => by
    rcases h with ⟨b', hb'⟩ | h
    · exact .inl (.inl ⟨b', mset_blkOwns.1 hb'⟩)
    · exact .inl (.inr h)

theorem rl_mset (hr : Rl γ) (hb : γ.S.H[b]? = some (.amap es0)) {en : Array MapEntry} {clk : Nat} (ho : o = .map en clk) (hsz : en.size = es.length)
    (hv : ∀ (j : Nat) (h : j < es.length), ∃ x : MapEntry, en[j]? = some x ∧ VR γ.cx (es[j]).1 x.key ∧ VR γ.cx (es[j]).2 x.val ∧ x.born < clk) : Rl (γ.mset b es o) where
  lo := by simpa [Ghost.mset] using hr.lo
  bad := hr.bad
  cells := fun b' e' cs' hb' => by
    have hlt : b < γ.S.H.length := (List.getElem?_eq_some_iff.1 hb).1
    have hbb : b' ≠ b := fun he => by subst he; rw [mset_get_self hb] at hb'; cases hb'
    rw [mset_get_other hbb] at hb'
    obtain ⟨arr, ty, k1, k2, k3, k4, k5⟩ := hr.cells b' e' cs' hb'
    have hlt' : b' < γ.S.H.length := (List.getElem?_eq_some_iff.1 hb').1
    refine ⟨arr, ty, ?_, k2, k3, fun j hj => (k4 j hj).ext (ext_mset hr hb), k5⟩
    rw [show (γ.mset b es o).ι.h b' = γ.ι.h b' from rfl, mset_heap fun he => hbb (hr.hh b' b _ ⟨hlt', rfl⟩ ⟨hlt, he.symm⟩)]
    exact k1
  maps := fun b' es' hb' => by
    have hlt : b < γ.S.H.length := (List.getElem?_eq_some_iff.1 hb).1
    by_cases hbb : b' = b
    · subst hbb
      rw [mset_get_self hb] at hb'
      cases hb'
      refine ⟨en, clk, ?_, hsz, fun j hj => ?_⟩
      · obtain ⟨en0, clk0, g1, _⟩ := hr.maps b' es0 hb
        have hl : γ.ι.h b' < γ.w.heap.size := (Array.getElem?_eq_some_iff.1 g1).1
        show (γ.w.heap.setIfInBounds (γ.ι.h b') o)[γ.ι.h b']? = _
        rw [ho]; simp [hl]
      · obtain ⟨x, a1, a2, a3, a4⟩ := hv j hj
        exact ⟨x, a1, a2.ext (ext_mset hr hb), a3.ext (ext_mset hr hb), a4⟩
    · rw [mset_get_other hbb] at hb'
      obtain ⟨en', clk', k1, k2, k3⟩ := hr.maps b' es' hb'
      have hlt' : b' < γ.S.H.length := (List.getElem?_eq_some_iff.1 hb').1
      refine ⟨en', clk', ?_, k2, fun j hj => ?_⟩
      · rw [show (γ.mset b es o).ι.h b' = γ.ι.h b' from rfl, mset_heap fun he => hbb (hr.hh b' b _ ⟨hlt', rfl⟩ ⟨hlt, he.symm⟩)]
        exact k1
      · obtain ⟨y, a1, a2, a3, a4⟩ := k3 j hj
        exact ⟨y, a1, a2.ext (ext_mset hr hb), a3.ext (ext_mset hr hb), a4⟩
  toks := fun t g ht => by
    have hlt : b < γ.S.H.length := (List.getElem?_eq_some_iff.1 hb).1
    obtain ⟨arr, lo, hi, tp, sz, k1, k2⟩ := hr.toks t g ht
    exact ⟨arr, lo, hi, tp, sz, by rw [mset_heap fun he => hr.ht b t g ⟨hlt, he.symm⟩ ht]; exact k1, k2⟩
  own := fun g hg => by
    have : γ.owns g := by
      rcases hg with ⟨b', hb'⟩ | h
      · exact .inl ⟨b', mset_blkOwns.1 hb'⟩
      · exact .inr h
    simpa [Ghost.mset] using hr.own g this
  hh := fun x y g h h' => hr.hh x y g (mset_blkOwns.1 h) (mset_blkOwns.1 h')
  ht := fun x t g h ht => hr.ht x t g (mset_blkOwns.1 h) ht
  tt := hr.tt
  zs := fun b' e' cs' hb' => by
    have hbb : b' ≠ b := fun he => by subst he; rw [mset_get_self hb] at hb'; cases hb'
    rw [mset_get_other hbb] at hb'
    exact hr.zs b' e' cs' hb'
end mset

/-- Two keys, bit by bit. -/
def abit1 : AVal → AVal → Bool
  | .int k a, .int k' b => k == k' && a == b
  | .bool a, .bool b => a == b
  | .str a, .str b => a == b
  | _, _ => false
def abits : AVal → AVal → Bool
  | .agg xs, .agg ys => xs.length == ys.length && (xs.zip ys).all fun p => abit1 p.1 p.2
  | x, y => abit1 x y

theorem abit1_sound {κ : Cx} {x y : AVal} {u v : Value} (h : abit1 x y = true) (hu : VR κ x u) (hv : VR κ y v) (n : Nat) : Instr.sameBits n u v = true := by
  cases x <;> cases y <;> simp only [abit1, Bool.false_eq_true] at h
  · cases hu; cases hv; cases n <;> simpa [Instr.sameBits] using h
  · cases hu; cases hv; cases n <;> simpa [Instr.sameBits] using h
  · cases hu; cases hv
    have : _ = _ := eq_of_beq h
    subst this
    rename_i s1
    have e2 : (ByteArray.mk s1.toArray == ByteArray.mk s1.toArray) = (s1.toArray == s1.toArray) := rfl
    cases n <;> simp [Instr.sameBits, e2]

def amput (P : Program) (t : TypeId) (m : AMem) (x k v : AVal) : Option (AVal × AMem) :=
  match tiOf P t with
  | some I => (match I.k with
    | .map kt _ => (match x with
      | .map b => (match m.H[b]? with
        | some (.amap es) => if akey P 20 kt k = true then (match afind P kt k es 0 with
          | some (some j) => (match es[j]? with
            | some e => if abits e.1 k = true then some (.undef, { m with H := m.H.set b (.amap (es.set j (k, v))) }) else none
            | none => none)
          | some none => some (.undef, { m with H := m.H.set b (.amap (es ++ [(k, v)])) })
          | none => none) else none
        | _ => none)
      | _ => none)
    | _ => none)
  | none => none

theorem abits_sound {κ : Cx} {x y : AVal} {u v : Value} (h : abits x y = true) (hu : VR κ x u) (hv : VR κ y v) (n : Nat) : Instr.sameBits (n + 1) u v = true := by
  by_cases hag : (∃ xs ys, x = .agg xs ∧ y = .agg ys)
  · obtain ⟨xs, ys, rfl, rfl⟩ := hag
    simp only [abits, Bool.and_eq_true, beq_iff_eq] at h
    cases hu with
    | agg _ us hus huv _ =>
      cases hv with
      | agg _ vs hvs hvv _ =>
        simp only [Instr.sameBits, Bool.and_eq_true, beq_iff_eq]
        refine ⟨by omega, List.all_eq_true.2 fun p hp => ?_⟩
        obtain ⟨j, hj, rfl⟩ := List.mem_iff_getElem.1 hp
        have hju : j < us.size := by simp at hj; omega
        have hjv : j < vs.size := by simp at hj; omega
        have hx := huv j (by omega)
        have hy := hvv j (by omega)
        simp only [Array.getD, hju, hjv, dite_true] at hx hy
        have hz := List.all_eq_true.1 h.2 ((xs.zip ys)[j]'(by simp; omega)) (List.getElem_mem _)
        simp only [List.getElem_zip] at hz
        simp only [List.getElem_zip, Array.getElem_toList]
        exact abit1_sound hz (by simpa using hx) (by simpa using hy) n
  · have h1 : abit1 x y = true := by
      cases x <;> cases y <;> first | exact h | exact absurd ⟨_, _, rfl, rfl⟩ hag
    exact abit1_sound h1 hu hv (n + 1)

theorem amput_sound {P : Program} {γ : Ghost} (hr : Rl γ) {t : TypeId} {x k v v0 : AVal} {m' : AMem} {xu ku vu : Value} (h : amput P t γ.S x k v = some (v0, m')) (hx : VR γ.cx x xu) (hk : VR γ.cx k ku) (hv : VR γ.cx v vu) :
    v0 = .undef ∧ ∃ γ', (Instr.mapUpdate t xu ku vu).run P γ.w = .ok () γ'.w ∧ Ext γ γ' ∧ Rl γ' ∧ γ'.S = m' := by
  unfold amput at h
  cases hI : tiOf P t with
  | none => simp [hI] at h
  | some I =>
    simp only [hI] at h
    obtain ⟨i, ds, hi⟩ := tiOf_spec hI
    have hkk := hi.k
    cases hq : I.k <;> simp only [hq, reduceCtorEq] at h
    rename_i kt et
    rw [hq] at hkk
    have := tk_map hkk; subst this
    cases x <;> simp only [reduceCtorEq] at h
    rename_i b
    cases hb : γ.S.H[b]? with
    | none => simp [hb] at h
    | some y =>
      cases y with
      | cells e cs => simp [hb] at h
      | amap es =>
        simp only [hb] at h
        split at h
        case isFalse => cases h
        rename_i hak
        obtain ⟨en, clk, h1, h2, h3⟩ := hr.maps b es hb
        cases hx with
        | map _ g c hblk =>
          obtain ⟨y, hy, _, hy2⟩ := hblk
          rw [hb] at hy
          cases hy
          obtain ⟨hg, _⟩ := hy2 rfl
          subst hg
          obtain ⟨d, hd⟩ : ∃ d, P.underlying kt = some d := by
            unfold akey at hak
            cases hK : tiOf P kt with
            | none => simp [hK] at hak
            | some K => obtain ⟨_, d, hd⟩ := tiOf_spec hK; exact ⟨d, hd.under⟩
          have hc := akey_sound (κ := γ.cx) γ.w 20 kt k ku hak hk false 10000 (by omega)
          have hgo : (getObj (γ.ι.h b)).run P γ.w = .ok (.map en clk) γ.w := by simp [getObj, Sem.run, h1]
          have hso : ∀ o : Obj, (setObj (γ.ι.h b) o).run P γ.w = .ok () { γ.w with heap := γ.w.heap.setIfInBounds (γ.ι.h b) o } := fun o => by simp [setObj, Sem.run, h1]
          cases hfd : afind P kt k es 0 with
          | none => simp [hfd] at h
          | some r =>
            have hf := find_sound (κ := γ.cx) γ.w hd hk hfd (l := en.toList) (by simpa using h2) (fun j hj hj' => by
              obtain ⟨m, a1, a2, _⟩ := h3 j hj
              have hj2 : j < en.size := by simpa using hj'
              rw [Array.getElem?_eq_getElem hj2] at a1
              cases a1
              simpa using a2)
            simp only [hfd] at h
            cases r with
            | none =>
              simp only [Option.some.injEq, Prod.mk.injEq] at h
              obtain ⟨rfl, rfl⟩ := h
              refine ⟨rfl, γ.mset b (es ++ [(k, v)]) (.map (en.push { key := ku, val := vu, born := clk }) (clk + 1)), ?_, ext_mset hr hb, rl_mset hr hb rfl (by simp [h2]) (fun j hj => ?_), rfl⟩
              · simp only [Instr.mapUpdate, Sem.run_bind, hi.run_under γ.w, Result.andThen_ok, hgo, hc, hf, foundAt, hso]
                rfl
              · by_cases hje : j < es.length
                · obtain ⟨m, a1, a2, a3, a4⟩ := h3 j hje
                  rw [List.getElem_append_left hje]
                  exact ⟨m, by rw [Array.getElem?_push, if_neg (by omega)]; exact a1, a2, a3, by omega⟩
                · have hj2 : j = es.length := by simp at hj; omega
                  subst hj2
                  exact ⟨{ key := ku, val := vu, born := clk }, by rw [Array.getElem?_push, if_pos h2.symm], by simpa using hk, by simpa using hv, by simp⟩
            | some j =>
              obtain ⟨_, hjl⟩ := afind_ge es 0 j hfd
              have hj : j < es.length := by omega
              simp only [List.getElem?_eq_getElem hj] at h
              split at h
              case isFalse => cases h
              rename_i hbits
              simp only [Option.some.injEq, Prod.mk.injEq] at h
              obtain ⟨rfl, rfl⟩ := h
              obtain ⟨m, a1, a2, a3, a4⟩ := h3 j hj
              have hsb := abits_sound hbits a2 hk 9999
              refine ⟨rfl, γ.mset b (es.set j (k, v)) (.map (en.modify j fun e => { e with key := ku, val := vu }) clk), ?_, ext_mset hr hb, rl_mset hr hb rfl (by simp [h2]) (fun q hq => ?_), rfl⟩
              · have hkey : ((en[j]?).map (·.key)).getD ku = m.key := by rw [a1]; rfl
                simp only [Instr.mapUpdate, Sem.run_bind, hi.run_under γ.w, Result.andThen_ok, hgo, hc, hf, foundAt, hkey, Instr.keyThatStays, hsb, if_true, Sem.run_pure, hso]
                rfl
              · have hq' : q < es.length := by simpa using hq
                obtain ⟨m2, c1, c2, c3, c4⟩ := h3 q hq'
                by_cases hjq : j = q
                · subst hjq
                  refine ⟨{ m2 with key := ku, val := vu }, by rw [Array.getElem?_modify, if_pos rfl, c1]; rfl, by simpa using hk, by simpa using hv, c4⟩
                · refine ⟨m2, by rw [Array.getElem?_modify, if_neg hjq]; exact c1, ?_, ?_, c4⟩
                  · rw [List.getElem_set_ne hjq]; exact c2
                  · rw [List.getElem_set_ne hjq]; exact c3
end Go.Hk
