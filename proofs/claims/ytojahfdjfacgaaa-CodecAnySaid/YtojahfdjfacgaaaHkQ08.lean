/- Maps: keys, and what is found under them. -/
import Derived.Test.YtojahfdjfacgaaaHkQ07
set_option linter.unusedSimpArgs false
namespace Go.Hk
open Go.RowKit

/-- May this value be a key of this type? -/
def akey (P : Program) : Nat → TypeId → AVal → Bool
  | 0, _, _ => false
  | d + 1, t, x =>
    match tiOf P t with
    | none => false
    | some I =>
      match I.k, x with
      | .bool, .bool _ => true
      | .int _, .int _ _ => true
      | .str, .str _ => true
      | .arr n e, .agg cs =>
        match tiOf P e with
        | some E => (List.range n).all fun i => match apart P e cs (i * E.size) with
          | some a => akey P d e a
          | none => false
        | none => false
      | _, _ => false

theorem akey_sound {P : Program} {κ : Cx} (w : World) : ∀ (d : Nat) (t : TypeId) (x : AVal) (u : Value), akey P d t x = true → VR κ x u → ∀ (em : Bool) (D : Nat), d ≤ D → (Instr.checkKey em D t u).run P w = .ok () w := by
  intro d
  induction d with
  | zero => intro t x u h; simp [akey] at h
  | succ d ih =>
    intro t x u h hu em D hD
    obtain ⟨D, rfl⟩ : ∃ m, D = m + 1 := ⟨D - 1, by omega⟩
    have hD' : d ≤ D := by omega
    unfold akey at h
    cases hI : tiOf P t with
    | none => simp [hI] at h
    | some I =>
      simp only [hI] at h
      obtain ⟨i, ds, hi⟩ := tiOf_spec hI
      have hk := hi.k
      cases hkk : I.k with
      | bool =>
        rw [hkk] at hk h
        have := tk_bool hk; subst this
        cases hu <;> simp only [reduceCtorEq] at h
        simp [Instr.checkKey, hi.run_under w]
      | int kk =>
        rw [hkk] at hk h
        have := tk_int hk; subst this
        cases hu <;> simp only [reduceCtorEq] at h
        simp [Instr.checkKey, hi.run_under w]
      | str =>
        rw [hkk] at hk h
        have := tk_str hk; subst this
        cases hu <;> simp only [reduceCtorEq] at h
        simp [Instr.checkKey, hi.run_under w]
      | arr n e =>
        rw [hkk] at hk h
        have := tk_arr hk; subst this
        cases hu <;> simp only [reduceCtorEq] at h
        rename_i xs us hus huv huo
        cases hE : tiOf P e with
        | none => simp [hE] at h
        | some E =>
          simp only [hE] at h
          obtain ⟨i', d', hi'⟩ := tiOf_spec hE
          rw [Instr.checkKey]
          simp only [Sem.run_bind, hi.run_under w, Result.andThen_ok]
          simp only [Std.Legacy.Range.forIn_eq_forIn_range', Std.Legacy.Range.size, Nat.sub_zero, Nat.add_one_sub_one, Nat.div_one]
          rw [List.range_eq_range'] at h
          have each : ∀ j ∈ List.range' 0 n, ∃ a, apart P e xs (j * E.size) = some a ∧ akey P d e a = true := fun j hj => by
            have := List.all_eq_true.1 h j hj
            split at this
            · rename_i a ha; exact ⟨a, ha, this⟩
            · cases this
          clear h
          generalize List.range' 0 n = l at each
          induction l with
          | nil => simp
          | cons j l ihl =>
            obtain ⟨a, ha, hka⟩ := each j (by simp)
            obtain ⟨a', ra, va⟩ := apart_sound w ha hus huv huo
            have p2 := ih e a a' hka va em D hD'
            simp only [List.forIn_cons, Sem.run_bind, hi'.run_size w, Result.andThen_ok, ra, p2, Sem.run_pure]
            exact ihl fun y hy => each y (by simp [hy])
      | _ => rw [hkk] at h; simp at h

/-- Where a key stands; it is held against all. -/
def afind (P : Program) (kt : TypeId) (k : AVal) : List (AVal × AVal) → Nat → Option (Option Nat)
  | [], _ => some none
  | e :: es, i =>
    match aeq P 20 kt k e.1 with
    | some true => if es.all (fun e' => aeq P 20 kt k e'.1 == some false) then some (some i) else none
    | some false => afind P kt k es (i + 1)
    | none => none

theorem afind_ge {P : Program} {kt : TypeId} {k : AVal} : ∀ (es : List (AVal × AVal)) (i j : Nat), afind P kt k es i = some (some j) → i ≤ j ∧ j < i + es.length
  | [], i, j, h => by simp [afind] at h
  | e :: es, i, j, h => by
    simp only [afind] at h
    split at h
    · split at h
      · simp only [Option.some.injEq] at h; subst h; simp
      · cases h
    · have := afind_ge es (i + 1) j h; simp; omega
    · cases h
theorem afind_dec {P : Program} {kt : TypeId} {k : AVal} : ∀ (es : List (AVal × AVal)) (i : Nat) (r : Option Nat), afind P kt k es i = some r → ∀ (j : Nat) (h : j < es.length), ∃ b, aeq P 20 kt k es[j].1 = some b ∧ (b = true ↔ r = some (i + j))
  | [], i, r, _, j, hj => absurd hj (Nat.not_lt_zero j)
  | e :: es, i, r, h, j, hj => by
    simp only [afind] at h
    split at h
    · rename_i heq
      split at h
      case isFalse => cases h
      rename_i hall
      simp only [Option.some.injEq] at h; subst h
      cases j with
      | zero => exact ⟨true, heq, by simp⟩
      | succ j =>
        have hj' : j < es.length := by simpa using hj
        have := List.all_eq_true.1 hall es[j] (List.getElem_mem hj')
        simp only [beq_iff_eq] at this
        exact ⟨false, this, by simp⟩
    · rename_i heq
      cases j with
      | zero =>
        refine ⟨false, heq, ?_⟩
        simp only [Bool.false_eq_true, false_iff]
        intro hr
        subst hr
        have := afind_ge es (i + 1) (i + 0) h
        omega
      | succ j =>
        obtain ⟨b, h1, h2⟩ := afind_dec es (i + 1) r h j (by simpa using hj)
        refine ⟨b, h1, h2.trans ?_⟩
        rw [show i + 1 + j = i + (j + 1) by omega]
    · cases h

theorem same_now {P : Program} {κ : Cx} {kt : TypeId} {d : TypeDesc} (hd : P.underlying kt = some d) {x y : AVal} {u v : Value} (hu : VR κ x u) (hv : VR κ y v) {b b' : Bool} (h : aeq P 20 kt x y = some b) (h' : Instr.sameNow d u v = some b') : b' = b := by
  unfold aeq at h
  cases hI : tiOf P kt with
  | none => simp [hI] at h
  | some I =>
    simp only [hI] at h
    obtain ⟨i, ds, hi⟩ := tiOf_spec hI
    have hk := hi.k
    have hdd : ds = d := by have := hi.under; rw [hd] at this; exact (Option.some.inj this).symm
    subst hdd
    cases ds with
    | bool =>
      simp only [tkOf] at hk
      rw [hk] at h
      cases hu <;> cases hv <;> first | cases h; done | skip
      simp only [Instr.sameNow, Option.some.injEq] at h h'
      rw [← h, ← h']
    | int kk =>
      simp only [tkOf] at hk
      rw [hk] at h
      cases hu <;> cases hv <;> first | cases h; done | skip
      simp only [Instr.sameNow] at h h'
      split at h
      · rename_i hkk
        rw [if_pos hkk] at h'
        simp only [Option.some.injEq] at h h'; rw [← h, ← h']
      · cases h
    | string =>
      simp only [tkOf] at hk
      rw [hk] at h
      cases hu <;> cases hv <;> first | cases h; done | skip
      simp only [Instr.sameNow, Option.some.injEq] at h h'
      rw [← h, ← h']
      rename_i s1 s2
      have e2 : (ByteArray.mk s1.toArray == ByteArray.mk s2.toArray) = (s1.toArray == s2.toArray) := rfl
      rw [e2]
      by_cases e : s1 = s2
      · subst e; simp
      · simp [e]
    | _ => simp [Instr.sameNow] at h'

/-- What the machine finds. -/
def foundP (p : MapEntry → Bool) : List MapEntry → Nat → Option (Nat × Value)
  | [], _ => none
  | x :: L, i => if p x = true then some (i, x.val) else foundP p L (i + 1)
theorem foundP_none {p : MapEntry → Bool} : ∀ (L : List MapEntry) (i : Nat), (∀ x ∈ L, p x = false) → foundP p L i = none
  | [], _, _ => rfl
  | x :: L, i, h => by
    simp only [foundP, h x (by simp), Bool.false_eq_true, if_false]
    exact foundP_none L (i + 1) fun y hy => h y (by simp [hy])
theorem foundP_some {p : MapEntry → Bool} {y : MapEntry} : ∀ (L : List MapEntry) (i : Nat), y ∈ L → p y = true → (∀ x ∈ L, p x = true → x = y) → ∃ q, foundP p L i = some (i + q, y.val) ∧ L[q]? = some y
  | [], _, hy, _, _ => absurd hy (by simp)
  | x :: L, i, hy, hp, hu => by
    by_cases hx : p x = true
    · obtain rfl := hu x (by simp) hx
      exact ⟨0, by simp [foundP, hx], rfl⟩
    · have hne : y ≠ x := fun he => hx (he ▸ hp)
      have hy' : y ∈ L := by
        rcases List.mem_cons.1 hy with h | h
        · exact absurd h hne
        · exact h
      obtain ⟨q, h1, h2⟩ := foundP_some L (i + 1) hy' hp fun z hz => hu z (by simp [hz])
      exact ⟨q + 1, by simp only [foundP, if_neg hx, h1]; rw [show i + 1 + q = i + (q + 1) by omega], by simpa using h2⟩

theorem born_eq {l : List MapEntry} (hn : (l.map (·.born)).Nodup) {i j : Nat} (hi : i < l.length) (hj : j < l.length) (h : l[i].born = l[j].born) : i = j := by
  have := (List.getElem_inj (i := i) (j := j) (h₀ := by simpa using hi) (h₁ := by simpa using hj) hn).1 (by simpa using h)
  exact this

theorem search_sound {P : Program} (w : World) {kt : TypeId} {d : TypeDesc} {u : Value} {p : MapEntry → Bool} : ∀ (L : List MapEntry) (i : Nat),
    (∀ x ∈ L, (Op.equal kt u x.key).run P w = .ok (p x) w ∧ ∀ b, Instr.sameNow d u x.key = some b → b = p x) →
      (Instr.findAsking kt u L i).run P w = .ok (foundP p L i) w ∧ ∀ q, Instr.findNow d u L i = some q → q = foundP p L i
  | [], i, _ => ⟨by simp [Instr.findAsking, foundP], fun q hq => by simp [Instr.findNow] at hq; rw [← hq]; rfl⟩
  | x :: L, i, h => by
    obtain ⟨hE, hS⟩ := h x (by simp)
    obtain ⟨h1, h2⟩ := search_sound w L (i + 1) fun y hy => h y (by simp [hy])
    cases hp : p x with
    | true =>
      refine ⟨by simp [Instr.findAsking, hE, foundP, hp], fun q hq => ?_⟩
      simp only [Instr.findNow] at hq
      split at hq
      · simp only [Option.some.injEq] at hq; rw [← hq]; simp [foundP, hp]
      · rename_i hs; have := hS _ hs; rw [hp] at this; cases this
      · cases hq
    | false =>
      refine ⟨by simp [Instr.findAsking, hE, foundP, hp, h1], fun q hq => ?_⟩
      simp only [Instr.findNow] at hq
      split at hq
      · rename_i hs; have := hS _ hs; rw [hp] at this; cases this
      · simpa [foundP, hp] using h2 q hq
      · cases hq

/-- Which entry it is. -/
def isAt (l : List MapEntry) (r : Option Nat) (x : MapEntry) : Bool :=
  match r with
  | some j => (l[j]?).any fun y => y.born == x.born
  | none => false

theorem find_sound {P : Program} {κ : Cx} (w : World) {kt : TypeId} {d : TypeDesc} (hd : P.underlying kt = some d) {k : AVal} {u : Value} (hu : VR κ k u) {es : List (AVal × AVal)} {L l : List MapEntry} {r : Option Nat} (h : afind P kt k es 0 = some r)
    (hp : l.Perm L) (hn : (L.map (·.born)).Nodup) (ha : AL κ es l) :
    (Instr.findKey kt u L).run P w = .ok (foundP (isAt l r) L 0) w ∧ (∀ j, r = some j → ∃ (hj : j < l.length) (q : Nat), foundP (isAt l r) L 0 = some (q, l[j].val) ∧ L[q]? = some l[j]) ∧ (r = none → foundP (isAt l r) L 0 = none) := by
  have hnl : (l.map (·.born)).Nodup := (hp.map _).nodup_iff.2 hn
  have key : ∀ x ∈ L, (Op.equal kt u x.key).run P w = .ok (isAt l r x) w ∧ ∀ b, Instr.sameNow d u x.key = some b → b = isAt l r x := by
    intro x hx
    obtain ⟨i, hi, rfl⟩ := List.mem_iff_getElem.1 (hp.mem_iff.2 hx)
    have hie : i < es.length := by rw [← ha.1]; exact hi
    obtain ⟨b, h1, h2⟩ := afind_dec es 0 r h i hie
    have hv := (ha.2 i hie hi).1
    have hb : b = isAt l r l[i] := by
      have : b = true ↔ isAt l r l[i] = true := by
        rw [h2]
        simp only [Nat.zero_add]
        constructor
        · rintro rfl
          simp [isAt, List.getElem?_eq_getElem hi]
        · intro hat
          cases r with
          | none => simp [isAt] at hat
          | some j =>
            obtain ⟨_, hj⟩ := afind_ge es 0 j h
            have hjl : j < l.length := by rw [ha.1]; omega
            simp only [isAt, List.getElem?_eq_getElem hjl, Option.any_some, beq_iff_eq] at hat
            rw [born_eq hnl hjl hi hat]
      cases b <;> cases hh : isAt l r l[i] <;> simp_all
    subst hb
    exact ⟨aeq_sound (κ := κ) w 20 kt k es[i].1 _ u _ h1 hu hv 10000 (by omega), fun b hs => same_now hd hu hv h1 hs⟩
  obtain ⟨h1, h2⟩ := search_sound w L 0 key
  refine ⟨?_, fun j hj => ?_, fun hr => ?_⟩
  · simp only [Instr.findKey, Sem.run_bind, run_underlying hd, Result.andThen_ok]
    cases hq : Instr.findNow d u L 0 with
    | none => exact h1
    | some q => rw [h2 q hq]; simp
  · subst hj
    obtain ⟨_, hje⟩ := afind_ge es 0 j h
    have hjl : j < l.length := by rw [ha.1]; omega
    have hinj : ∀ x ∈ L, x.born = l[j].born → x = l[j] := by
      intro x hx hb
      obtain ⟨i, hi, rfl⟩ := List.mem_iff_getElem.1 (hp.mem_iff.2 hx)
      have := born_eq hnl hi hjl hb
      subst this; rfl
    obtain ⟨q, k1, k2⟩ := foundP_some (p := isAt l (some j)) (y := l[j]) L 0 (hp.mem_iff.1 (List.getElem_mem hjl)) (by simp [isAt, List.getElem?_eq_getElem hjl]) (fun x hx hat => by
      simp only [isAt, List.getElem?_eq_getElem hjl, Option.any_some, beq_iff_eq] at hat
      exact hinj x hx hat.symm)
    exact ⟨hjl, q, by simpa using k1, k2⟩
  · subst hr
    exact foundP_none L 0 fun _ _ => rfl

def afound (ok : Bool) (b : Bool) (v : AVal) : AVal := if ok then .tup v [.bool b] else v

def alookup (P : Program) (t : TypeId) (m : AMem) (x k : AVal) (ok : Bool) : Option AVal :=
  match tiOf P t with
  | some I => (match I.k with
    | .map kt et => (match tiOf P et with
      | some E => (match x with
        | .map b => (match m.H[b]? with
          | some (.amap es) => if akey P 20 kt k = true then (match afind P kt k es 0 with
            | some (some j) => (es[j]?).map fun e => afound ok true e.2
            | some none => E.zero.map (afound ok false)
            | none => none) else none
          | _ => none)
        | .nilm => if akey P 20 kt k = true then E.zero.map (afound ok false) else none
        | _ => none)
      | none => none)
    | _ => none)
  | none => none

theorem afound_vr {κ : Cx} {ok b : Bool} {v : AVal} {u : Value} (h : VR κ v u) : VR κ (afound ok b v) (if ok = true then .tuple #[u, .bool b] else u) := by
  cases ok with
  | false => exact h
  | true =>
    refine .tup v [.bool b] _ rfl fun j hj => ?_
    have hj2 : j < 2 := hj
    match j, hj2 with
    | 0, _ => exact h
    | 1, _ => exact .bool b

theorem alookup_sound {P : Program} {γ : Ghost} (hr : Rl γ) {t : TypeId} {x k v : AVal} {ok : Bool} {xu ku : Value} (h : alookup P t γ.S x k ok = some v) (hx : VR γ.cx x xu) (hk : VR γ.cx k ku) :
    ∃ v', (Instr.lookup t xu ku ok).run P γ.w = .ok v' γ.w ∧ VR γ.cx v v' := by
  unfold alookup at h
  cases hI : tiOf P t with
  | none => simp [hI] at h
  | some I =>
    simp only [hI] at h
    obtain ⟨i, ds, hi⟩ := tiOf_spec hI
    have hkk := hi.k
    cases hq : I.k <;> simp only [hq, reduceCtorEq] at h
    rename_i kt et
    rw [hq] at hkk
    have := tk_map hkk; subst this
    cases hE : tiOf P et with
    | none => simp [hE] at h
    | some E =>
      simp only [hE] at h
      obtain ⟨i', d', hi'⟩ := tiOf_spec hE
      have kd : ∀ {a : AVal} {u : Value}, akey P 20 kt a = true → ∃ d, P.underlying kt = some d := fun {a u} hak => by
        unfold akey at hak
        cases hK : tiOf P kt with
        | none => simp [hK] at hak
        | some K => obtain ⟨_, d, hd⟩ := tiOf_spec hK; exact ⟨d, hd.under⟩
      cases x <;> simp only [reduceCtorEq] at h
      case nilm =>
        split at h
        · rename_i hak
          cases hx
          obtain ⟨d, hd⟩ := kd (u := ku) hak
          cases hz : E.zero with
          | none => simp [hz] at h
          | some z =>
            simp only [hz, Option.map_some, Option.some.injEq] at h
            obtain ⟨zv, hrz, hiz, rfl⟩ := hi'.run_zero γ.w hz
            have hc := akey_sound (κ := γ.cx) γ.w 20 kt k ku hak hk true 10000 (by omega)
            have hf := (find_sound (κ := γ.cx) γ.w hd hk (es := []) (L := []) (l := []) (r := none) rfl (.refl _) (by simp) ⟨rfl, fun j hj => absurd hj (Nat.not_lt_zero j)⟩).1
            refine ⟨if ok = true then .tuple #[zv, .bool false] else zv, ?_, h ▸ afound_vr (VR.ofVal γ.cx zv)⟩
            simp only [Instr.lookup, Sem.run_bind, hi.run_under γ.w, Result.andThen_ok, Sem.run_pure]
            simp [hc, hf, foundP, hrz]
        · cases h
      case map b =>
        cases hb : γ.S.H[b]? with
        | none => simp [hb] at h
        | some y =>
          cases y with
          | cells e cs => simp [hb] at h
          | iter _ _ _ => simp [hb] at h
          | loop _ _ _ _ _ _ _ => simp [hb] at h
          | amap es =>
            simp only [hb] at h
            split at h
            case isFalse => cases h
            rename_i hak
            obtain ⟨en, clk, h1, h2⟩ := hr.maps b es hb
            obtain ⟨l, hp, hal⟩ := h2.perm
            cases hx with
            | map _ g c hblk =>
              obtain ⟨y, hy, _, hy2⟩ := hblk
              rw [hb] at hy
              cases hy
              obtain ⟨hg, _⟩ := hy2 rfl
              subst hg
              obtain ⟨d, hd⟩ := kd (u := ku) hak
              have hc := akey_sound (κ := γ.cx) γ.w 20 kt k ku hak hk en.isEmpty 10000 (by omega)
              have hgo : (getObj (γ.ι.h b)).run P γ.w = .ok (.map en clk) γ.w := by simp [getObj, Sem.run, h1]
              cases hfd : afind P kt k es 0 with
              | none => simp [hfd] at h
              | some r =>
                obtain ⟨hf, hf1, hf0⟩ := find_sound (κ := γ.cx) γ.w hd hk hfd hp h2.born hal
                simp only [hfd] at h
                cases r with
                | none =>
                  have hf0 := hf0 rfl
                  cases hz : E.zero with
                  | none => simp [hz] at h
                  | some z =>
                    simp only [hz, Option.map_some, Option.some.injEq] at h
                    obtain ⟨zv, hrz, hiz, rfl⟩ := hi'.run_zero γ.w hz
                    refine ⟨if ok = true then .tuple #[zv, .bool false] else zv, ?_, h ▸ afound_vr (VR.ofVal γ.cx zv)⟩
                    rw [hf0] at hf
                    simp only [Instr.lookup, Sem.run_bind, hi.run_under γ.w, Result.andThen_ok, Sem.run_pure, hgo]
                    simp [hc, hf, hrz]
                | some j =>
                  obtain ⟨_, hjl⟩ := afind_ge es 0 j hfd
                  have hj : j < es.length := by omega
                  simp only [List.getElem?_eq_getElem hj, Option.map_some, Option.some.injEq] at h
                  obtain ⟨hjl', q, k1, k2⟩ := hf1 j rfl
                  refine ⟨if ok = true then .tuple #[l[j].val, .bool true] else l[j].val, ?_, h ▸ afound_vr (hal.2 j hj hjl').2⟩
                  rw [k1] at hf
                  simp only [Instr.lookup, Sem.run_bind, hi.run_under γ.w, Result.andThen_ok, Sem.run_pure, hgo]
                  simp [hc, hf]

/-! ### A map is written -/

def Ghost.mset (γ : Ghost) (b : Nat) (H' : List ABlk) (o : Obj) : Ghost :=
  { γ with S := { γ.S with H := H' }, w := { γ.w with heap := γ.w.heap.setIfInBounds (γ.ι.h b) o } }

/-- Other blocks stay, but that iterators may forget what came last. -/
structure Mset (H : List ABlk) (b : Nat) (y : ABlk) (H' : List ABlk) : Prop where
  len : H'.length = H.length
  at_ : H'[b]? = some y
  oth : ∀ x, x ≠ b → H'[x]? = H[x]? ∨ ∃ l c, H[x]? = some (.iter b l c) ∧ H'[x]? = some (.iter b l none)

/-- A block of no cells. -/
def ABlk.nocells : ABlk → Bool
  | .cells _ _ => false
  | _ => true
theorem BR.nocells {κ : Cx} {c z : Nat} {x : ABlk} {o : Obj} (hb : BR κ c z x o) (h : x.nocells = true) : ∀ arr ty f, o ≠ .cells arr ty f := by
  intro arr ty f he
  subst he
  cases x with
  | cells e cs => cases h
  | amap es => obtain ⟨_, _, h1, _⟩ := hb; cases h1
  | iter mb l q => obtain ⟨_, _, _, _, h1⟩ := hb; cases h1
  | loop st pend ps asg body env n => obtain ⟨_, h1, _⟩ := hb; cases h1
theorem ABlk.nocells_ep {x : ABlk} (h : x.nocells = true) : x.ep = 0 := by
  cases x <;> first | rfl | cases h

section mset
variable {γ : Ghost} {b : Nat} {y0 y : ABlk} {o : Obj} {H' : List ABlk}

theorem mset_blkOwns (hm : Mset γ.S.H b y H') {x g : Nat} : (γ.mset b H' o).blkOwns x g ↔ γ.blkOwns x g := by simp [Ghost.blkOwns, Ghost.mset, hm.len]
theorem mset_heap {k : Nat} (h : k ≠ γ.ι.h b) : (γ.mset b H' o).w.heap[k]? = γ.w.heap[k]? := by simp [Ghost.mset, Ne.symm h]
theorem mset_self (hr : Rl γ) (hb : γ.S.H[b]? = some y0) : (γ.mset b H' o).w.heap[γ.ι.h b]? = some o := by
  have hl := (hr.inw hb).2
  show (γ.w.heap.setIfInBounds (γ.ι.h b) o)[γ.ι.h b]? = _
  simp [hl]

theorem own_mset (hr : Rl γ) (hb : γ.S.H[b]? = some y0) (h0 : y0.nocells = true) {q : Nat} {t : TypeId} {n : Nat} (hq : γ.own q t n) : (γ.mset b H' o).own q t n :=
  own_of (γ := γ) (γ' := γ.mset b H' o) rfl (fun q arr ty fz hg => by
    by_cases hk : q = γ.ι.h b
    · subst hk
      obtain ⟨o', h1, h2⟩ := hr.objs b y0 hb
      rw [h1] at hg
      cases hg
      exact absurd rfl (h2.nocells h0 _ _ _)
    · exact ⟨arr, fz, (mset_heap hk).trans hg, Nat.le_refl _⟩) hq
theorem ext_mset (hr : Rl γ) (hb : γ.S.H[b]? = some y0) (h0 : y0.nocells = true) (h1 : y.nocells = true) (hm : Mset γ.S.H b y H') : Ext γ (γ.mset b H' o) where
  bad := rfl
  lo := rfl
  size := by simp [Ghost.mset]
  os := rfl
  tape := rfl
  output := rfl
  cell := fun g o' u h => by
    have hlt : b < γ.S.H.length := (List.getElem?_eq_some_iff.1 hb).1
    refine ⟨?_, h.2.1, h.2.2.1, fun b' hb' => h.2.2.2.1 b' ((mset_blkOwns hm).1 hb'), h.2.2.2.2⟩
    have hne : g ≠ γ.ι.h b := fun he => h.2.2.2.1 b ⟨hlt, he.symm⟩
    rw [show (γ.mset b H' o).w.cell? ⟨g, o', none⟩ = γ.w.cell? ⟨g, o', none⟩ from World.cell?_of_block (w := γ.w) (mset_heap hne)]
    exact h.1
  blk := fun b' e' g c ⟨x, k1, k2, k3⟩ => by
    by_cases hbb : b' = b
    · subst hbb
      rw [hb] at k1
      cases k1
      rw [ABlk.nocells_ep h0] at k2 k3
      exact ⟨y, hm.at_, by rw [ABlk.nocells_ep h1]; exact k2, by rw [ABlk.nocells_ep h1]; exact k3⟩
    · rcases hm.oth b' hbb with h | ⟨l, c', j1, j2⟩
      · exact ⟨x, h.trans k1, k2, k3⟩
      · rw [j1] at k1
        cases k1
        exact ⟨_, j2, k2, k3⟩
  tip := fun _ _ _ _ ht => tip_of (γ := γ) (γ' := γ.mset b H' o) rfl rfl rfl (fun _ _ => own_mset hr hb h0) ht
  own := fun _ _ _ => own_mset hr hb h0
  frame := fun k _ ho => .inl (mset_heap fun he => ho (.inl ⟨b, (List.getElem?_eq_some_iff.1 hb).1, he.symm⟩))
  owns := fun k h => by
    rcases h with ⟨b', hb'⟩ | h
    · exact .inl (.inl ⟨b', (mset_blkOwns hm).1 hb'⟩)
    · exact .inl (.inr h)

theorem rl_mset (hr : Rl γ) (hb : γ.S.H[b]? = some y0) (h0 : y0.nocells = true) (h1 : y.nocells = true) (hm : Mset γ.S.H b y H') (hv : BR γ.cx (γ.ι.c b) (γ.ι.z b) y o)
    (hself : ∀ mb l c, y = .iter mb l c → mb ≠ b ∧ ∃ es en clk since seen c0, γ.S.H[mb]? = some (.amap es) ∧ o = .mapIter (some (γ.ι.h mb)) since seen c0 ∧ γ.w.heap[γ.ι.h mb]? = some (.map en clk) ∧ IR γ.cx l c en clk since seen c0)
    (hit : ∀ (x : Nat) (l : List (AVal × AVal)) (c c' : Option (AVal × AVal)), x ≠ b → γ.S.H[x]? = some (.iter b l c) → H'[x]? = some (.iter b l c') → ∃ es en clk, y = .amap es ∧ o = .map en clk ∧
      ∀ (en0 : Array MapEntry) (clk0 since : Nat) (seen : Array Nat) (c0 : Nat), γ.w.heap[γ.ι.h b]? = some (.map en0 clk0) → IR γ.cx l c en0 clk0 since seen c0 → IR γ.cx l c' en clk since seen c0) : Rl (γ.mset b H' o) where
  lo := by simpa [Ghost.mset] using hr.lo
  bad := hr.bad
  objs := fun b' x hb' => by
    have hb'' : H'[b']? = some x := hb'
    by_cases hbb : b' = b
    · subst hbb
      rw [hm.at_] at hb''
      cases hb''
      exact ⟨o, mset_self hr hb, hv.mono (ext_mset hr hb h0 h1 hm).le⟩
    · rcases hm.oth b' hbb with h | ⟨l, c', k1, k2⟩
      · rw [h] at hb''
        obtain ⟨q, k1, k2⟩ := hr.objs b' x hb''
        exact ⟨q, (mset_heap (hr.ne hb hb'' hbb)).trans k1, k2.mono (ext_mset hr hb h0 h1 hm).le⟩
      · rw [k2] at hb''
        cases hb''
        obtain ⟨q, j1, j2⟩ := hr.objs b' _ k1
        exact ⟨q, (mset_heap (hr.ne hb k1 hbb)).trans j1, j2⟩
  its := fun b' mb left cur hb' => by
    have hb'' : H'[b']? = some (.iter mb left cur) := hb'
    by_cases hbb : b' = b
    · subst hbb
      rw [hm.at_] at hb''
      cases hb''
      obtain ⟨hmb, es, en, clk, since, seen, c0, g1, g2, g3, g4⟩ := hself mb left cur rfl
      refine ⟨es, en, clk, since, seen, c0, ?_, (mset_self hr hb).trans (congrArg some g2), (mset_heap (hr.ne hb g1 hmb)).trans g3, g4.mono (ext_mset hr hb h0 h1 hm).le⟩
      rcases hm.oth mb hmb with h' | ⟨l, c', k1, k2⟩
      · exact h'.trans g1
      · rw [k1] at g1; cases g1
    have hslf : ∀ cur0, γ.S.H[b']? = some (.iter b left cur0) → H'[b']? = some (.iter b left cur) → ∃ es en clk since seen c0, H'[b]? = some (.amap es) ∧ (γ.mset b H' o).w.heap[γ.ι.h b']? = some (.mapIter (some (γ.ι.h b)) since seen c0) ∧ (γ.mset b H' o).w.heap[γ.ι.h b]? = some (.map en clk) ∧ IR (γ.mset b H' o).cx left cur en clk since seen c0 := by
      intro cur0 h h'
      obtain ⟨es1, en1, clk1, since, seen, c0, g1, g2, g3, g4⟩ := hr.its b' b left cur0 h
      obtain ⟨es, en, clk, e1, e2, e3⟩ := hit b' left cur0 cur hbb h h'
      subst e1
      refine ⟨es, en, clk, since, seen, c0, hm.at_, (mset_heap (hr.ne hb h hbb)).trans g2, (mset_self hr hb).trans (congrArg some e2), (e3 en1 clk1 since seen c0 g3 g4).mono (ext_mset hr hb h0 h1 hm).le⟩
    rcases hm.oth b' hbb with h | ⟨l, c', k1, k2⟩
    · rw [h] at hb''
      by_cases hmb : mb = b
      · subst hmb
        exact hslf cur hb'' (h.trans hb'')
      · obtain ⟨es1, en1, clk1, since, seen, c0, g1, g2, g3, g4⟩ := hr.its b' mb left cur hb''
        refine ⟨es1, en1, clk1, since, seen, c0, ?_, (mset_heap (hr.ne hb hb'' hbb)).trans g2, (mset_heap (hr.ne hb g1 hmb)).trans g3, g4.mono (ext_mset hr hb h0 h1 hm).le⟩
        rcases hm.oth mb hmb with h' | ⟨l, c', k1, k2⟩
        · exact h'.trans g1
        · rw [k1] at g1; cases g1
    · rw [k2] at hb''
      cases hb''
      exact hslf c' k1 k2
  toks := fun t g ht => by
    have hlt : b < γ.S.H.length := (List.getElem?_eq_some_iff.1 hb).1
    obtain ⟨arr, lo, hi, tp, sz, k1, k2⟩ := hr.toks t g ht
    exact ⟨arr, lo, hi, tp, sz, by rw [mset_heap fun he => hr.ht b t g ⟨hlt, he.symm⟩ ht]; exact k1, k2⟩
  own := fun g hg => by
    have : γ.owns g := by
      rcases hg with ⟨b', hb'⟩ | h
      · exact .inl ⟨b', (mset_blkOwns hm).1 hb'⟩
      · exact .inr h
    simpa [Ghost.mset] using hr.own g this
  hh := fun x y g h h' => hr.hh x y g ((mset_blkOwns hm).1 h) ((mset_blkOwns hm).1 h')
  ht := fun x t g h ht => hr.ht x t g ((mset_blkOwns hm).1 h) ht
  tt := hr.tt
end mset

/-- No iterator goes over this map. -/
def noIt1 (b : Nat) : ABlk → Bool
  | .iter mb _ _ => mb != b
  | _ => true
def noIt (b : Nat) (H : List ABlk) : Bool := H.all (noIt1 b)
theorem Mset.put {H : List ABlk} {b : Nat} {y0 y : ABlk} (hb : H[b]? = some y0) : Mset H b y (H.set b y) :=
  ⟨by simp, by rw [List.getElem?_set_self (List.getElem?_eq_some_iff.1 hb).1], fun x hx => .inl (by rw [List.getElem?_set_ne (Ne.symm hx)])⟩
theorem noIt_abs {H : List ABlk} {b x : Nat} {l : List (AVal × AVal)} {c : Option (AVal × AVal)} (h : noIt b H = true) (hx : H[x]? = some (.iter b l c)) : False := by
  have := List.all_eq_true.1 h _ (List.mem_of_getElem? hx)
  simp [noIt1] at this

/-- Two keys, bit by bit. -/
def abit1 : AVal → AVal → Bool
  | .int k a, .int k' b => k == k' && a == b
  | .bool a, .bool b => a == b
  | .str a, .str b => a == b
  | _, _ => false
def abits : AVal → AVal → Bool
  | .agg xs, .agg ys => xs.length == ys.length && (xs.zip ys).all fun p => abit1 p.1 p.2
  | x, y => abit1 x y

theorem abit1_sound {κ : Cx} {x y : AVal} {u v : Value} (h : abit1 x y = true) (hu : VR κ x u) (hv : VR κ y v) (n : Nat) : Instr.sameBits n u v = true := by
  cases x <;> cases y <;> simp only [abit1, Bool.false_eq_true] at h
  · cases hu; cases hv; cases n <;> simpa [Instr.sameBits] using h
  · cases hu; cases hv; cases n <;> simpa [Instr.sameBits] using h
  · cases hu; cases hv
    have : _ = _ := eq_of_beq h
    subst this
    rename_i s1
    have e2 : (ByteArray.mk s1.toArray == ByteArray.mk s1.toArray) = (s1.toArray == s1.toArray) := rfl
    cases n <;> simp [Instr.sameBits, e2]

theorem modify_map {f : MapEntry → MapEntry} : ∀ (L : List MapEntry) (q : Nat) (y : MapEntry), (L.map (·.born)).Nodup → L[q]? = some y → L.modify q f = L.map fun x => if x.born = y.born then f x else x
  | [], q, y, _, h => by simp at h
  | x :: L, 0, y, hn, h => by
    simp only [List.getElem?_cons_zero, Option.some.injEq] at h
    subst h
    simp only [List.map_cons, List.nodup_cons] at hn
    simp only [List.modify_zero_cons, List.map_cons, if_true, List.cons.injEq, true_and]
    refine (List.map_id L).symm.trans (List.map_congr_left fun z hz => ?_)
    rw [if_neg]
    · rfl
    · intro he; exact hn.1 (he ▸ List.mem_map.2 ⟨z, hz, rfl⟩)
  | x :: L, q + 1, y, hn, h => by
    simp only [List.map_cons, List.nodup_cons] at hn
    have hy : L[q]? = some y := by simpa using h
    have hne : x.born ≠ y.born := fun he => hn.1 (he ▸ List.mem_map.2 ⟨y, List.mem_of_getElem? hy, rfl⟩)
    simp only [List.modify_succ_cons, List.map_cons, if_neg hne, modify_map L q y hn.2 hy]
theorem set_map {f : MapEntry → MapEntry} (L : List MapEntry) (q : Nat) (y : MapEntry) (hn : (L.map (·.born)).Nodup) (h : L[q]? = some y) : L.set q (f y) = L.map fun x => if x.born = y.born then f x else x := by
  rw [← modify_map L q y hn h]
  obtain ⟨hq, rfl⟩ := List.getElem?_eq_some_iff.1 h
  apply List.ext_getElem?
  intro i
  simp only [List.getElem?_set, List.getElem?_modify]
  by_cases hi : q = i
  · subst hi; simp [hq]
  · simp [hi]

def amput (P : Program) (t : TypeId) (m : AMem) (x k v : AVal) : Option (AVal × AMem) :=
  match tiOf P t with
  | some I => (match I.k with
    | .map kt _ => (match x with
      | .map b => (match m.H[b]? with
        | some (.amap es) => if akey P 20 kt k = true ∧ noIt b m.H = true then (match afind P kt k es 0 with
          | some (some j) => (match es[j]? with
            | some e => if abits e.1 k = true then some (.undef, { m with H := m.H.set b (.amap (es.set j (k, v))) }) else none
            | none => none)
          | some none => some (.undef, { m with H := m.H.set b (.amap (es ++ [(k, v)])) })
          | none => none) else none
        | _ => none)
      | _ => none)
    | _ => none)
  | none => none

theorem abits_sound {κ : Cx} {x y : AVal} {u v : Value} (h : abits x y = true) (hu : VR κ x u) (hv : VR κ y v) (n : Nat) : Instr.sameBits (n + 1) u v = true := by
  by_cases hag : (∃ xs ys, x = .agg xs ∧ y = .agg ys)
  · obtain ⟨xs, ys, rfl, rfl⟩ := hag
    simp only [abits, Bool.and_eq_true, beq_iff_eq] at h
    cases hu with
    | agg _ us hus huv _ =>
      cases hv with
      | agg _ vs hvs hvv _ =>
        simp only [Instr.sameBits, Bool.and_eq_true, beq_iff_eq]
        refine ⟨by omega, List.all_eq_true.2 fun p hp => ?_⟩
        obtain ⟨j, hj, rfl⟩ := List.mem_iff_getElem.1 hp
        have hju : j < us.size := by simp at hj; omega
        have hjv : j < vs.size := by simp at hj; omega
        have hx := huv j (by omega)
        have hy := hvv j (by omega)
        simp only [Array.getD, hju, hjv, dite_true] at hx hy
        have hz := List.all_eq_true.1 h.2 ((xs.zip ys)[j]'(by simp; omega)) (List.getElem_mem _)
        simp only [List.getElem_zip] at hz
        simp only [List.getElem_zip, Array.getElem_toList]
        exact abit1_sound hz (by simpa using hx) (by simpa using hy) n
  · have h1 : abit1 x y = true := by
      cases x <;> cases y <;> first | exact h | exact absurd ⟨_, _, rfl, rfl⟩ hag
    exact abit1_sound h1 hu hv (n + 1)

theorem amput_sound {P : Program} {γ : Ghost} (hr : Rl γ) {t : TypeId} {x k v v0 : AVal} {m' : AMem} {xu ku vu : Value} (h : amput P t γ.S x k v = some (v0, m')) (hx : VR γ.cx x xu) (hk : VR γ.cx k ku) (hv : VR γ.cx v vu) :
    v0 = .undef ∧ ∃ γ', (Instr.mapUpdate t xu ku vu).run P γ.w = .ok () γ'.w ∧ Ext γ γ' ∧ Rl γ' ∧ γ'.S = m' := by
  unfold amput at h
  cases hI : tiOf P t with
  | none => simp [hI] at h
  | some I =>
    simp only [hI] at h
    obtain ⟨i, ds, hi⟩ := tiOf_spec hI
    have hkk := hi.k
    cases hq : I.k <;> simp only [hq, reduceCtorEq] at h
    rename_i kt et
    rw [hq] at hkk
    have := tk_map hkk; subst this
    cases x <;> simp only [reduceCtorEq] at h
    rename_i b
    cases hb : γ.S.H[b]? with
    | none => simp [hb] at h
    | some y =>
      cases y with
      | cells e cs => simp [hb] at h
      | iter _ _ _ => simp [hb] at h
      | loop _ _ _ _ _ _ _ => simp [hb] at h
      | amap es =>
        simp only [hb] at h
        split at h
        case isFalse => cases h
        rename_i hak
        obtain ⟨hak, hno⟩ := hak
        have hit : ∀ {y : ABlk} {o : Obj} {H' : List ABlk} (x : Nat) (l : List (AVal × AVal)) (c c' : Option (AVal × AVal)), x ≠ b → γ.S.H[x]? = some (.iter b l c) → H'[x]? = some (.iter b l c') → ∃ es en clk, y = .amap es ∧ o = .map en clk ∧
            ∀ (en0 : Array MapEntry) (clk0 since : Nat) (seen : Array Nat) (c0 : Nat), γ.w.heap[γ.ι.h b]? = some (.map en0 clk0) → IR γ.cx l c en0 clk0 since seen c0 → IR γ.cx l c' en clk since seen c0 :=
          fun x l c c' _ hx => (noIt_abs hno hx).elim
        obtain ⟨en, clk, h1, h2⟩ := hr.maps b es hb
        obtain ⟨l, hp, hal⟩ := h2.perm
        cases hx with
        | map _ g c hblk =>
          obtain ⟨y, hy, _, hy2⟩ := hblk
          rw [hb] at hy
          cases hy
          obtain ⟨hg, _⟩ := hy2 rfl
          subst hg
          obtain ⟨d, hd⟩ : ∃ d, P.underlying kt = some d := by
            unfold akey at hak
            cases hK : tiOf P kt with
            | none => simp [hK] at hak
            | some K => obtain ⟨_, d, hd⟩ := tiOf_spec hK; exact ⟨d, hd.under⟩
          have hc := akey_sound (κ := γ.cx) γ.w 20 kt k ku hak hk false 10000 (by omega)
          have hgo : (getObj (γ.ι.h b)).run P γ.w = .ok (.map en clk) γ.w := by simp [getObj, Sem.run, h1]
          have hso : ∀ o : Obj, (setObj (γ.ι.h b) o).run P γ.w = .ok () { γ.w with heap := γ.w.heap.setIfInBounds (γ.ι.h b) o } := fun o => by simp [setObj, Sem.run, h1]
          cases hfd : afind P kt k es 0 with
          | none => simp [hfd] at h
          | some r =>
            obtain ⟨hf, hf1, hf0⟩ := find_sound (κ := γ.cx) γ.w hd hk hfd hp h2.born hal
            simp only [hfd] at h
            cases r with
            | none =>
              simp only [Option.some.injEq, Prod.mk.injEq] at h
              obtain ⟨rfl, rfl⟩ := h
              have hf0 := hf0 rfl
              rw [hf0] at hf
              refine ⟨rfl, γ.mset b (γ.S.H.set b (.amap (es ++ [(k, v)]))) (.map (en.push { key := ku, val := vu, born := clk }) (clk + 1)), ?_, ext_mset hr hb rfl rfl (.put hb), rl_mset hr hb rfl rfl (.put hb) ⟨_, _, rfl, ?_, ?_, l ++ [{ key := ku, val := vu, born := clk }], ?_, ?_⟩ (fun _ _ _ h => by cases h) hit, rfl⟩
              · simp only [Instr.mapUpdate, Sem.run_bind, hi.run_under γ.w, Result.andThen_ok, hgo, hc, hf, hso]
                rfl
              · rw [Array.toList_push, List.map_append, List.nodup_append]
                refine ⟨h2.born, by simp, fun a ha c hc' he => ?_⟩
                subst he
                obtain ⟨x, hx, rfl⟩ := List.mem_map.1 ha
                have := h2.lt x hx
                simp at hc'
                omega
              · intro x hx
                rw [Array.toList_push, List.mem_append] at hx
                rcases hx with hx | hx
                · have := h2.lt x hx; omega
                · simp at hx; subst hx; simp
              · rw [Array.toList_push]; exact hp.append_right _
              · refine ⟨by simp [hal.1], fun j hj hj' => ?_⟩
                by_cases hje : j < es.length
                · have hjl : j < l.length := by rw [hal.1]; exact hje
                  rw [List.getElem_append_left hje, List.getElem_append_left hjl]
                  exact hal.2 j hje hjl
                · have hj2 : j = es.length := by simp at hj; omega
                  subst hj2
                  rw [List.getElem_append_right (Nat.le_refl _), List.getElem_append_right (by rw [hal.1]; exact Nat.le_refl _)]
                  simpa using ⟨hk, hv⟩
            | some j =>
              obtain ⟨_, hjl⟩ := afind_ge es 0 j hfd
              have hj : j < es.length := by omega
              simp only [List.getElem?_eq_getElem hj] at h
              split at h
              case isFalse => cases h
              rename_i hbits
              simp only [Option.some.injEq, Prod.mk.injEq] at h
              obtain ⟨rfl, rfl⟩ := h
              obtain ⟨hjl', q, k1, k2⟩ := hf1 j rfl
              rw [k1] at hf
              have hsb := abits_sound hbits (hal.2 j hj hjl').1 hk 9999
              have hnl : (l.map (·.born)).Nodup := (hp.map _).nodup_iff.2 h2.born
              have hq : q < en.size := by
                have := (List.getElem?_eq_some_iff.1 k2).1
                simpa using this
              have eq : en[q] = l[j] := by
                have := (List.getElem?_eq_some_iff.1 k2).2
                simpa using this
              have em : (en.modify q fun e => { e with key := ku, val := vu }).toList = en.toList.map fun x => if x.born = l[j].born then { x with key := ku, val := vu } else x :=
                (Array.toList_modify ..).trans (modify_map (f := fun x => { x with key := ku, val := vu }) en.toList q _ h2.born k2)
              have el : (l.set j { l[j] with key := ku, val := vu }) = l.map fun x => if x.born = l[j].born then { x with key := ku, val := vu } else x :=
                set_map (f := fun x => { x with key := ku, val := vu }) l j _ hnl (List.getElem?_eq_getElem hjl')
              refine ⟨rfl, γ.mset b (γ.S.H.set b (.amap (es.set j (k, v)))) (.map (en.modify q fun e => { e with key := ku, val := vu }) clk), ?_, ext_mset hr hb rfl rfl (.put hb), rl_mset hr hb rfl rfl (.put hb) ⟨_, _, rfl, ?_, ?_, l.set j { l[j] with key := ku, val := vu }, ?_, ?_⟩ (fun _ _ _ h => by cases h) hit, rfl⟩
              · have hkey : ((en[q]?).map (·.key)).getD ku = l[j].key := by rw [Array.getElem?_eq_getElem hq, eq]; rfl
                simp only [Instr.mapUpdate, Sem.run_bind, hi.run_under γ.w, Result.andThen_ok, hgo, hc, hf, hkey, Instr.keyThatStays, hsb, if_true, Sem.run_pure, hso]
                rfl
              · rw [em, List.map_map]
                have : (fun x : MapEntry => x.born) ∘ (fun x : MapEntry => if x.born = l[j].born then { x with key := ku, val := vu } else x) = fun x => x.born := by
                  funext x; simp only [Function.comp]; split <;> rfl
                rw [this]; exact h2.born
              · intro x hx
                rw [em] at hx
                obtain ⟨y, hy, rfl⟩ := List.mem_map.1 hx
                have := h2.lt y hy
                split <;> exact this
              · rw [em, el]; exact hp.map _
              · refine ⟨by simp [hal.1], fun i hi hi' => ?_⟩
                have hie : i < es.length := by simpa using hi
                have hil : i < l.length := by simpa using hi'
                by_cases hij : j = i
                · subst hij
                  simpa using ⟨hk, hv⟩
                · rw [List.getElem_set_ne hij, List.getElem_set_ne hij]
                  exact hal.2 i hie hil
end Go.Hk
