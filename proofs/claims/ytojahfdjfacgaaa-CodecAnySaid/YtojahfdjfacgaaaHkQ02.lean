/- The operations that touch no memory: what they give for abstract values, and that the machine gives the same. -/
import Derived.Test.YtojahfdjfacgaaaHkQ01
import Derived.Laws.Small
import Derived.Laws.Strings
namespace Go.Hk

def ofVal1 : Value → AVal
  | .bool b => .bool b
  | .int k n => .int k n
  | .string s => .str s.data.toList
  | .pointer none => .nilp
  | .slice none 0 0 => .sl .nil 0 []
  | .map none => .nilm
  | .nilFunc => .nilf
  | .nilIface => .nili
  | _ => .dead

/-- A constant's abstract value. -/
def ofVal : Value → AVal
  | .agg cs => if cs.toList.all (·.oneCell') then .agg (cs.toList.map ofVal1) else .dead
  | .tuple vs => if vs.isEmpty then .undef else .dead
  | v => ofVal1 v

theorem VR.ofVal1 (κ : Cx) (v : Value) : VR κ (ofVal1 v) v := by
  cases v with
  | bool b => exact .bool b
  | int k n => exact .int k n
  | string s => exact .str s.data.toList
  | pointer a => cases a with
    | none => exact .nilp
    | some a => exact .dead _
  | slice a l c =>
    cases a with
    | some a => exact .dead _
    | none =>
      cases l with
      | succ l => exact .dead _
      | zero => cases c with
        | succ c => exact .dead _
        | zero => exact .slnil .nil ⟨rfl, rfl⟩
  | map r => cases r with
    | none => exact .nilm
    | some a => exact .dead _
  | nilFunc => exact .nilf
  | nilIface => exact .nili
  | _ => exact .dead _

theorem VR.ofVal (κ : Cx) (v : Value) : VR κ (Hk.ofVal v) v := by
  cases v with
  | agg cs =>
    simp only [Hk.ofVal]
    split
    · rename_i hall
      refine .agg _ _ (by simp) (fun j h => ?_) (fun j h => ?_)
      · simp only [List.length_map, Array.length_toList] at h
        simp only [List.getElem_map, Array.getElem_toList, Array.getD, h, dif_pos]
        exact VR.ofVal1 κ _
      · simp only [List.length_map, Array.length_toList] at h
        simp only [Array.getD, h, dif_pos]
        exact List.all_eq_true.1 hall _ (by simp)
    · exact .dead _
  | tuple vs =>
    simp only [Hk.ofVal]
    split
    · rename_i h
      have : vs = #[] := by simpa using h
      subst this
      exact .undef
    · exact .dead _
  | bool b => exact VR.ofVal1 κ (.bool b)
  | int k n => exact VR.ofVal1 κ (.int k n)
  | string s => exact VR.ofVal1 κ (.string s)
  | pointer a => exact VR.ofVal1 κ (.pointer a)
  | slice a l c => exact VR.ofVal1 κ (.slice a l c)
  | map r => exact VR.ofVal1 κ (.map r)
  | nilFunc => exact VR.ofVal1 κ .nilFunc
  | nilIface => exact VR.ofVal1 κ .nilIface
  | _ => exact .dead _

def ev (env : List (Nat × AVal)) : Operand → AVal
  | .tmp t => lk env t
  | .const v => ofVal v
  | .global _ => .dead
  | .func f => .fn f [] []

theorem ER.ev {κ : Cx} {env : List (Nat × AVal)} {a : Act} (he : ER κ env a.tmps) (x : Operand) : VR κ (Hk.ev env x) (a.eval x) := by
  cases x with
  | tmp t => exact he t
  | const v => exact VR.ofVal κ v
  | global g => exact .dead _
  | func f => exact .fn f [] [] #[] #[] rfl rfl (fun j h => absurd h (Nat.not_lt_zero j)) (fun j h => absurd h (Nat.not_lt_zero j))

/-! ### Types -/

inductive TK where
  | int (k : IntKind)
  | bool
  | str
  | slice (e : TypeId)
  | arr (n : Nat) (e : TypeId)
  | struct (fs : List (Bool × TypeId × Nat))
  | map (k e : TypeId)
  | ptr (e : TypeId)
  | func
  | iface
  | other

structure TI where
  size : Nat
  bytes : Nat
  zero : Option AVal
  k : TK

def tkOf : TypeDesc → TK
  | .int k => .int k
  | .bool => .bool
  | .string => .str
  | .slice e => .slice e
  | .array n e => .arr n e
  | .struct fs => .struct (fs.toList.map fun f => (f.name != "_", f.type, f.offset))
  | .map k e => .map k e
  | .pointer e => .ptr e
  | .func _ _ _ => .func
  | .interface _ => .iface
  | _ => .other

def tiOf (P : Program) (t : TypeId) : Option TI :=
  match P.info? t, P.underlying t with
  | some i, some d => some { size := i.size, bytes := i.bytes, zero := i.zero.map ofVal, k := tkOf d }
  | _, _ => none

structure TIs (P : Program) (t : TypeId) (I : TI) (i : TypeInfo) (d : TypeDesc) : Prop where
  info : P.info? t = some i
  under : P.underlying t = some d
  size : I.size = i.size
  bytes : I.bytes = i.bytes
  zero : I.zero = i.zero.map ofVal
  k : I.k = tkOf d

theorem tiOf_spec {P : Program} {t : TypeId} {I : TI} (h : tiOf P t = some I) : ∃ i d, TIs P t I i d := by
  unfold tiOf at h
  split at h
  · rename_i i d h1 h2
    simp only [Option.some.injEq] at h
    subst h
    exact ⟨i, d, h1, h2, rfl, rfl, rfl, rfl⟩
  · cases h

theorem tk_int {d : TypeDesc} {k : IntKind} (h : TK.int k = tkOf d) : d = .int k := by cases d <;> simp_all [tkOf]
theorem tk_bool {d : TypeDesc} (h : TK.bool = tkOf d) : d = .bool := by cases d <;> simp_all [tkOf]
theorem tk_str {d : TypeDesc} (h : TK.str = tkOf d) : d = .string := by cases d <;> simp_all [tkOf]
theorem tk_slice {d : TypeDesc} {e : TypeId} (h : TK.slice e = tkOf d) : d = .slice e := by cases d <;> simp_all [tkOf]
theorem tk_arr {d : TypeDesc} {n : Nat} {e : TypeId} (h : TK.arr n e = tkOf d) : d = .array n e := by cases d <;> simp_all [tkOf]
theorem tk_map {d : TypeDesc} {k e : TypeId} (h : TK.map k e = tkOf d) : d = .map k e := by cases d <;> simp_all [tkOf]
theorem tk_ptr {d : TypeDesc} {e : TypeId} (h : TK.ptr e = tkOf d) : d = .pointer e := by cases d <;> simp_all [tkOf]
theorem tk_struct {d : TypeDesc} {fs : List (Bool × TypeId × Nat)} (h : TK.struct fs = tkOf d) : ∃ gs, d = .struct gs ∧ fs = gs.toList.map fun f => (f.name != "_", f.type, f.offset) := by
  cases d <;> simp_all [tkOf]

def TK.agg : TK → Bool
  | .arr _ _ | .struct _ => true
  | _ => false

theorem tk_agg (d : TypeDesc) : (tkOf d).agg = (match d with | .struct _ | .array _ _ => true | _ => false) := by cases d <;> rfl

section
variable {P : Program} {t : TypeId} {I : TI} {i : TypeInfo} {d : TypeDesc} (w : World)
theorem TIs.run_under (h : TIs P t I i d) : (underlying t).run P w = .ok d w := run_underlying h.under w
theorem TIs.run_size (h : TIs P t I i d) : (sizeOf t).run P w = .ok I.size w := by simp [sizeOf, typeInfo, h.info, h.size]
theorem TIs.run_info (h : TIs P t I i d) : (typeInfo t).run P w = .ok i w := by simp [typeInfo, h.info]
theorem TIs.run_agg (h : TIs P t I i d) : (isAgg t).run P w = .ok I.k.agg w := by
  unfold isAgg
  rw [Sem.run_bind, h.run_under w, h.k, tk_agg]
  cases d <;> rfl
theorem TIs.run_zero (h : TIs P t I i d) {z : AVal} (hz : I.zero = some z) : ∃ v, (zeroValue t).run P w = .ok v w ∧ i.zero = some v ∧ z = ofVal v := by
  rw [h.zero] at hz
  cases hv : i.zero with
  | none => simp [hv] at hz
  | some v =>
    simp only [hv, Option.map_some, Option.some.injEq] at hz
    exact ⟨v, by simp [zeroValue, typeInfo, h.info, hv], rfl, hz.symm⟩
end

/-! ### Equality -/

def andL : List (Option Bool) → Option Bool
  | [] => some true
  | some b :: r => match andL r with
    | some c => some (b && c)
    | none => none
  | none :: _ => none

/-- A part of an aggregate. -/
def apart (P : Program) (t : TypeId) (cs : List AVal) (off : Nat) : Option AVal :=
  match tiOf P t with
  | some I => if I.k.agg then (if off + I.size ≤ cs.length then some (.agg ((cs.drop off).take I.size)) else none) else cs[off]?
  | none => none

def aeq (P : Program) : Nat → TypeId → AVal → AVal → Option Bool
  | 0, _, _, _ => none
  | d + 1, t, x, y =>
    match tiOf P t with
    | none => none
    | some I =>
      match I.k, x, y with
      | .bool, .bool a, .bool b => some (a == b)
      | .int _, .int k a, .int k' b => if k = k' then some (a == b) else none
      | .str, .str a, .str b => some (a == b)
      | .ptr _, .nilp, .nilp => some true
      | .ptr _, .nilp, .ptr _ _ _ => some false
      | .ptr _, .ptr _ _ _, .nilp => some false
      | .ptr _, .nilp, .ipt _ _ => some false
      | .ptr _, .ipt _ _, .nilp => some false
      | .map _ _, .nilm, .nilm => some true
      | .map _ _, .map _, .nilm => some false
      | .map _ _, .nilm, .map _ => some false
      | .func, .nilf, .nilf => some true
      | .func, .fn _ _ _, .nilf => some false
      | .func, .nilf, .fn _ _ _ => some false
      | .struct fs, .agg xs, .agg ys =>
        if P.stoodInHeld t then none else
        andL (fs.map fun f => if f.1 then (match apart P f.2.1 xs f.2.2, apart P f.2.1 ys f.2.2 with
          | some a, some b => aeq P d f.2.1 a b
          | _, _ => none) else some true)
      | .arr n e, .agg xs, .agg ys =>
        match tiOf P e with
        | some E => andL ((List.range n).map fun i => match apart P e xs (i * E.size), apart P e ys (i * E.size) with
          | some a, some b => aeq P d e a b
          | _, _ => none)
        | none => none
      | _, _, _ => none

theorem getD_extract (vs : Array Value) (a n j : Nat) (h : j < n) (ha : a + n ≤ vs.size) : (vs.extract a (a + n)).getD j undef = vs.getD (a + j) undef := by
  simp only [Array.getD_eq_getD_getElem?]
  congr 1
  rw [Array.getElem?_extract]
  simp only [show min (a + n) vs.size = a + n by omega]
  rw [if_pos (by omega)]

theorem apart_sound {P : Program} {κ : Cx} {t : TypeId} {cs : List AVal} {vs : Array Value} {off : Nat} {x : AVal} (w : World) (h : apart P t cs off = some x) (hs : vs.size = cs.length)
    (hv : ∀ (j : Nat) (h : j < cs.length), VR κ (cs[j]) (vs.getD j undef)) (ho : ∀ j, j < cs.length → (vs.getD j undef).oneCell' = true) : ∃ v, (part t vs off).run P w = .ok v w ∧ VR κ x v := by
  unfold apart at h
  cases hI : tiOf P t with
  | none => simp [hI] at h
  | some I =>
    simp only [hI] at h
    obtain ⟨i, d, hi⟩ := tiOf_spec hI
    cases hk : I.k.agg with
    | true =>
      simp only [hk, if_true] at h
      split at h
      · rename_i hle
        simp only [Option.some.injEq] at h
        subst h
        refine ⟨.agg (vs.extract off (off + I.size)), by simp [part, hi.run_agg, hi.run_size, hk], .agg _ _ (by simp; omega) (fun j hj => ?_) (fun j hj => ?_)⟩
        · simp only [List.length_take, List.length_drop] at hj
          rw [getD_extract _ _ _ _ (by omega) (by omega)]
          simp only [List.getElem_take, List.getElem_drop]
          exact hv _ (by omega)
        · simp only [List.length_take, List.length_drop] at hj
          rw [getD_extract _ _ _ _ (by omega) (by omega)]
          exact ho _ (by omega)
      · cases h
    | false =>
      simp only [hk, Bool.false_eq_true, if_false] at h
      obtain ⟨hlt, rfl⟩ := List.getElem?_eq_some_iff.1 h
      have hlt' : off < vs.size := by omega
      refine ⟨vs[off], by simp [part, hi.run_agg, hk, hlt'], ?_⟩
      have := hv off hlt
      simpa [Array.getD, hlt'] using this

theorem andL_cons {x : Option Bool} {r : List (Option Bool)} {b : Bool} (h : andL (x :: r) = some b) : ∃ c e, x = some c ∧ andL r = some e ∧ b = (c && e) := by
  cases x with
  | none => simp [andL] at h
  | some c =>
    cases hr : andL r with
    | none => simp [andL, hr] at h
    | some e => simp [andL, hr] at h; exact ⟨c, e, rfl, rfl, h.symm⟩

theorem run_fields {P : Program} {w : World} (d : Nat) (xs ys : Array Value) (F : Bool × TypeId × Nat → Option Bool)
    (hF : ∀ f b, F f = some b → f.1 = true → ∃ a c, (part f.2.1 xs f.2.2).run P w = .ok a w ∧ (part f.2.1 ys f.2.2).run P w = .ok c w ∧ (Op.equalIn d f.2.1 a c).run P w = .ok b w)
    (hF' : ∀ f b, F f = some b → f.1 = false → b = true) :
    ∀ (l : List Field) (b : Bool), andL (l.map fun f => F (f.name != "_", f.type, f.offset)) = some b → (Op.eqFields d xs ys l).run P w = .ok b w
  | [], b, h => by simp [andL] at h; simp [Op.eqFields, ← h]
  | f :: l, b, h => by
    obtain ⟨c, e, h1, h2, rfl⟩ := andL_cons (by simpa using h)
    have ih := run_fields d xs ys F hF hF' l e (by simpa using h2)
    simp only [Op.eqFields]
    by_cases hn : f.name = "_"
    · have := hF' _ _ h1 (by simp [hn])
      subst this
      simp [hn, ih]
    · obtain ⟨u, v, e1, e2, e3⟩ := hF _ _ h1 (by simp [hn])
      simp only at e1 e2 e3
      simp only [if_pos hn, Sem.run_bind, e1, e2, e3, Result.andThen_ok, ne_eq]
      cases c with
      | false => simp
      | true => simpa using ih

theorem run_equalIn_arr {P : Program} {w : World} {D : Nat} {t e : TypeId} {n sz : Nat} {us vs : Array Value} (ht : P.underlying t = some (.array n e)) (he : (sizeOf e).run P w = .ok sz w) (F : Nat → Option Bool)
    (hF : ∀ i b, F i = some b → ∃ a c, (part e us (i * sz)).run P w = .ok a w ∧ (part e vs (i * sz)).run P w = .ok c w ∧ (Op.equalIn D e a c).run P w = .ok b w)
    {b : Bool} (h : andL ((List.range n).map F) = some b) : (Op.equalIn (D + 1) t (.agg us) (.agg vs)).run P w = .ok b w := by
  simp only [Op.equalIn, Sem.run_bind, run_underlying ht, Result.andThen_ok, he]
  have key : ∀ (l : List Nat) (b : Bool), andL (l.map F) = some b → ∀ (G : Nat → Sem (ForInStep (Option Bool × Unit))), (∀ i, G i = do
        let a ← part e us (i * sz)
        let c ← part e vs (i * sz)
        let q ← Op.equalIn D e a c
        if (!q) = true then pure (ForInStep.done (some false, ())) else pure (ForInStep.yield (none, ()))) →
      ∃ r : Option Bool × Unit, (forIn (m := Sem) l ((none, ()) : Option Bool × Unit) fun i _ => G i).run P w = .ok r w ∧ r.1 = (if b then none else some false) := by
    intro l
    induction l with
    | nil => intro b h G _; exact ⟨(none, ()), rfl, by simp [andL] at h; simp [← h]⟩
    | cons i l ih =>
      intro b h G hG
      obtain ⟨c, f, h1, h2, rfl⟩ := andL_cons (by simpa using h)
      obtain ⟨u, v, e1, e2, e3⟩ := hF i c h1
      simp only [List.forIn_cons, Sem.run_bind, hG i, e1, e2, e3, Result.andThen_ok]
      cases c with
      | false => exact ⟨(some false, ()), by simp, by simp⟩
      | true =>
        obtain ⟨r, hr, hr'⟩ := ih f h2 G hG
        exact ⟨r, by simpa using hr, by simpa using hr'⟩
  obtain ⟨r, hr, hr'⟩ := key (List.range n) b h _ (fun i => rfl)
  have hrg : (forIn (m := Sem) [:n] ((none, ()) : Option Bool × Unit) fun i _ => do
        let a ← part e us (i * sz)
        let c ← part e vs (i * sz)
        let q ← Op.equalIn D e a c
        if (!q) = true then pure (ForInStep.done (some false, ())) else pure (ForInStep.yield (none, ()))).run P w = .ok r w := by
    simp only [Std.Legacy.Range.forIn_eq_forIn_range', Std.Legacy.Range.size, Nat.sub_zero, Nat.add_sub_cancel, Nat.div_one]
    rw [← List.range_eq_range']
    exact hr
  rw [hrg]
  obtain ⟨r1, r2⟩ := r
  simp only at hr'
  subst hr'
  cases b <;> rfl

theorem aeq_sound {P : Program} {κ : Cx} (w : World) : ∀ (d : Nat) (t : TypeId) (x y : AVal) (b : Bool) (u v : Value), aeq P d t x y = some b → VR κ x u → VR κ y v →
    ∀ D, d ≤ D → (Op.equalIn D t u v).run P w = .ok b w := by
  intro d
  induction d with
  | zero => intro t x y b u v h; simp [aeq] at h
  | succ d ih =>
    intro t x y b u v h hu hv D hD
    obtain ⟨D, rfl⟩ : ∃ m, D = m + 1 := ⟨D - 1, by omega⟩
    have hD' : d ≤ D := by omega
    unfold aeq at h
    cases hI : tiOf P t with
    | none => simp [hI] at h
    | some I =>
      simp only [hI] at h
      obtain ⟨i, ds, hi⟩ := tiOf_spec hI
      have hk := hi.k
      cases hkk : I.k with
      | bool =>
        rw [hkk] at hk h
        have := tk_bool hk; subst this
        cases hu <;> cases hv <;> simp only [Option.some.injEq, reduceCtorEq] at h
        subst h
        exact run_equalIn_bool w D t _ _ hi.under
      | int kk =>
        rw [hkk] at hk h
        have := tk_int hk; subst this
        cases hu <;> cases hv <;> simp only [reduceCtorEq] at h
        split at h
        · rename_i e; subst e
          simp only [Option.some.injEq] at h; subst h
          exact run_equalIn_int w D t _ _ _ _ hi.under
        · cases h
      | str =>
        rw [hkk] at hk h
        have := tk_str hk; subst this
        cases hu <;> cases hv <;> simp only [Option.some.injEq, reduceCtorEq] at h
        subst h
        rename_i s1 s2
        have := run_equalIn_string (P := P) w D t ⟨s1.toArray⟩ ⟨s2.toArray⟩ hi.under
        simpa using this
      | ptr e =>
        rw [hkk] at hk h
        have := tk_ptr hk; subst this
        cases hu <;> cases hv <;> simp only [Option.some.injEq, reduceCtorEq] at h <;> subst h <;> simp [Op.equalIn, hi.run_under w]
      | map a e =>
        rw [hkk] at hk h
        have := tk_map hk; subst this
        cases hu <;> cases hv <;> simp only [Option.some.injEq, reduceCtorEq] at h <;> subst h <;> simp [Op.equalIn, hi.run_under w]
      | func =>
        rw [hkk] at hk h
        cases ds <;> simp only [tkOf, reduceCtorEq] at hk
        cases hu <;> cases hv <;> simp only [Option.some.injEq, reduceCtorEq] at h <;> subst h <;> simp [Op.equalIn, hi.run_under w]
      | struct fs =>
        rw [hkk] at hk h
        obtain ⟨gs, rfl, rfl⟩ := tk_struct hk
        cases hu <;> cases hv <;> simp only [reduceCtorEq] at h
        rename_i xs us hus huv huo ys vs hvs hvv hvo
        split at h
        · cases h
        · rename_i hst
          have hf : P.fieldsOf t = gs := by simp [Program.fieldsOf, hi.under]
          rw [run_equalIn_struct w D t us vs (by rw [hf]; exact hi.under) (by simpa using hst), hf]
          rw [List.map_map] at h
          refine run_fields D us vs (fun f => if f.1 = true then (match apart P f.2.1 xs f.2.2, apart P f.2.1 ys f.2.2 with
            | some a, some b => aeq P d f.2.1 a b
            | _, _ => none) else some true) (fun f b hb hf1 => ?_) (fun f b hb hf1 => ?_) gs.toList b h
          · simp only [hf1, if_true] at hb
            split at hb
            · rename_i a c ha hc
              obtain ⟨a', ra, va⟩ := apart_sound w ha hus huv huo
              obtain ⟨c', rc, vc⟩ := apart_sound w hc hvs hvv hvo
              exact ⟨a', c', ra, rc, ih _ _ _ _ _ _ hb va vc D hD'⟩
            · cases hb
          · simp only [hf1, Bool.false_eq_true, if_false, Option.some.injEq] at hb
            exact hb.symm
      | arr n e =>
        rw [hkk] at hk h
        have := tk_arr hk; subst this
        cases hu <;> cases hv <;> simp only [reduceCtorEq] at h
        rename_i xs us hus huv huo ys vs hvs hvv hvo
        cases hE : tiOf P e with
        | none => simp [hE] at h
        | some E =>
          simp only [hE] at h
          obtain ⟨i', d', hi'⟩ := tiOf_spec hE
          refine run_equalIn_arr hi.under (hi'.run_size w) _ (fun i b hb => ?_) h
          split at hb
          · rename_i a c ha hc
            obtain ⟨a', ra, va⟩ := apart_sound w ha hus huv huo
            obtain ⟨c', rc, vc⟩ := apart_sound w hc hvs hvv hvo
            exact ⟨a', c', ra, rc, ih _ _ _ _ _ _ hb va vc D hD'⟩
          · cases hb
      | _ => rw [hkk] at h; simp at h

end Go.Hk
