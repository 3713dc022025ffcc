/- One operation of the walk, and that the machine does the same. -/
import Derived.Test.YtojahfdjfacgaaaHkQ10
import Derived.IntWalk
namespace Go.Hk

def alen (P : Program) (t : TypeId) (m : AMem) (x : AVal) : Option AVal :=
  match tiOf P t with
  | some I => (match I.k with
    | .str => (match x with | .str s => some (.int .i64 s.length) | _ => none)
    | .slice _ => (match x with | .sl _ n _ => some (.int .i64 n) | .msl _ _ _ n _ => some (.int .i64 n) | _ => none)
    | .arr n _ => some (.int .i64 n)
    | .map _ _ => (match x with | .nilm => some (.int .i64 0) | .map b => (match m.H[b]? with | some (.amap es) => some (.int .i64 es.length) | _ => none) | _ => none)
    | _ => none)
  | none => none

def acap (P : Program) (t : TypeId) (x : AVal) : Option AVal :=
  match tiOf P t with
  | some I => (match I.k with
    | .slice _ => (match x with | .sl .nil _ _ => some (.int .i64 0) | .sl .full n _ => some (.int .i64 n) | _ => none)
    | _ => none)
  | none => none

/-- copy: onto a row that may be written, from one that is no longer; or onto none. -/
def acopy (P : Program) (m : AMem) (t : TypeId) (x y : AVal) : Option (AVal × AMem) :=
  match tiOf P t with
  | some I => (match I.k with
    | .slice e => (match tiOf P e with
      | some E => (match alist m y with
        | some (k, ds) => (match x with
          | .sl _ n _ => if n = 0 then some (.int .i64 0, m) else none
          | .msl b ep o n _ => (match m.H[b]? with
            | some (.cells e' cs) => if ep = e' ∧ k ≤ n ∧ ds.length = k * E.size ∧ o + ds.length ≤ cs.length then some (.int .i64 k, { m with H := m.H.set b (.cells ep (setMany cs o ds)) }) else none
            | _ => none)
          | _ => none)
        | none => none)
      | none => none)
    | _ => none)
  | none => none

def imax (x y : Int) : Int := if y > x then y else x
def imin (x y : Int) : Int := if y < x then y else x

def abuiltin (P : Program) (mu : Bool) (m : AMem) (b : Builtin) (ts : List TypeId) (xs : List AVal) : Option (AVal × AMem) :=
  match b with
  | .len => (match ts, xs with | [t], [x] => (alen P t m x).map (·, m) | _, _ => none)
  | .max => (match xs with | [.int k x, .int _ y] => some (.int k (imax x y), m) | _ => none)
  | .min => (match xs with | [.int k x, .int _ y] => some (.int k (imin x y), m) | _ => none)
  | .append => (match ts, xs with | [t, t2], [s, x] => if mu then amapp P t t2 m s x else aappend P t t2 m s x | _, _ => none)
  | .cap => (match ts, xs with | [t], [x] => (acap P t x).map (·, m) | _, _ => none)
  | .copy => (match ts, xs with | [t, _], [x, y] => acopy P m t x y | _, _ => none)
  | .delete => (match ts, xs with | [t, _], [x, y] => adelete P t m x y | _, _ => none)
  | .unsafeSliceData => (match xs with | [x] => (adata m x).map (·, m) | _ => none)
  | .unsafeString => (match ts, xs with | [t, _], [x, n] => (austr P t x n).map (·, m) | _, _ => none)
  | _ => none

/-- The epoch that a row of elements of this size begins at. -/
def epo (n : Nat) : Nat := if n < 64 then n else 0
theorem epo_ok (n : Nat) : epo n % 64 = 0 ∨ epo n % 64 = n := by unfold epo; split <;> omega

def zeroRow (zs : List AVal) (n : Nat) : List AVal := (List.range n).map fun j => zs.getD (j % zs.length) .dead

def abuildSlice (P : Program) (mu : Bool) (m : AMem) (t : TypeId) (len : Nat) (parts : List (Nat × AVal)) : Option (AVal × AMem) :=
  match tiOf P t with
  | some I => (match I.k with
    | .slice e => (match tiOf P e with
      | some E => (match E.zero.bind cellsOf with
        | some zs =>
          if 0 < E.size ∧ zs.length = E.size ∧ len * E.size ≤ 16777216 then
            (match afill (fun i => some (i * E.size, E.size)) (zeroRow zs (len * E.size)) parts with
            | some cs => if mu && decide (1 < len) then some (.msl m.H.length (epo E.size) 0 len (len * E.size), { m with H := m.H ++ [.cells (epo E.size) cs] }) else some (.sl .full len cs, m)
            | none => none)
          else none
        | none => none)
      | none => none)
    | _ => none)
  | none => none

def amakeSlice (P : Program) (mu : Bool) (m : AMem) (t : TypeId) (l c : AVal) : Option (AVal × AMem) :=
  match l with
  | .int _ l => (match c with
   | .int _ c => (match tiOf P t with
    | some I => (match I.k with
      | .slice e => (match tiOf P e with
        | some E => (match E.zero.bind cellsOf with
          | some [z] =>
            if E.size = 1 ∧ 0 ≤ l ∧ l ≤ c ∧ c ≤ 4611686018427387903 ∧ E.bytes * c ≤ 281474976710656 then
              (if mu then some (.msl m.H.length 1 0 l.toNat l.toNat, { m with H := m.H ++ [.cells 1 (List.replicate l.toNat z)] })
              else some (.sl (if l = c then .full else .no) l.toNat (List.replicate l.toNat z), m))
            else none
          | _ => none)
        | none => none)
      | _ => none)
    | none => none)
   | _ => none)
  | _ => none

/-- The cells of a fresh strings.Builder, or of what is laid out like one. -/
def isB : List AVal → Bool
  | [.nilp, .sl .nil 0 []] => true
  | _ => false
/-- A new variable. -/
def anew (m : AMem) (e : TypeId) (zs : List AVal) : AVal × AMem :=
  (if isB zs = true then .tpt e m.H.length zs.length else .ptr m.H.length 0 0, { m with H := m.H ++ [.cells 0 zs] })

def apush (m : AMem) (cs : List AVal) : AVal × AMem := (.ptr m.H.length 0 0, { m with H := m.H ++ [.cells 0 cs] })

def astore (P : Program) (m : AMem) (t : TypeId) (x v : AVal) : Option (AVal × AMem) :=
  match x with
  | .ptr b e o => (match m.H[b]? with
    | some (.cells e' cs) => (match cellsOf v, tiOf P t with
      | some vs, some I => if e = e' ∧ vs.length = I.size ∧ o + vs.length ≤ cs.length then some (.undef, { m with H := m.H.set b (.cells e (setMany cs o vs)) }) else none
      | _, _ => none)
    | _ => none)
  | .tpt _ b _ => (match m.H[b]? with
    | some (.cells e' cs) => (match cellsOf v, tiOf P t with
      | some vs, some I => if 0 = e' ∧ vs.length = I.size ∧ 0 + vs.length ≤ cs.length then some (.undef, { m with H := m.H.set b (.cells 0 (setMany cs 0 vs)) }) else none
      | _, _ => none)
    | _ => none)
  | _ => none

/-- Is a type laid out like a strings.Builder? -/
def bldZ : Option TI → Bool
  | some ⟨_, _, some (.agg cs), _⟩ => isB cs
  | _ => false
def boxO (t : Bool) (m : AMem) (e : TypeId) (vs : List AVal) : AVal × AMem := if t = true then anew m e vs else apush m vs

/-- One operation, calls of functions left out. -/
def aop (P : Program) (mu : Bool) (m : AMem) (ρ : Operand → AVal) (op : Op) : Option (AVal × AMem) :=
  match op with
  | .move x => some (ρ x, m)
  | .assign x => some (ρ x, m)
  | .pick c a b => (match ρ c with | .bool t => some (if t then ρ a else ρ b, m) | _ => none)
  | .alloc e => (match tiOf P e with | some E => (match E.zero.bind cellsOf with | some zs => some (anew m e zs) | none => none) | none => none)
  | .box e v => (match cellsOf (ρ v) with | some vs => some (boxO (bldZ (tiOf P e)) m e vs) | none => none)
  | .build t ps => (abuild P t (ps.toList.map fun p => (p.1, ρ p.2))).map (·, m)
  | .buildSlice t n ps => abuildSlice P mu m t n (ps.toList.map fun p => (p.1, ρ p.2))
  | .load t a => (aload P t m (ρ a)).map (·, m)
  | .store t a v => astore P m t (ρ a) (ρ v)
  | .makeMap _ none => some (.map m.H.length, { m with H := m.H ++ [.amap []] })
  | .lookup t x k ok => (alookup P t m (ρ x) (ρ k) ok).map (·, m)
  | .mapUpdate t x k v => amput P t m (ρ x) (ρ k) (ρ v)
  | .insert t x k v => amput P t m (ρ x) (ρ k) (ρ v)
  | .nilCheck x => (anil (ρ x)).map (·, m)
  | .binOp op t x y _ => (abin P op t (ρ x) (ρ y)).map (·, m)
  | .unOp op _ x => (aun op (ρ x)).map (·, m)
  | .convert s d x => (aconv P s d (ρ x)).map (·, m)
  | .makeInterface t x => (match tiOf P t with | some I => (match I.k with | .iface => none | .other => none | _ => some (.ifc t (ρ x), m)) | none => none)
  | .makeFunc (.func f) first caps => some (.fn f (first.toList.map ρ) (caps.toList.map ρ), m)
  | .makeSlice t l c => amakeSlice P mu m t (ρ l) (ρ c)
  | .slice t x lo hi mx => (aslice P t (ρ x) (lo.map ρ) (hi.map ρ) (mx.map ρ)).map (·, m)
  | .fieldAddr t x f => (afieldAddr P t (ρ x) f).map (·, m)
  | .field t x f => (afield P t (ρ x) f).map (·, m)
  | .indexAddr t x i => (aindexAddr P t (ρ x) (ρ i)).map (·, m)
  | .index t x i => (aindex P t (ρ x) (ρ i)).map (·, m)
  | .extract x i => (aextract (ρ x) i).map (·, m)
  | .range t x => arange P t m (ρ x)
  | .entry x => (aentry m (ρ x)).map (·, m)
  | .typeAssert x _ t ok => (atassert P (ρ x) t ok).map (·, m)
  | .call c => (match c.callee with
    | .builtin b => abuiltin P mu m b c.argTypes.toList (c.args.toList.map ρ)
    | _ => none)
  | _ => none

/-- What an operation that came to an end leaves. -/
def NX (κ : Cx) (v : AVal) : Next → Prop
  | .value u => VR κ v u
  | .skip => v = .undef
  | _ => False

/-- An operation did what it was said to. -/
def Did (P : Program) (γ : Ghost) (s : Sem Next) (v : AVal) (m' : AMem) : Prop :=
  ∃ nx γ', s.run P γ.w = .ok nx γ'.w ∧ NX γ'.cx v nx ∧ Ext γ γ' ∧ Rl γ' ∧ γ'.S = m'

section
variable {P : Program} {γ : Ghost}

theorem Did.quiet (hr : Rl γ) {s : Sem Value} {v : AVal} (h : ∃ v', s.run P γ.w = .ok v' γ.w ∧ VR γ.cx v v') : Did P γ (do pure (.value (← s))) v γ.S := by
  obtain ⟨v', h1, h2⟩ := h
  exact ⟨.value v', γ, by simp [h1], h2, Ext.refl γ, hr, rfl⟩

theorem Ghost.one (γ : Ghost) : γ.cx.one := fun b g g' c c' h h' => by
  obtain ⟨x, hx, ⟨_, h0⟩, h1⟩ := h
  obtain ⟨x', hx', _, h1'⟩ := h'
  rw [hx] at hx'
  cases hx'
  have e := h0 rfl
  rw [← (h1 e.symm).1, ← (h1' e.symm).1]
theorem Ghost.lies (γ : Ghost) : γ.cx.lies γ.w := fun g t n h => by
  obtain ⟨_, arr, fz, hg, hn⟩ := h
  exact ⟨arr.size, by simp [World.shape?, hg], hn⟩

theorem Ghost.reads (γ : Ghost) : γ.cx.reads γ.w := fun g o v h => h.1
theorem alen_sound (hr : Rl γ) {t ty : TypeId} {x v : AVal} {u : Value} (h : alen P t γ.S x = some v) (hx : VR γ.cx x u) : ∃ v', (Builtin.len_ #[t] ty #[u]).run P γ.w = .ok v' γ.w ∧ VR γ.cx v v' := by
  unfold alen at h
  cases hI : tiOf P t with
  | none => simp [hI] at h
  | some I =>
    simp only [hI] at h
    obtain ⟨i, d, hi⟩ := tiOf_spec hI
    have hk := hi.k
    cases hkk : I.k <;> simp only [hkk, reduceCtorEq] at h <;> rw [hkk] at hk
    case str =>
      have := tk_str hk; subst this
      cases x <;> simp only [reduceCtorEq, Option.some.injEq] at h
      subst h
      cases hx
      rename_i s
      have hs : (ByteArray.mk s.toArray).size = s.length := by simp [ByteArray.size]
      have := run_len_string (P := P) γ.w t ty ⟨s.toArray⟩ hi.under
      rw [hs] at this
      exact ⟨_, this, .int _ _⟩
    case slice e =>
      have := tk_slice hk; subst this
      cases x <;> simp only [reduceCtorEq, Option.some.injEq] at h <;> subst h <;> cases hx <;>
        exact ⟨_, by simp [Builtin.len_, hi.run_under γ.w, goInt], .int _ _⟩
    case arr n e =>
      have := tk_arr hk; subst this
      simp only [Option.some.injEq] at h
      subst h
      exact ⟨_, by simp [Builtin.len_, hi.run_under γ.w, goInt], .int _ _⟩
    case map k e =>
      have := tk_map hk; subst this
      cases x <;> simp only [reduceCtorEq] at h
      case nilm =>
        simp only [Option.some.injEq] at h
        subst h
        cases hx
        exact ⟨_, by simp [Builtin.len_, hi.run_under γ.w, goInt], .int _ _⟩
      case map b =>
        cases hb : γ.S.H[b]? with
        | none => simp [hb] at h
        | some y =>
          cases y with
          | cells e' cs => simp [hb] at h
          | iter _ _ _ => simp [hb] at h
          | loop _ _ _ _ _ _ _ => simp [hb] at h
          | amap es =>
            simp only [hb, Option.some.injEq] at h
            subst h
            obtain ⟨en, clk, h1, h2⟩ := hr.maps b es hb
            have h2 := h2.size
            cases hx with
            | map _ g c hblk =>
              obtain ⟨z, hz, _, hz2⟩ := hblk
              rw [hb] at hz
              cases hz
              obtain ⟨rfl, _⟩ := hz2 rfl
              have hg : (getObj (γ.ι.h b)).run P γ.w = .ok (.map en clk) γ.w := by simp [getObj, Sem.run, h1]
              exact ⟨.int .i64 es.length, by simp [Builtin.len_, hi.run_under γ.w, goInt, hg, h2], .int _ _⟩

/-- A block pushed by the machine. -/
theorem did_push (hr : Rl γ) {cs : List AVal} {arr : Array Value} {ty : TypeId} (ha : AR γ.cx cs arr) {c z ep : Nat} (hep : ep % 64 = 0 ∨ ep % 64 = z) (hcz : c * z ≤ arr.size) :
    Ext γ (γ.push (.cells ep cs) c z (.cells arr ty)) ∧ Rl (γ.push (.cells ep cs) c z (.cells arr ty)) ∧ (γ.push (.cells ep cs) c z (.cells arr ty)).S = { γ.S with H := γ.S.H ++ [.cells ep cs] } :=
  ⟨ext_push, rl_push hr (fun _ _ he => by cases he; exact hep) ⟨arr, ty, rfl, by rw [ha.size]; exact Nat.le_refl _, hcz, ha.vr, ha.one⟩, rfl⟩

theorem did_box (hr : Rl γ) {e : TypeId} {vs : List AVal} {v : AVal} {u : Value} (hv : VR γ.cx v u) (hc : cellsOf v = some vs) {s : Sem Value} (hs : s.run P γ.w = .ok (.pointer (some ⟨γ.w.heap.size, 0, none⟩)) (γ.w.alloc (.cells u.cells e))) :
    Did P γ (do pure (.value (← s))) (apush γ.S vs).1 (apush γ.S vs).2 := by
  have ha := hv.cells hc
  obtain ⟨h1, h2, h3⟩ := did_push (ty := e) hr ha (c := 0) (z := 0) (ep := 0) (.inl rfl) (Nat.zero_le _)
  exact ⟨.value (.pointer (some ⟨γ.w.heap.size, 0, none⟩)), _, by simp [hs]; rfl, .ptr _ _ _ _ 0 (push_blk rfl), h1, h2, h3⟩

theorem did_new (hr : Rl γ) {e : TypeId} {vs : List AVal} {v : AVal} {u : Value} (hv : VR γ.cx v u) (hc : cellsOf v = some vs) {s : Sem Value} (hs : s.run P γ.w = .ok (.pointer (some ⟨γ.w.heap.size, 0, none⟩)) (γ.w.alloc (.cells u.cells e))) :
    Did P γ (do pure (.value (← s))) (anew γ.S e vs).1 (anew γ.S e vs).2 := by
  have ha := hv.cells hc
  obtain ⟨h1, h2, h3⟩ := did_push (ty := e) hr ha (c := 0) (z := 0) (ep := 0) (.inl rfl) (Nat.zero_le _)
  refine ⟨.value (.pointer (some ⟨γ.w.heap.size, 0, none⟩)), _, by simp [hs]; rfl, ?_, h1, h2, h3⟩
  show VR _ (if isB vs = true then _ else _) _
  split
  · refine .tpt _ _ _ _ 0 (push_blk rfl) ⟨hr.lo, u.cells, (0, 0), heap_alloc_new γ.w _, ?_⟩
    rw [ha.size]; exact Nat.le_refl _
  · exact .ptr _ _ _ _ 0 (push_blk rfl)

theorem did_store0 (hr : Rl γ) {t : TypeId} {x v v0 : AVal} {m' : AMem} {p u : Value} (hnt : ∀ t b n, x ≠ .tpt t b n) (h : astore P γ.S t x v = some (v0, m')) (hx : VR γ.cx x p) (hv : VR γ.cx v u) :
    Did P γ (do Instr.storeAt t p u; pure .skip) v0 m' := by
  cases x <;> simp only [astore, reduceCtorEq] at h
  case tpt t' b n => exact absurd rfl (hnt t' b n)
  rename_i b e o
  cases hb : γ.S.H[b]? with
  | none => simp [hb] at h
  | some y =>
    cases y with
    | amap es => simp [hb] at h
    | iter _ _ _ => simp [hb] at h
    | loop _ _ _ _ _ _ _ => simp [hb] at h
    | cells e' cs =>
      simp only [hb] at h
      cases hc : cellsOf v with
      | none => simp [hc] at h
      | some vs =>
        cases hI : tiOf P t with
        | none => simp [hc, hI] at h
        | some I =>
          simp only [hc, hI] at h
          split at h
          · rename_i hcond
            obtain ⟨rfl, hlen, hle⟩ := hcond
            simp only [Option.some.injEq, Prod.mk.injEq] at h
            obtain ⟨rfl, rfl⟩ := h
            obtain ⟨i, d, hi⟩ := tiOf_spec hI
            have ha := hv.cells hc
            cases hx with
            | ptr _ _ _ g c hblk =>
              obtain ⟨z, hz, _, hz2⟩ := hblk
              rw [hb] at hz
              cases hz
              obtain ⟨rfl, _⟩ := hz2 rfl
              obtain ⟨γ', r1, r2, r3, r4⟩ := run_stores (P := P) u.cells.toList vs γ b e o 0 cs hr hb (by simpa using ha.size.symm) (by simpa using hle)
                (fun j hj => by simpa [Array.getD_eq_getD_getElem?, List.getD_eq_getElem?_getD] using ha.vr j hj) (fun j hj => by simpa [Array.getD_eq_getD_getElem?, List.getD_eq_getElem?_getD] using ha.one j hj)
              have hsz : u.cells.size = I.size := by rw [ha.size]; exact hlen
              refine ⟨.skip, γ', ?_, rfl, r2, r3, by simpa using r4⟩
              simp [Instr.storeAt, Instr.sureAddr, storeVar, hi.run_size γ.w, hsz, r1]
          · cases h

theorem did_store (hr : Rl γ) {t : TypeId} {x v v0 : AVal} {m' : AMem} {p u : Value} (h : astore P γ.S t x v = some (v0, m')) (hx : VR γ.cx x p) (hv : VR γ.cx v u) :
    Did P γ (do Instr.storeAt t p u; pure .skip) v0 m' := by
  by_cases hn : ∃ t b n, x = .tpt t b n
  · obtain ⟨t', b, n, rfl⟩ := hn
    cases hx with
    | tpt _ _ _ g c hb ho => exact did_store0 hr (x := .ptr b 0 0) (fun _ _ _ h => by cases h) h (.ptr _ _ _ _ _ hb) hv
  · exact did_store0 hr (fun t b n he => hn ⟨t, b, n, he⟩) h hx hv

theorem acap_sound {t ty : TypeId} {x v : AVal} {u : Value} (h : acap P t x = some v) (hx : VR γ.cx x u) : ∃ v', (Builtin.cap_ #[t] ty #[u]).run P γ.w = .ok v' γ.w ∧ VR γ.cx v v' := by
  unfold acap at h
  cases hI : tiOf P t with
  | none => simp [hI] at h
  | some I =>
    simp only [hI] at h
    obtain ⟨i, d, hi⟩ := tiOf_spec hI
    have hk := hi.k
    cases hkk : I.k <;> simp only [hkk, reduceCtorEq] at h
    rename_i e
    rw [hkk] at hk
    have := tk_slice hk; subst this
    split at h
    · cases h
      cases hx with
      | slnil => exact ⟨_, by simp [Builtin.cap_, hi.run_under γ.w, goInt], .int _ _⟩
      | sl _ _ _ g k cap f hn hc hv hr => exact absurd hr.1 (by simp)
    · cases h
      cases hx with
      | slnil => exact ⟨_, by simp [Builtin.cap_, hi.run_under γ.w, goInt], .int _ _⟩
      | sl _ _ _ g k cap f hn hc hv hr =>
        have : cap = _ := hr
        subst this
        exact ⟨_, by simp [Builtin.cap_, hi.run_under γ.w, goInt], .int _ _⟩
    · cases h

theorem copy_def (t t2 ty : TypeId) (base : Option Addr) (n cap : Nat) (yu : Value) : Builtin.copy_ #[t, t2] ty #[.slice base n cap, yu] = (do
    let .slice elem ← underlying t | stuck "copy: slice type expected"
    let n := Nat.min (← Builtin.lenOf yu) n
    let cells ← Builtin.firstCells (← sizeOf elem) n yu
    if let some a := base then storeCells a cells.toList
    pure (goInt n)) := rfl
theorem acopy_sound (hr : Rl γ) {t t2 ty : TypeId} {x y v : AVal} {m' : AMem} {xu yu : Value} (h : acopy P γ.S t x y = some (v, m')) (hx : VR γ.cx x xu) (hy : VR γ.cx y yu) :
    ∃ v' γ', (Builtin.copy_ #[t, t2] ty #[xu, yu]).run P γ.w = .ok v' γ'.w ∧ Ext γ γ' ∧ Rl γ' ∧ γ'.S = m' ∧ VR γ'.cx v v' := by
  unfold acopy at h
  cases hI : tiOf P t with
  | none => simp [hI] at h
  | some I =>
    simp only [hI] at h
    obtain ⟨i, d, hi⟩ := tiOf_spec hI
    have hk := hi.k
    cases hkk : I.k <;> simp only [hkk, reduceCtorEq] at h
    rename_i e
    rw [hkk] at hk
    have := tk_slice hk; subst this
    cases hE : tiOf P e with
    | none => simp [hE] at h
    | some E =>
      simp only [hE] at h
      obtain ⟨i', d', hi'⟩ := tiOf_spec hE
      cases hal : alist γ.S y with
      | none => simp [hal] at h
      | some kd =>
        obtain ⟨k, ds⟩ := kd
        simp only [hal] at h
        split at h
        · rename_i r n cs
          split at h
          case isFalse => cases h
          rename_i hn
          subst hn
          cases h
          obtain ⟨base, cap, rfl⟩ : ∃ base cap, xu = .slice base 0 cap := by cases hx <;> exact ⟨_, _, rfl⟩
          obtain ⟨l, hl⟩ : ∃ l, (Builtin.lenOf yu).run P γ.w = .ok l γ.w := by
            cases y <;> simp only [alist, reduceCtorEq] at hal <;> cases hy <;> exact ⟨_, rfl⟩
          have hf : (Builtin.firstCells E.size 0 yu).run P γ.w = .ok #[] γ.w := by
            cases y <;> simp only [alist, reduceCtorEq] at hal <;> cases hy <;> simp [Builtin.firstCells, loadCells, loadCellsFrom]
          refine ⟨_, γ, ?_, Ext.refl γ, hr, rfl, .int _ _⟩
          have hmin : Nat.min l 0 = 0 := Nat.min_zero l
          rw [copy_def]
          cases base <;> simp [hi.run_under γ.w, hl, hi'.run_size γ.w, hf, storeCells, goInt]
        · rename_i b ep o n l
          cases hb : γ.S.H[b]? with
          | none => simp [hb] at h
          | some z =>
            cases z with
            | amap es => simp [hb] at h
            | iter _ _ _ => simp [hb] at h
            | loop _ _ _ _ _ _ _ => simp [hb] at h
            | cells e' cs =>
              simp only [hb] at h
              split at h
              case isFalse => cases h
              rename_i hc
              obtain ⟨rfl, hkn, hdl, hle⟩ := hc
              cases h
              obtain ⟨news, n1, n2, n3, n4, n5⟩ := read_alist (P := P) hr hy hal hdl
              cases hx with
              | msl _ _ _ _ _ g c cap hblk hn ho =>
                obtain ⟨z, hz, _, hz2⟩ := hblk
                rw [hb] at hz
                cases hz
                obtain ⟨rfl, _⟩ := hz2 rfl
                obtain ⟨γ', r1, r2, r3, r4⟩ := run_stores (P := P) news ds γ b ep o 0 cs hr hb n1.symm (by omega) (fun j hj => n2 j hj) (fun j hj => by
                  rw [List.getD_eq_getElem?_getD, List.getElem?_eq_getElem (by omega), Option.getD_some]
                  exact n3 _ (List.getElem_mem _))
                refine ⟨_, γ', ?_, r2, r3, by simpa using r4, .int _ _⟩
                have hmin : Nat.min k n = k := Nat.min_eq_left hkn
                rw [copy_def]
                simp only [Sem.run_bind, hi.run_under γ.w, Result.andThen_ok, n4, hi'.run_size γ.w, hmin, n5 γ.w rfl, r1]
                rfl
        · cases h

theorem zeroRow_AR {κ : Cx} {zs : List AVal} {zc : Array Value} (hz : AR κ zs zc) (hpos : 0 < zs.length) (n : Nat) : AR κ (zeroRow zs n) ((Array.range n).map (zc[· % zc.size]!)) := by
  refine ⟨by simp [zeroRow], fun j hj => ?_, fun j hj => ?_⟩
  · have hj' : j < n := by simpa [zeroRow] using hj
    have hm : j % zs.length < zs.length := Nat.mod_lt _ hpos
    have hm' : j % zs.length < zc.size := by rw [hz.size]; exact hm
    have := hz.vr _ hm
    simp only [zeroRow, List.getElem_map, List.getElem_range, Array.getD_eq_getD_getElem?, Array.getElem?_map, Array.getElem?_range, hj', if_pos, Option.map_some, Option.getD_some, hz.size, List.getD_eq_getElem?_getD, List.getElem?_eq_getElem hm]
    rw [getElem!_pos zc _ hm']
    simpa [Array.getD, hm'] using this
  · have hj' : j < n := by simpa [zeroRow] using hj
    have hm : j % zs.length < zs.length := Nat.mod_lt _ hpos
    have hm' : j % zs.length < zc.size := by rw [hz.size]; exact hm
    have := hz.one _ hm
    simp only [Array.getD_eq_getD_getElem?, Array.getElem?_map, Array.getElem?_range, hj', if_pos, Option.map_some, Option.getD_some, hz.size]
    rw [getElem!_pos zc _ hm']
    simpa [Array.getD, hm'] using this

/-- A row made and never written: cells that stay. -/
theorem did_row (hr : Rl γ) {cs : List AVal} {arr : Array Value} {ty : TypeId} (ha : AR γ.cx cs arr) {n cap : Nat} {r : Rt} (hn : n ≤ cap) (hrt : r = .no ∨ (r = .full ∧ cap = n)) :
    Ext γ { γ with w := γ.w.alloc (.cells arr ty) } ∧ Rl { γ with w := γ.w.alloc (.cells arr ty) } ∧ VR ({ γ with w := γ.w.alloc (.cells arr ty) } : Ghost).cx (.sl r n cs) (.slice (some ⟨γ.w.heap.size, 0, none⟩) n cap) := by
  have hg := Grow.alloc γ.w (.cells arr ty)
  refine ⟨ext_grow hg, rl_grow hr hg, .sl _ _ _ γ.w.heap.size 0 cap (fun j => arr.getD j undef) hn (fun j hj => ?_) (fun j hj => (ha.vr j hj).ext (ext_grow hg)) ?_⟩
  · rw [Nat.zero_add]
    exact cell_new hr (Nat.le_refl _) (heap_alloc_new γ.w _) (by rw [ha.size]; exact hj) (ha.one j hj)
  · rcases hrt with rfl | ⟨rfl, h⟩
    · trivial
    · exact h

theorem did_buildSlice (hr : Rl γ) {mu : Bool} {t : TypeId} {len : Nat} {parts : List (Nat × AVal)} {ws : List (Nat × Value)} {v : AVal} {m' : AMem} (hl : ws.length = parts.length)
    (hv : ∀ (i : Nat) (h : i < parts.length), ∃ v, ws[i]? = some ((parts[i]).1, v) ∧ VR γ.cx (parts[i]).2 v) (h : abuildSlice P mu γ.S t len parts = some (v, m')) :
    Did P γ (do pure (.value (← Instr.buildSlice t len ws.toArray))) v m' := by
  unfold abuildSlice at h
  cases hI : tiOf P t with
  | none => simp [hI] at h
  | some I =>
    simp only [hI] at h
    obtain ⟨i, d, hi⟩ := tiOf_spec hI
    have hk := hi.k
    cases hkk : I.k <;> simp only [hkk, reduceCtorEq] at h
    rename_i e
    rw [hkk] at hk
    have := tk_slice hk; subst this
    cases hE : tiOf P e with
    | none => simp [hE] at h
    | some E =>
      simp only [hE] at h
      obtain ⟨i', d', hi'⟩ := tiOf_spec hE
      cases hz : E.zero with
      | none => simp [hz] at h
      | some z =>
        simp only [hz, Option.bind_some] at h
        cases hzc : cellsOf z with
        | none => simp [hzc] at h
        | some zs =>
          simp only [hzc] at h
          split at h
          case isFalse => cases h
          rename_i hc
          obtain ⟨hpos, hzl, hbig⟩ := hc
          obtain ⟨zv, hrz, hiz, rfl⟩ := hi'.run_zero γ.w hz
          have hzr : AR γ.cx zs zv.cells := (VR.ofVal γ.cx zv).cells hzc
          have hz0 := zeroRow_AR hzr (by omega) (len * E.size)
          cases hf : afill (fun i => some (i * E.size, E.size)) (zeroRow zs (len * E.size)) parts with
          | none => simp [hf] at h
          | some cs =>
            simp only [hf] at h
            obtain ⟨arr, ha, har⟩ := afill_sound parts ws _ _ cs hl hv hz0 hf
            have hrun : (Instr.buildSlice t len ws.toArray).run P γ.w = .ok (.slice (some ⟨γ.w.heap.size, 0, none⟩) len len) (γ.w.alloc (.cells arr e)) := by
              by_cases hl0 : len * E.size = 0
              · have he : (Array.range (len * E.size)).map (zv.cells[· % zv.cells.size]!) = #[] := by rw [hl0]; simp
                rw [he] at ha
                have he2 : (Array.range (len * E.size)).map ((#[] : Array Value)[· % (#[] : Array Value).size]!) = #[] := by rw [hl0]; simp
                have hnb : ¬ (len * E.size > 2 ^ 24) := by omega
                simp only [Instr.buildSlice, Sem.run_bind, hi.run_under γ.w, Result.andThen_ok, hi'.run_size γ.w, Sem.run_ite, if_neg hnb, if_pos hl0, Sem.run_pure, he2, ha, newRow, run_newObj, World.alloc_eq]
              · have hnb : ¬ (len * E.size > 2 ^ 24) := by omega
                simp only [Instr.buildSlice, Sem.run_bind, hi.run_under γ.w, Result.andThen_ok, hi'.run_size γ.w, Sem.run_ite, if_neg hnb, if_neg hl0, hrz, Sem.run_pure, ha, newRow, run_newObj, World.alloc_eq]
            cases hmu : (mu && decide (1 < len)) with
            | true =>
              simp only [hmu, if_true, Option.some.injEq, Prod.mk.injEq] at h
              obtain ⟨rfl, rfl⟩ := h
              have hcl : cs.length = len * E.size := by
                have hal : ∀ (ps : List (Nat × AVal)) (a out : List AVal), afill (fun i => some (i * E.size, E.size)) a ps = some out → out.length = a.length := by
                  intro ps
                  induction ps with
                  | nil => intro a out h; simp only [afill, Option.some.injEq] at h; rw [h]
                  | cons p ps ih =>
                    intro a out h
                    obtain ⟨i, v⟩ := p
                    simp only [afill] at h
                    split at h
                    · split at h
                      · rw [ih _ _ h, length_setMany]
                      · cases h
                    · cases h
                rw [hal _ _ _ hf]; simp [zeroRow]
              obtain ⟨h1, h2, h3⟩ := did_push (ty := e) hr har (c := len) (z := E.size) (epo_ok E.size) (by rw [har.size, hcl]; exact Nat.le_refl _)
              exact ⟨.value (.slice (some ⟨γ.w.heap.size, 0, none⟩) len len), _, by simp [hrun]; rfl, .msl _ _ _ _ _ _ _ _ push_blk_ep (Nat.le_refl _) (fun _ => rfl), h1, h2, h3⟩
            | false =>
              simp only [hmu, Bool.false_eq_true, if_false, Option.some.injEq, Prod.mk.injEq] at h
              obtain ⟨rfl, rfl⟩ := h
              obtain ⟨h1, h2, h3⟩ := did_row (ty := e) hr har (n := len) (cap := len) (r := .full) (Nat.le_refl _) (.inr ⟨rfl, rfl⟩)
              exact ⟨.value (.slice (some ⟨γ.w.heap.size, 0, none⟩) len len), { γ with w := γ.w.alloc (.cells arr e) }, by simp [hrun], h3, h1, h2, rfl⟩

theorem did_makeSlice (hr : Rl γ) {mu : Bool} {t : TypeId} {l c v : AVal} {lu cu : Value} {m' : AMem} (h : amakeSlice P mu γ.S t l c = some (v, m')) (hl : VR γ.cx l lu) (hcv : VR γ.cx c cu) :
    Did P γ (do pure (.value (← Instr.makeSlice t lu cu))) v m' := by
  unfold amakeSlice at h
  cases l <;> simp only [reduceCtorEq] at h
  cases c <;> simp only [reduceCtorEq] at h
  rename_i lk l ck c
  cases hl; cases hcv
  cases hI : tiOf P t with
  | none => simp [hI] at h
  | some I =>
    simp only [hI] at h
    obtain ⟨i, d, hi⟩ := tiOf_spec hI
    have hk := hi.k
    cases hkk : I.k <;> simp only [hkk, reduceCtorEq] at h
    rename_i e
    rw [hkk] at hk
    have := tk_slice hk; subst this
    cases hE : tiOf P e with
    | none => simp [hE] at h
    | some E =>
      simp only [hE] at h
      obtain ⟨i', d', hi'⟩ := tiOf_spec hE
      cases hz : E.zero with
      | none => simp [hz] at h
      | some z =>
        simp only [hz, Option.bind_some] at h
        split at h
        case h_2 => cases h
        rename_i zz hzc
        split at h
        case isFalse => cases h
        rename_i hcond
        obtain ⟨hE1, h0, hlc, hcm, hby⟩ := hcond
        obtain ⟨zv, hrz, hiz, rfl⟩ := hi'.run_zero γ.w hz
        have hzr : AR γ.cx [zz] zv.cells := (VR.ofVal γ.cx zv).cells hzc
        have wl : IntKind.i64.wrap l = l := IntWalk.i64_in l (by omega)
        have wc : IntKind.i64.wrap c = c := IntWalk.i64_in c (by omega)
        have t1 : ¬ ((i'.bytes : Int) * c > 2 ^ 48) := by rw [← hi'.bytes]; omega
        have t2 : ¬ (c < 0) := by omega
        generalize hn : c.toNat = cn at *
        generalize hln : l.toNat = ln at *
        have hlcn : ln ≤ cn := by omega
        have hzsz : zv.cells.size = 1 := hzr.size
        have h00 : ∀ j, j < cn → ((Array.range cn).map (zv.cells[· % zv.cells.size]!)).getD j undef = zv.cells.getD 0 undef := by
          intro j hj
          simp [Array.getD, hj, hzsz, Nat.mod_one]
        have har : ∀ q, q ≤ cn → (∀ (j : Nat) (h : j < (List.replicate q zz).length), VR γ.cx ((List.replicate q zz)[j]) (((Array.range cn).map (zv.cells[· % zv.cells.size]!)).getD j undef)) ∧
            ∀ j, j < (List.replicate q zz).length → (((Array.range cn).map (zv.cells[· % zv.cells.size]!)).getD j undef).oneCell' = true := by
          intro q hq
          refine ⟨fun j hj => ?_, fun j hj => ?_⟩
          · have : j < q := by simpa using hj
            rw [h00 j (by omega), List.getElem_replicate]
            exact hzr.vr 0 (by simp)
          · have : j < q := by simpa using hj
            rw [h00 j (by omega)]
            exact hzr.one 0 (by simp)
        have hrun : (Instr.makeSlice t (.int lk l) (.int ck c)).run P γ.w = .ok (.slice (some ⟨γ.w.heap.size, 0, none⟩) ln cn) (γ.w.alloc (.cells ((Array.range cn).map (zv.cells[· % zv.cells.size]!)) e)) := by
          simp only [Instr.makeSlice, Sem.run_bind, hi.run_under γ.w, Result.andThen_ok, asInt, asIntOf, Sem.run_pure, hi'.run_info γ.w, wl, wc]
          rw [if_neg (by simp only [Bool.or_eq_true, decide_eq_true_eq]; omega)]
          simp only [Sem.run_bind, run_askRoom, Result.andThen_ok, hi'.run_size γ.w, hE1, Nat.mul_one, hn, hln]
          by_cases hc0 : cn = 0
          · subst hc0
            have e1 : ∀ f : Nat → Value, (Array.range 0).map f = #[] := fun f => by simp
            simp [newRow, e1]
          · simp [hc0, hrz, newRow]
        cases mu with
        | true =>
          simp only [if_true, Option.some.injEq, Prod.mk.injEq] at h
          obtain ⟨rfl, rfl⟩ := h
          have hpl : Rl (γ.push (.cells 1 (List.replicate ln zz)) cn 1 (.cells ((Array.range cn).map (zv.cells[· % zv.cells.size]!)) e)) :=
            rl_push hr (fun _ _ he => by cases he; exact .inr rfl) ⟨_, e, rfl, by simp; omega, by simp, (har ln hlcn).1, (har ln hlcn).2⟩
          exact ⟨.value (.slice (some ⟨γ.w.heap.size, 0, none⟩) ln cn), _, by simp [hrun]; rfl, .msl _ _ _ _ _ _ _ _ push_blk_ep hlcn (fun _ => rfl), ext_push, hpl, rfl⟩
        | false =>
          simp only [Bool.false_eq_true, if_false, Option.some.injEq, Prod.mk.injEq] at h
          obtain ⟨rfl, rfl⟩ := h
          have hg := Grow.alloc γ.w (.cells ((Array.range cn).map (zv.cells[· % zv.cells.size]!)) e)
          refine ⟨.value (.slice (some ⟨γ.w.heap.size, 0, none⟩) ln cn), { γ with w := γ.w.alloc (.cells ((Array.range cn).map (zv.cells[· % zv.cells.size]!)) e) }, by simp [hrun], ?_, ext_grow hg, rl_grow hr hg, rfl⟩
          refine .sl _ _ _ γ.w.heap.size 0 cn (fun j => ((Array.range cn).map (zv.cells[· % zv.cells.size]!)).getD j undef) hlcn (fun j hj => ?_) (fun j hj => ((har ln hlcn).1 j hj).ext (ext_grow hg)) ?_
          · rw [Nat.zero_add]
            have hj' : j < ln := by simpa using hj
            exact cell_new hr (Nat.le_refl _) (heap_alloc_new γ.w _) (by simp; omega) ((har ln hlcn).2 j hj)
          · by_cases hlc2 : l = c
            · rw [if_pos hlc2]; show cn = ln; omega
            · rw [if_neg hlc2]; trivial

theorem or_map {ρ : Operand → AVal} {σ : Operand → Value} {κ : Cx} (h : ∀ x, VR κ (ρ x) (σ x)) (x : Option Operand) : OR κ (x.map ρ) (x.map σ) := by
  cases x with
  | none => trivial
  | some x => exact h x

theorem parts_map {ρ : Operand → AVal} {σ : Operand → Value} {κ : Cx} (h : ∀ x, VR κ (ρ x) (σ x)) (ps : Array (Nat × Operand)) :
    (ps.toList.map fun p => (p.1, σ p.2)).length = (ps.toList.map fun p => (p.1, ρ p.2)).length ∧ ∀ (i : Nat) (hi : i < (ps.toList.map fun p => (p.1, ρ p.2)).length),
      ∃ v, (ps.toList.map fun p => (p.1, σ p.2))[i]? = some (((ps.toList.map fun p => (p.1, ρ p.2))[i]).1, v) ∧ VR κ ((ps.toList.map fun p => (p.1, ρ p.2))[i]).2 v := by
  refine ⟨by simp, fun i hi => ?_⟩
  have hi' : i < ps.size := by simpa using hi
  refine ⟨σ (ps[i]).2, by simp [hi'], ?_⟩
  simp only [List.getElem_map, Array.getElem_toList]
  exact h _

theorem fnvals {ρ : Operand → AVal} {σ : Operand → Value} {κ : Cx} (h : ∀ x, VR κ (ρ x) (σ x)) (xs : Array Operand) :
    (xs.map σ).size = (xs.toList.map ρ).length ∧ ∀ (j : Nat) (hj : j < (xs.toList.map ρ).length), VR κ ((xs.toList.map ρ)[j]) ((xs.map σ).getD j undef) := by
  refine ⟨by simp, fun j hj => ?_⟩
  have hj' : j < xs.size := by simpa using hj
  simp [Array.getD, hj']
  exact h _

theorem aop_sound (hr : Rl γ) {mu : Bool} {env : List (Nat × AVal)} {a : Act} (he : ER γ.cx env a.tmps) {o : Oper} {v : AVal} {m' : AMem} (h : aop P mu γ.S (ev env) o.op = some (v, m')) : Did P γ (execOp a.eval o) v m' := by
  have hE : ∀ x, VR γ.cx (ev env x) (a.eval x) := fun x => he.ev x
  have quietM : ∀ {s : Sem Value} {r : Option AVal}, (∀ v, r = some v → ∃ v', s.run P γ.w = .ok v' γ.w ∧ VR γ.cx v v') → r.map (·, γ.S) = some (v, m') → Did P γ (do pure (.value (← s))) v m' := by
    intro s r hs hm
    obtain ⟨x, hx, hxm⟩ := Option.map_eq_some_iff.1 hm
    cases hxm
    exact Did.quiet hr (hs _ hx)
  obtain ⟨dst, op, type, pos, after, guard⟩ := o
  simp only at h
  cases op <;> simp only [aop, reduceCtorEq] at h
  case move x => cases h; exact ⟨.value (a.eval x), γ, rfl, hE x, Ext.refl γ, hr, rfl⟩
  case assign x => cases h; exact ⟨.value (a.eval x), γ, rfl, hE x, Ext.refl γ, hr, rfl⟩
  case pick c x y =>
    have hc := hE c
    split at h
    case h_2 => cases h
    rename_i b hv
    cases h
    rw [hv] at hc
    cases hcv : a.eval c <;> rw [hcv] at hc <;> cases hc
    refine ⟨.value (if b then a.eval x else a.eval y), γ, by simp [execOp, hcv, asBool], ?_, Ext.refl γ, hr, rfl⟩
    cases b
    · exact hE y
    · exact hE x
  case alloc e =>
    cases hI : tiOf P e with
    | none => simp [hI] at h
    | some E =>
      simp only [hI] at h
      obtain ⟨i, d, hi⟩ := tiOf_spec hI
      cases hz : E.zero with
      | none => simp [hz] at h
      | some z =>
        simp only [hz, Option.bind_some] at h
        cases hzc : cellsOf z with
        | none => simp [hzc] at h
        | some zs =>
          simp only [hzc, Option.some.injEq] at h
          obtain ⟨zv, hrz, hiz, rfl⟩ := hi.run_zero γ.w hz
          have := did_new (P := P) (e := e) (s := Instr.alloc e true (.tuple #[])) hr (VR.ofVal γ.cx zv) hzc (by simp [Instr.alloc, hrz, newVar, newRow])
          rw [h] at this
          exact this
  case box e x =>
    cases hc : cellsOf (ev env x) with
    | none => simp [hc] at h
    | some vs =>
      simp only [hc, Option.some.injEq] at h
      unfold boxO at h
      split at h
      · have := did_new (P := P) (e := e) (s := Instr.box e (a.eval x)) hr (hE x) hc (by simp [Instr.box, newVar, newRow])
        rw [h] at this
        exact this
      · have := did_box (P := P) (e := e) (s := Instr.box e (a.eval x)) hr (hE x) hc (by simp [Instr.box, newVar, newRow])
        rw [h] at this
        exact this
  case build t ps =>
    refine quietM (fun v hv => ?_) h
    obtain ⟨h1, h2⟩ := parts_map hE ps
    have := abuild_sound (P := P) γ.w h1 h2 hv
    have e : (ps.map fun (x : Nat × Operand) => (x.1, a.eval x.2)) = (ps.toList.map fun p => (p.1, a.eval p.2)).toArray := by rw [← Array.toList_map, Array.toArray_toList]
    rw [← e] at this
    exact this
  case buildSlice t n ps =>
    obtain ⟨h1, h2⟩ := parts_map hE ps
    have := did_buildSlice (P := P) hr h1 h2 h
    have e : (ps.map fun (x : Nat × Operand) => (x.1, a.eval x.2)) = (ps.toList.map fun p => (p.1, a.eval p.2)).toArray := by rw [← Array.toList_map, Array.toArray_toList]
    rw [← e] at this
    exact this
  case load t x => exact quietM (fun v hv => aload_sound hr hv (hE x)) h
  case store t x y => exact did_store hr h (hE x) (hE y)
  case makeMap t r =>
    cases r <;> simp only [reduceCtorEq] at h
    simp only [Option.some.injEq, Prod.mk.injEq] at h
    obtain ⟨rfl, rfl⟩ := h
    have hpl : Rl (γ.push (.amap []) 0 0 (.map #[] 0)) := rl_push hr (fun _ _ he => by cases he) ⟨rfl, rfl⟩
    exact ⟨.value (.map (some γ.w.heap.size)), _, by simp [execOp, Instr.makeMap]; rfl, .map _ _ 0 (push_blk rfl), ext_push, hpl, rfl⟩
  case lookup t x k ok => exact quietM (fun v hv => alookup_sound hr hv (hE x) (hE k)) h
  case mapUpdate t x k y =>
    obtain ⟨rfl, γ', r1, r2, r3, r4⟩ := amput_sound (P := P) hr h (hE x) (hE k) (hE y)
    exact ⟨.skip, γ', by simp [execOp, r1], rfl, r2, r3, r4⟩
  case insert t x k y =>
    obtain ⟨rfl, γ', r1, r2, r3, r4⟩ := amput_sound (P := P) hr h (hE x) (hE k) (hE y)
    exact ⟨.skip, γ', by simp [execOp, r1], rfl, r2, r3, r4⟩
  case nilCheck x =>
    obtain ⟨z, hz, hzm⟩ := Option.map_eq_some_iff.1 h
    cases hzm
    have hx := hE x
    cases hv : ev env x <;> rw [hv] at hz hx <;> simp only [anil, reduceCtorEq, Option.some.injEq] at hz <;> subst hz
    all_goals
      cases hav : a.eval x <;> rw [hav] at hx <;> try (cases hx; done)
      first
        | exact ⟨.value (a.eval x), γ, by simp only [execOp, hav]; cases hx; rfl, by rw [hav]; exact hx, Ext.refl γ, hr, rfl⟩
  case binOp op t x y yt => exact quietM (fun v hv => abin_sound γ.w γ.one x y hv (hE x) (hE y)) h
  case unOp op t x => exact quietM (fun v hv => aun_sound γ.w hv (hE x)) h
  case convert s d x => exact quietM (fun v hv => aconv_sound γ.w γ.reads γ.lies hv (hE x)) h
  case makeInterface t x =>
    cases hI : tiOf P t with
    | none => simp [hI] at h
    | some I =>
      simp only [hI] at h
      obtain ⟨i, d, hi⟩ := tiOf_spec hI
      have hk := hi.k
      have hd : (Instr.makeInterface t (a.eval x)).run P γ.w = .ok (.iface t (a.eval x)) γ.w ∨ (I.k = .iface ∨ I.k = .other) := by
        cases hdd : d <;> subst hdd <;> first | (refine .inl ?_; simp [Instr.makeInterface, hi.run_under γ.w]; done) | (refine .inr ?_; rw [hk]; simp [tkOf]; done)
      rcases hd with hd | hd | hd
      · have : v = .ifc t (ev env x) ∧ m' = γ.S := by
          split at h <;> first | (cases h; done) | (cases h; exact ⟨rfl, rfl⟩)
        obtain ⟨rfl, rfl⟩ := this
        exact Did.quiet hr ⟨_, hd, .ifc t _ _ (hE x)⟩
      · simp [hd] at h
      · simp [hd] at h
  case makeFunc fn first caps =>
    cases fn <;> simp only [reduceCtorEq, Option.some.injEq, Prod.mk.injEq] at h
    obtain ⟨rfl, rfl⟩ := h
    obtain ⟨a1, a2⟩ := fnvals hE first
    obtain ⟨b1, b2⟩ := fnvals hE caps
    exact Did.quiet hr ⟨_, by simp [Instr.makeFunc], .fn _ _ _ _ _ a1 b1 a2 b2⟩
  case makeSlice t l c => exact did_makeSlice hr h (hE l) (hE c)
  case slice t x lo hi mx => exact quietM (fun v hv => aslice_sound γ.w hv (hE x) (or_map hE lo) (or_map hE hi) (or_map hE mx)) h
  case fieldAddr t x f => exact quietM (fun v hv => afieldAddr_sound γ.w hv (hE x)) h
  case field t x f => exact quietM (fun v hv => afield_sound γ.w hv (hE x)) h
  case indexAddr t x i => exact quietM (fun v hv => aindexAddr_sound γ.w hv (hE x) (hE i)) h
  case index t x i => exact quietM (fun v hv => aindex_sound γ.w hv (hE x) (hE i)) h
  case extract x i => exact quietM (fun v hv => aextract_sound γ.w hv (hE x)) h
  case range t x =>
    obtain ⟨v', γ', r1, r2, r3, r4, r5⟩ := arange_sound (P := P) hr h (hE x)
    exact ⟨.value v', γ', by simp [execOp, r1], r5, r2, r3, r4⟩
  case entry x => exact quietM (fun v hv => aentry_sound hr hv (hE x)) h
  case typeAssert x xt t ok => exact quietM (fun v hv => atassert_sound hv (hE x)) h
  case call c =>
    obtain ⟨callee, args, argTypes⟩ := c
    cases callee <;> simp only [reduceCtorEq] at h
    rename_i b
    have hargs : args.toList.map a.eval = (args.map a.eval).toList := by simp
    have hx : execOp a.eval ⟨dst, .call ⟨.builtin b, args, argTypes⟩, type, pos, after, guard⟩ = builtin b argTypes type (args.map fun | .const _ => true | _ => false) (args.map a.eval) := rfl
    cases b <;> simp only [abuiltin, reduceCtorEq] at h
    case len =>
      split at h
      · rename_i t x h1 h2
        obtain ⟨o1, ho1, hx1⟩ : ∃ o1, args.toList = [o1] ∧ ev env o1 = x := by
          cases hl : args.toList with
          | nil => rw [hl] at h2; simp at h2
          | cons y l => cases l with
            | nil => rw [hl] at h2; simp at h2; exact ⟨y, rfl, h2⟩
            | cons => rw [hl] at h2; simp at h2
        have e1 : args = #[o1] := by rw [← Array.toArray_toList (xs := args), ho1]
        have e2 : argTypes = #[t] := by rw [← Array.toArray_toList (xs := argTypes), h1]
        subst e1 e2 hx1
        obtain ⟨z, hz, hzm⟩ := Option.map_eq_some_iff.1 h
        cases hzm
        obtain ⟨v', r1, r2⟩ := alen_sound (P := P) (ty := type) hr hz (hE o1)
        exact ⟨.value v', γ, by rw [hx]; simp [builtin, r1], r2, Ext.refl γ, hr, rfl⟩
      · cases h
    case append =>
      split at h
      · rename_i t t2 s x h1 h2
        obtain ⟨o1, o2, ho1, hx1, hx2⟩ : ∃ o1 o2, args.toList = [o1, o2] ∧ ev env o1 = s ∧ ev env o2 = x := by
          cases hl : args.toList with
          | nil => rw [hl] at h2; simp at h2
          | cons y l => cases l with
            | nil => rw [hl] at h2; simp at h2
            | cons z l => cases l with
              | nil => rw [hl] at h2; simp at h2; exact ⟨y, z, rfl, h2.1, h2.2⟩
              | cons => rw [hl] at h2; simp at h2
        have e1 : args = #[o1, o2] := by rw [← Array.toArray_toList (xs := args), ho1]
        have e2 : argTypes = #[t, t2] := by rw [← Array.toArray_toList (xs := argTypes), h1]
        subst e1 e2 hx1 hx2
        obtain ⟨v', γ', r1, r2, r3, r4, r5⟩ : ∃ v' γ', (Builtin.append_ #[t, t2] type #[a.eval o1, a.eval o2]).run P γ.w = .ok v' γ'.w ∧ Ext γ γ' ∧ Rl γ' ∧ γ'.S = m' ∧ VR γ'.cx v v' := by
          cases mu with
          | true => exact amapp_sound (P := P) (ty := type) hr h (hE o1) (hE o2)
          | false => exact aappend_sound (P := P) (ty := type) hr h (hE o1) (hE o2)
        exact ⟨.value v', γ', by rw [hx]; simp [builtin, r1], r5, r2, r3, r4⟩
      · cases h
    case cap =>
      split at h
      · rename_i t x h1 h2
        obtain ⟨o1, ho1, hx1⟩ : ∃ o1, args.toList = [o1] ∧ ev env o1 = x := by
          cases hl : args.toList with
          | nil => rw [hl] at h2; simp at h2
          | cons y l => cases l with
            | nil => rw [hl] at h2; simp at h2; exact ⟨y, rfl, h2⟩
            | cons => rw [hl] at h2; simp at h2
        have e1 : args = #[o1] := by rw [← Array.toArray_toList (xs := args), ho1]
        have e2 : argTypes = #[t] := by rw [← Array.toArray_toList (xs := argTypes), h1]
        subst e1 e2 hx1
        obtain ⟨z, hz, hzm⟩ := Option.map_eq_some_iff.1 h
        cases hzm
        obtain ⟨v', r1, r2⟩ := acap_sound (P := P) (ty := type) hz (hE o1)
        exact ⟨.value v', γ, by rw [hx]; simp [builtin, r1], r2, Ext.refl γ, hr, rfl⟩
      · cases h
    case unsafeSliceData =>
      split at h
      · rename_i x h2
        obtain ⟨o1, ho1, hx1⟩ : ∃ o1, args.toList = [o1] ∧ ev env o1 = x := by
          cases hl : args.toList with
          | nil => rw [hl] at h2; simp at h2
          | cons y l => cases l with
            | nil => rw [hl] at h2; simp at h2; exact ⟨y, rfl, h2⟩
            | cons => rw [hl] at h2; simp at h2
        have e1 : args = #[o1] := by rw [← Array.toArray_toList (xs := args), ho1]
        subst e1 hx1
        obtain ⟨z, hz, hzm⟩ := Option.map_eq_some_iff.1 h
        cases hzm
        obtain ⟨v', r1, r2⟩ := adata_sound (P := P) (ts := argTypes) (ty := type) hz (hE o1)
        exact ⟨.value v', γ, by rw [hx]; simp [builtin, r1], r2, Ext.refl γ, hr, rfl⟩
      · cases h
    case copy =>
      split at h
      · rename_i t t2 s x h1 h2
        obtain ⟨o1, o2, ho1, hx1, hx2⟩ : ∃ o1 o2, args.toList = [o1, o2] ∧ ev env o1 = s ∧ ev env o2 = x := by
          cases hl : args.toList with
          | nil => rw [hl] at h2; simp at h2
          | cons y l => cases l with
            | nil => rw [hl] at h2; simp at h2
            | cons z l => cases l with
              | nil => rw [hl] at h2; simp at h2; exact ⟨y, z, rfl, h2.1, h2.2⟩
              | cons => rw [hl] at h2; simp at h2
        have e1 : args = #[o1, o2] := by rw [← Array.toArray_toList (xs := args), ho1]
        have e2 : argTypes = #[t, t2] := by rw [← Array.toArray_toList (xs := argTypes), h1]
        subst e1 e2 hx1 hx2
        obtain ⟨v', γ', r1, r2, r3, r4, r5⟩ := acopy_sound (P := P) (t2 := t2) (ty := type) hr h (hE o1) (hE o2)
        exact ⟨.value v', γ', by rw [hx]; simp [builtin, r1], r5, r2, r3, r4⟩
      · cases h
    case delete =>
      split at h
      · rename_i t t2 s x h1 h2
        obtain ⟨o1, o2, ho1, hx1, hx2⟩ : ∃ o1 o2, args.toList = [o1, o2] ∧ ev env o1 = s ∧ ev env o2 = x := by
          cases hl : args.toList with
          | nil => rw [hl] at h2; simp at h2
          | cons y l => cases l with
            | nil => rw [hl] at h2; simp at h2
            | cons z l => cases l with
              | nil => rw [hl] at h2; simp at h2; exact ⟨y, z, rfl, h2.1, h2.2⟩
              | cons => rw [hl] at h2; simp at h2
        have e1 : args = #[o1, o2] := by rw [← Array.toArray_toList (xs := args), ho1]
        have e2 : argTypes = #[t, t2] := by rw [← Array.toArray_toList (xs := argTypes), h1]
        subst e1 e2 hx1 hx2
        obtain ⟨v', γ', r1, r2, r3, r4, r5⟩ := adelete_sound (P := P) (t2 := t2) (ty := type) hr h (hE o1) (hE o2)
        exact ⟨.value v', γ', by rw [hx]; simp [builtin, r1], r5, r2, r3, r4⟩
      · cases h
    case unsafeString =>
      split at h
      · rename_i t t2 s x h1 h2
        obtain ⟨o1, o2, ho1, hx1, hx2⟩ : ∃ o1 o2, args.toList = [o1, o2] ∧ ev env o1 = s ∧ ev env o2 = x := by
          cases hl : args.toList with
          | nil => rw [hl] at h2; simp at h2
          | cons y l => cases l with
            | nil => rw [hl] at h2; simp at h2
            | cons z l => cases l with
              | nil => rw [hl] at h2; simp at h2; exact ⟨y, z, rfl, h2.1, h2.2⟩
              | cons => rw [hl] at h2; simp at h2
        have e1 : args = #[o1, o2] := by rw [← Array.toArray_toList (xs := args), ho1]
        have e2 : argTypes = #[t, t2] := by rw [← Array.toArray_toList (xs := argTypes), h1]
        subst e1 e2 hx1 hx2
        obtain ⟨z, hz, hzm⟩ := Option.map_eq_some_iff.1 h
        cases hzm
        obtain ⟨v', γ', r1, r2, r3, r4, r5⟩ := austr_sound (P := P) (it := t2) (ty := type) hr hz (hE o1) (hE o2)
        exact ⟨.value v', γ', by rw [hx]; simp [builtin, r1], r5, r2, r3, r4⟩
      · cases h
    case max =>
      split at h
      · rename_i k x k' y h2
        obtain ⟨o1, o2, ho1, hx1, hx2⟩ : ∃ o1 o2, args.toList = [o1, o2] ∧ ev env o1 = .int k x ∧ ev env o2 = .int k' y := by
          cases hl : args.toList with
          | nil => rw [hl] at h2; simp at h2
          | cons y l => cases l with
            | nil => rw [hl] at h2; simp at h2
            | cons z l => cases l with
              | nil => rw [hl] at h2; simp at h2; exact ⟨y, z, rfl, h2.1, h2.2⟩
              | cons => rw [hl] at h2; simp at h2
        have e1 : args = #[o1, o2] := by rw [← Array.toArray_toList (xs := args), ho1]
        subst e1
        cases h
        have v1 := hE o1
        have v2 := hE o2
        rw [hx1] at v1; rw [hx2] at v2
        cases q1 : a.eval o1 <;> rw [q1] at v1 <;> cases v1
        cases q2 : a.eval o2 <;> rw [q2] at v2 <;> cases v2
        exact ⟨.value (.int k (imax x y)), γ, by rw [hx]; simp [builtin, q1, q2, run_max_int2, imax], .int _ _, Ext.refl γ, hr, rfl⟩
      · cases h
    case min =>
      split at h
      · rename_i k x k' y h2
        obtain ⟨o1, o2, ho1, hx1, hx2⟩ : ∃ o1 o2, args.toList = [o1, o2] ∧ ev env o1 = .int k x ∧ ev env o2 = .int k' y := by
          cases hl : args.toList with
          | nil => rw [hl] at h2; simp at h2
          | cons y l => cases l with
            | nil => rw [hl] at h2; simp at h2
            | cons z l => cases l with
              | nil => rw [hl] at h2; simp at h2; exact ⟨y, z, rfl, h2.1, h2.2⟩
              | cons => rw [hl] at h2; simp at h2
        have e1 : args = #[o1, o2] := by rw [← Array.toArray_toList (xs := args), ho1]
        subst e1
        cases h
        have v1 := hE o1
        have v2 := hE o2
        rw [hx1] at v1; rw [hx2] at v2
        cases q1 : a.eval o1 <;> rw [q1] at v1 <;> cases v1
        cases q2 : a.eval o2 <;> rw [q2] at v2 <;> cases v2
        exact ⟨.value (.int k (imin x y)), γ, by rw [hx]; simp [builtin, q1, q2, run_min_int2, imin], .int _ _, Ext.refl γ, hr, rfl⟩
      · cases h
end

end Go.Hk
