/- The operations that touch no memory, one by one. -/
import Derived.Test.YtpncchabnolnkaaHkB
namespace Go.Hk

def aint (op : BinOp) (k : IntKind) (x : Int) (k' : IntKind) (y : Int) : Option AVal :=
  match op with
  | .shl => if y < 0 then none else some (.int k (k.wrap (x * 2 ^ (min y.toNat k.bits))))
  | .shr => if y < 0 then none else some (.int k (x.fdiv (2 ^ (min y.toNat k.bits))))
  | .add => if k = k' then some (.int k (k.wrap (x + y))) else none
  | .sub => if k = k' then some (.int k (k.wrap (x - y))) else none
  | .mul => if k = k' then some (.int k (k.wrap (x * y))) else none
  | .quo => if k = k' then (if y = 0 then none else some (.int k (k.wrap (x.tdiv y)))) else none
  | .rem => if k = k' then (if y = 0 then none else some (.int k (x.tmod y))) else none
  | .and => if k = k' then some (.int k (bits .and k x y)) else none
  | .or => if k = k' then some (.int k (bits .or k x y)) else none
  | .xor => if k = k' then some (.int k (bits .xor k x y)) else none
  | .andNot => if k = k' then some (.int k (bits .andNot k x y)) else none
  | .eql => if k = k' then some (.bool (x == y)) else none
  | .neq => if k = k' then some (.bool (x != y)) else none
  | .lss => if k = k' then some (.bool (decide (x < y))) else none
  | .leq => if k = k' then some (.bool (decide (x ≤ y))) else none
  | .gtr => if k = k' then some (.bool (decide (y < x))) else none
  | .geq => if k = k' then some (.bool (decide (y ≤ x))) else none

def astr (op : BinOp) (x y : List UInt8) : Option AVal :=
  match op with
  | .add => if x.length + y.length ≤ 9223372036854775807 then some (.str (x ++ y)) else none
  | .eql => some (.bool (x == y))
  | .neq => some (.bool (x != y))
  | .lss => some (.bool (Op.bytesLess x y))
  | .leq => some (.bool (Op.bytesLess x y || x == y))
  | .gtr => some (.bool !(Op.bytesLess x y || x == y))
  | .geq => some (.bool !(Op.bytesLess x y))
  | _ => none

def aEqOp (op : BinOp) (r : Option Bool) : Option AVal :=
  match op with
  | .eql => r.map .bool
  | .neq => r.map fun b => .bool (!b)
  | _ => none

def abin (P : Program) (op : BinOp) (t : TypeId) (x y : AVal) : Option AVal :=
  match x with
  | .int k a => (match y with | .int k' b => aint op k a k' b | _ => none)
  | .str a => (match y with | .str b => astr op a b | _ => none)
  | .agg xs => (match y with | .agg ys => if P.eqGuardType P.depth t then none else aEqOp op (aeq P 20 t (.agg xs) (.agg ys)) | _ => none)
  | .bool a => (match y with | .bool b => aEqOp op (aeq P 1 t (.bool a) (.bool b)) | _ => none)
  | .nilp => (match y with | .nilp => aEqOp op (aeq P 1 t .nilp .nilp) | .ptr b e o => aEqOp op (aeq P 1 t .nilp (.ptr b e o)) | .ipt cs o => aEqOp op (aeq P 1 t .nilp (.ipt cs o)) | _ => none)
  | .ptr b e o => (match y with | .nilp => aEqOp op (aeq P 1 t (.ptr b e o) .nilp) | _ => none)
  | .ipt cs o => (match y with | .nilp => aEqOp op (aeq P 1 t (.ipt cs o) .nilp) | _ => none)
  | .nilm => (match y with | .nilm => aEqOp op (aeq P 1 t .nilm .nilm) | .map b => aEqOp op (aeq P 1 t .nilm (.map b)) | _ => none)
  | .map b => (match y with | .nilm => aEqOp op (aeq P 1 t (.map b) .nilm) | _ => none)
  | .nilf => (match y with | .nilf => aEqOp op (aeq P 1 t .nilf .nilf) | .fn f a b => aEqOp op (aeq P 1 t .nilf (.fn f a b)) | _ => none)
  | .fn f a b => (match y with | .nilf => aEqOp op (aeq P 1 t (.fn f a b) .nilf) | _ => none)
  | _ => none

def aun (op : UnOp) (x : AVal) : Option AVal :=
  match op with
  | .not => (match x with | .bool b => some (.bool !b) | _ => none)
  | .neg => (match x with | .int k n => some (.int k (k.wrap (0 - n))) | _ => none)
  | .xor => (match x with | .int k n => some (.int k (bits .xor k (if k.signed then -1 else k.max) n)) | _ => none)
  | _ => none

def aconv (P : Program) (s d : TypeId) (x : AVal) : Option AVal :=
  match x with
  | .int _ n => (match tiOf P s, tiOf P d with
    | some _, some D => (match D.k with | .int k => some (.int k (k.wrap n)) | _ => none)
    | _, _ => none)
  | .str b => (match tiOf P s, tiOf P d with
    | some _, some D => (match D.k with | .str => some (.str b) | _ => none)
    | _, _ => none)
  | _ => none

section sound
variable {P : Program} {κ : Cx} (w : World)

theorem aint_sound {op : BinOp} {k k' : IntKind} {x y : Int} {v : AVal} (t : TypeId) (h : aint op k x k' y = some v) :
    ∃ v', (binOp op t (.int k x) (.int k' y)).run P w = .ok v' w ∧ VR κ v v' := by
  cases op <;> simp only [aint] at h
  case shl => 
    split at h
    · cases h
    · rename_i hy
      simp only [Option.some.injEq] at h; subst h
      exact ⟨_, by simp [binOp, Op.shift, hy], .int _ _⟩
  case shr => 
    split at h
    · cases h
    · rename_i hy
      simp only [Option.some.injEq] at h; subst h
      exact ⟨_, by simp [binOp, Op.shift, hy], .int _ _⟩
  case quo =>
    split at h
    · split at h
      · cases h
      · rename_i hk hy; subst hk
        simp only [Option.some.injEq] at h; subst h
        exact ⟨_, by simp [binOp_quo, Op.intDiv, hy], .int _ _⟩
    · cases h
  case rem =>
    split at h
    · split at h
      · cases h
      · rename_i hk hy; subst hk
        simp only [Option.some.injEq] at h; subst h
        exact ⟨_, by simp [binOp_rem, Op.intDiv, hy], .int _ _⟩
    · cases h
  all_goals
    split at h
    · rename_i hk; subst hk
      simp only [Option.some.injEq] at h; subst h
      first
        | exact ⟨_, by simp [binOp_add, Op.intArith], .int _ _⟩
        | exact ⟨_, by simp [binOp_sub, Op.intArith], .int _ _⟩
        | exact ⟨_, by simp [binOp_mul, Op.intArith], .int _ _⟩
        | exact ⟨_, by simp only [binOp_and, intBits_and]; rfl, .int _ _⟩
        | exact ⟨_, by simp only [binOp_or, intBits_or]; rfl, .int _ _⟩
        | exact ⟨_, by simp only [binOp_xor, intBits_xor]; rfl, .int _ _⟩
        | exact ⟨_, by simp only [binOp_andNot, intBits_andNot]; rfl, .int _ _⟩
        | exact ⟨_, by simp [binOp_eql], .bool _⟩
        | exact ⟨_, by simp [binOp_neq], .bool _⟩
        | exact ⟨_, by simp [binOp_lss], .bool _⟩
        | exact ⟨_, by simp [binOp_leq], .bool _⟩
        | exact ⟨_, by simp [binOp_gtr], .bool _⟩
        | exact ⟨_, by simp [binOp_geq], .bool _⟩
    · cases h

theorem astr_sound {op : BinOp} {x y : List UInt8} {v : AVal} (t : TypeId) (h : astr op x y = some v) :
    ∃ v', (binOp op t (.string ⟨x.toArray⟩) (.string ⟨y.toArray⟩)).run P w = .ok v' w ∧ VR κ v v' := by
  have hb : binOp op t (.string ⟨x.toArray⟩) (.string ⟨y.toArray⟩) = Op.stringOp op ⟨x.toArray⟩ ⟨y.toArray⟩ := by cases op <;> simp [binOp]
  rw [hb]
  cases op <;> first | (have h' : (none : Option AVal) = some v := h; cases h'; done) | simp only [astr] at h
  case add =>
    split at h
    · rename_i hle
      simp only [Option.some.injEq] at h; subst h
      refine ⟨.string ⟨(x ++ y).toArray⟩, ?_, .str _⟩
      have h1 : (ByteArray.mk x.toArray).size = x.length := by simp [ByteArray.size]
      have h2 : (ByteArray.mk y.toArray).size = y.length := by simp [ByteArray.size]
      have h3 : (ByteArray.mk x.toArray ++ ByteArray.mk y.toArray) = ByteArray.mk (x ++ y).toArray := by
        apply ByteArray.ext
        simp
      simp only [Op.stringOp, h1, h2, h3, IntKind.max_i64]
      rw [if_neg (by omega)]
      rfl
    · cases h
  all_goals
    simp only [Option.some.injEq] at h; subst h
    exact ⟨_, by simp [Op.stringOp, bne], .bool _⟩

theorem aEqOp_sound {op : BinOp} {t : TypeId} {d : Nat} {x y v : AVal} {u u' : Value} (hd : d ≤ 10000) (h : aEqOp op (aeq P d t x y) = some v) (hx : VR κ x u) (hy : VR κ y u')
    (h1 : binOp .eql t u u' = (do pure (.bool (← Op.equal t u u')))) (h2 : binOp .neq t u u' = (do pure (.bool (!(← Op.equal t u u'))))) :
    ∃ v', (binOp op t u u').run P w = .ok v' w ∧ VR κ v v' := by
  cases op <;> first | (have h' : (none : Option AVal) = some v := h; cases h'; done) | simp only [aEqOp] at h
  all_goals
    obtain ⟨b, hb, rfl⟩ := Option.map_eq_some_iff.1 h
    have := aeq_sound w d t x y b u u' hb hx hy 10000 hd
    first
      | exact ⟨.bool b, by rw [h1]; simp [Op.equal, Op.maxDepth, this], .bool _⟩
      | exact ⟨.bool (!b), by rw [h2]; simp [Op.equal, Op.maxDepth, this], .bool _⟩

theorem abin_sound {op : BinOp} {t : TypeId} {x y v : AVal} {u u' : Value} (a b : Operand) (h : abin P op t x y = some v) (hx : VR κ x u) (hy : VR κ y u') :
    ∃ v', (do eqGuard op t a b u u'; binOp op t u u' : Sem Value).run P w = .ok v' w ∧ VR κ v v' := by
  have guard : ∀ (z : Sem Unit), eqGuard op t a b u u' = pure () → ∀ {v'}, (binOp op t u u').run P w = .ok v' w → (do eqGuard op t a b u u'; binOp op t u u' : Sem Value).run P w = .ok v' w := by
    intro _ hg v' hr
    rw [hg]
    simpa using hr
  cases x <;> simp only [abin] at h
  case int k n =>
    cases y <;> simp only [reduceCtorEq] at h
    cases hx; cases hy
    obtain ⟨v', h1, h2⟩ := aint_sound (κ := κ) (P := P) w t h
    exact ⟨v', guard (pure ()) (by simp [eqGuard_at_int]) h1, h2⟩
  case str s =>
    cases y <;> simp only [reduceCtorEq] at h
    cases hx; cases hy
    obtain ⟨v', h1, h2⟩ := astr_sound (κ := κ) (P := P) w t h
    exact ⟨v', guard (pure ()) (by simp [eqGuard_at_string]) h1, h2⟩
  case agg xs =>
    cases y <;> simp only [reduceCtorEq] at h
    split at h
    · cases h
    · rename_i hg
      have hx' := hx; have hy' := hy
      cases hx; cases hy
      obtain ⟨v', h1, h2⟩ := aEqOp_sound w (by omega) h hx' hy' rfl rfl
      refine ⟨v', ?_, h2⟩
      rw [Sem.run_bind, run_eqGuard_agg w op t a b _ _ (by simpa using hg)]
      exact h1
  case bool c =>
    cases y <;> simp only [reduceCtorEq] at h
    have hx' := hx; have hy' := hy
    cases hx; cases hy
    obtain ⟨v', h1, h2⟩ := aEqOp_sound w (by omega) h hx' hy' rfl rfl
    exact ⟨v', guard (pure ()) (by simp [eqGuard_at_bool]) h1, h2⟩
  case nilp =>
    cases y <;> simp only [reduceCtorEq] at h
    all_goals
      have hx' := hx; have hy' := hy
      cases hx; cases hy
      obtain ⟨v', h1, h2⟩ := aEqOp_sound w (by omega) h hx' hy' rfl rfl
      exact ⟨v', guard (pure ()) (by simp [eqGuard_at_pointer]) h1, h2⟩
  case ptr =>
    cases y <;> simp only [reduceCtorEq] at h
    have hx' := hx; have hy' := hy
    cases hx; cases hy
    obtain ⟨v', h1, h2⟩ := aEqOp_sound w (by omega) h hx' hy' rfl rfl
    exact ⟨v', guard (pure ()) (by simp [eqGuard_at_pointer]) h1, h2⟩
  case ipt =>
    cases y <;> simp only [reduceCtorEq] at h
    have hx' := hx; have hy' := hy
    cases hx; cases hy
    obtain ⟨v', h1, h2⟩ := aEqOp_sound w (by omega) h hx' hy' rfl rfl
    exact ⟨v', guard (pure ()) (by simp [eqGuard_at_pointer]) h1, h2⟩
  case nilm =>
    cases y <;> simp only [reduceCtorEq] at h
    all_goals
      have hx' := hx; have hy' := hy
      cases hx; cases hy
      obtain ⟨v', h1, h2⟩ := aEqOp_sound w (by omega) h hx' hy' rfl rfl
      exact ⟨v', guard (pure ()) (by simp [eqGuard_at_map]) h1, h2⟩
  case map =>
    cases y <;> simp only [reduceCtorEq] at h
    have hx' := hx; have hy' := hy
    cases hx; cases hy
    obtain ⟨v', h1, h2⟩ := aEqOp_sound w (by omega) h hx' hy' rfl rfl
    exact ⟨v', guard (pure ()) (by simp [eqGuard_at_map]) h1, h2⟩
  case nilf =>
    cases y <;> simp only [reduceCtorEq] at h
    all_goals
      have hx' := hx; have hy' := hy
      cases hx; cases hy
      obtain ⟨v', h1, h2⟩ := aEqOp_sound w (by omega) h hx' hy' rfl rfl
      exact ⟨v', guard (pure ()) (by simp [eqGuard_at_nilFunc]) h1, h2⟩
  case fn =>
    cases y <;> simp only [reduceCtorEq] at h
    have hx' := hx; have hy' := hy
    cases hx; cases hy
    obtain ⟨v', h1, h2⟩ := aEqOp_sound w (by omega) h hx' hy' rfl rfl
    exact ⟨v', guard (pure ()) (by simp [eqGuard_at_func]) h1, h2⟩
  all_goals cases h

theorem aun_sound {op : UnOp} {x v : AVal} {u : Value} (h : aun op x = some v) (hx : VR κ x u) : ∃ v', (Op.unary op u).run P w = .ok v' w ∧ VR κ v v' := by
  cases op <;> first | (have h' : (none : Option AVal) = some v := h; cases h'; done) | simp only [aun] at h
  all_goals (cases x <;> simp only [reduceCtorEq] at h; cases hx; simp only [Option.some.injEq] at h; subst h)
  · exact ⟨_, by simp [Op.unary, Op.intArith], .int _ _⟩
  · exact ⟨_, by simp only [Op.unary, intBits_xor]; rfl, .int _ _⟩
  · exact ⟨_, by simp [Op.unary], .bool _⟩

theorem aconv_sound {s d : TypeId} {x v : AVal} {u : Value} (h : aconv P s d x = some v) (hx : VR κ x u) : ∃ v', (convert s d u).run P w = .ok v' w ∧ VR κ v v' := by
  cases x <;> simp only [aconv, reduceCtorEq] at h
  case int k n =>
    cases hS : tiOf P s with
    | none => simp [hS] at h
    | some S =>
      cases hD : tiOf P d with
      | none => simp [hS, hD] at h
      | some D =>
        obtain ⟨i1, d1, h1⟩ := tiOf_spec hS
        obtain ⟨i2, d2, h2⟩ := tiOf_spec hD
        simp only [hS, hD] at h
        have hk := h2.k
        cases hkk : D.k <;> simp only [hkk, reduceCtorEq] at h
        rw [hkk] at hk
        have := tk_int hk; subst this
        simp only [Option.some.injEq] at h; subst h
        cases hx
        exact ⟨_, by simp [convert, h1.run_under w, h2.run_under w, Conv.intToInt], .int _ _⟩
  case str b =>
    cases hS : tiOf P s with
    | none => simp [hS] at h
    | some S =>
      cases hD : tiOf P d with
      | none => simp [hS, hD] at h
      | some D =>
        obtain ⟨i1, d1, h1⟩ := tiOf_spec hS
        obtain ⟨i2, d2, h2⟩ := tiOf_spec hD
        simp only [hS, hD] at h
        have hk := h2.k
        cases hkk : D.k <;> simp only [hkk, reduceCtorEq] at h
        rw [hkk] at hk
        have := tk_str hk; subst this
        simp only [Option.some.injEq] at h; subst h
        cases hx
        exact ⟨_, by simp [convert, h1.run_under w, h2.run_under w], .str _⟩

end sound
end Go.Hk
