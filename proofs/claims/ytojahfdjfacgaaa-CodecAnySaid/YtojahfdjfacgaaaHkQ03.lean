/- The operations that touch no memory, one by one. -/
import Derived.Test.YtojahfdjfacgaaaHkQ02
import Derived.Lib.Builder
import Derived.Lib.UnsafeStr
import Derived.Laws.BytesArg
namespace Go.Hk

def aint (op : BinOp) (k : IntKind) (x : Int) (k' : IntKind) (y : Int) : Option AVal :=
  match op with
  | .shl => if y < 0 then none else some (.int k (k.wrap (x * 2 ^ (min y.toNat k.bits))))
  | .shr => if y < 0 then none else some (.int k (x.fdiv (2 ^ (min y.toNat k.bits))))
  | .add => if k = k' then some (.int k (k.wrap (x + y))) else none
  | .sub => if k = k' then some (.int k (k.wrap (x - y))) else none
  | .mul => if k = k' then some (.int k (k.wrap (x * y))) else none
  | .quo => if k = k' then (if y = 0 then none else some (.int k (k.wrap (x.tdiv y)))) else none
  | .rem => if k = k' then (if y = 0 then none else some (.int k (x.tmod y))) else none
  | .and => if k = k' then some (.int k (bits .and k x y)) else none
  | .or => if k = k' then some (.int k (bits .or k x y)) else none
  | .xor => if k = k' then some (.int k (bits .xor k x y)) else none
  | .andNot => if k = k' then some (.int k (bits .andNot k x y)) else none
  | .eql => if k = k' then some (.bool (x == y)) else none
  | .neq => if k = k' then some (.bool (x != y)) else none
  | .lss => if k = k' then some (.bool (decide (x < y))) else none
  | .leq => if k = k' then some (.bool (decide (x ≤ y))) else none
  | .gtr => if k = k' then some (.bool (decide (y < x))) else none
  | .geq => if k = k' then some (.bool (decide (y ≤ x))) else none

def astr (op : BinOp) (x y : List UInt8) : Option AVal :=
  match op with
  | .add => if x.length + y.length ≤ 9223372036854775807 then some (.str (x ++ y)) else none
  | .eql => some (.bool (x == y))
  | .neq => some (.bool (x != y))
  | .lss => some (.bool (Op.bytesLess x y))
  | .leq => some (.bool (Op.bytesLess x y || x == y))
  | .gtr => some (.bool !(Op.bytesLess x y || x == y))
  | .geq => some (.bool !(Op.bytesLess x y))
  | _ => none

def aEqOp (op : BinOp) (r : Option Bool) : Option AVal :=
  match op with
  | .eql => r.map .bool
  | .neq => r.map fun b => .bool (!b)
  | _ => none

/-- A type of pointers, to what has a layout. -/
def ptrT (P : Program) (t : TypeId) : Bool :=
  match P.underlying t with
  | some (.pointer e) => (P.info? e).isSome
  | _ => false

/-- A pointer to a block of this type, of so many cells at least, may be cast so. -/
def castOK (P : Program) (s d t : TypeId) (n : Nat) : Bool :=
  match P.underlying s, P.underlying d with
  | some (.pointer e), some .unsafePointer => (match P.info? e with | some j => decide (j.size ≠ 0 ∧ 0 < n) | none => false)
  | some .unsafePointer, some (.pointer u) => (P.info? u).isSome && liesAt P P.depth t (n / P.cellsOf t) 0 u 1
  | _, _ => false

def abin (P : Program) (op : BinOp) (t : TypeId) (x y : AVal) : Option AVal :=
  match x with
  | .int k a => (match y with | .int k' b => aint op k a k' b | _ => none)
  | .str a => (match y with | .str b => astr op a b | _ => none)
  | .agg xs => (match y with | .agg ys => if P.eqGuardType P.depth t then none else aEqOp op (aeq P 20 t (.agg xs) (.agg ys)) | _ => none)
  | .bool a => (match y with | .bool b => aEqOp op (aeq P 1 t (.bool a) (.bool b)) | _ => none)
  | .nilp => (match y with | .nilp => aEqOp op (aeq P 1 t .nilp .nilp) | .ptr b e o => aEqOp op (aeq P 1 t .nilp (.ptr b e o)) | .ipt cs o => aEqOp op (aeq P 1 t .nilp (.ipt cs o)) | .tpt _ b _ => aEqOp op (aeq P 1 t .nilp (.ptr b 0 0)) | _ => none)
  | .ptr b e o => (match y with | .nilp => aEqOp op (aeq P 1 t (.ptr b e o) .nilp) | _ => none)
  | .ipt cs o => (match y with | .nilp => aEqOp op (aeq P 1 t (.ipt cs o) .nilp) | _ => none)
  | .tpt _ b _ => (match y with | .nilp => aEqOp op (aeq P 1 t (.ptr b 0 0) .nilp) | .tpt _ b' _ => if b = b' ∧ ptrT P t = true then aEqOp op (some true) else none | _ => none)
  | .nilm => (match y with | .nilm => aEqOp op (aeq P 1 t .nilm .nilm) | .map b => aEqOp op (aeq P 1 t .nilm (.map b)) | _ => none)
  | .map b => (match y with | .nilm => aEqOp op (aeq P 1 t (.map b) .nilm) | _ => none)
  | .nilf => (match y with | .nilf => aEqOp op (aeq P 1 t .nilf .nilf) | .fn f a b => aEqOp op (aeq P 1 t .nilf (.fn f a b)) | _ => none)
  | .fn f a b => (match y with | .nilf => aEqOp op (aeq P 1 t (.fn f a b) .nilf) | _ => none)
  | _ => none

def aun (op : UnOp) (x : AVal) : Option AVal :=
  match op with
  | .not => (match x with | .bool b => some (.bool !b) | _ => none)
  | .neg => (match x with | .int k n => some (.int k (k.wrap (0 - n))) | _ => none)
  | .xor => (match x with | .int k n => some (.int k (bits .xor k (if k.signed then -1 else k.max) n)) | _ => none)
  | _ => none

/-! ### Bytes ars cells -/
def bytesOf : List AVal → Option (List UInt8)
  | [] => some []
  | .int .u8 n :: cs => (match bytesOf cs with | some bs => if 0 ≤ n ∧ n < 256 then some (UInt8.ofNat n.toNat :: bs) else none | none => none)
  | _ :: _ => none
def cU (b : UInt8) : List AVal := [.int .u8 b.toNat]
theorem bytesOf_spec : ∀ (cs : List AVal) (bs : List UInt8), bytesOf cs = some bs → cs = bs.map fun b => .int .u8 b.toNat
  | [], bs, h => by simp only [bytesOf, Option.some.injEq] at h; subst h; rfl
  | .int .u8 n :: cs, bs, h => by
    simp only [bytesOf] at h
    split at h
    · rename_i bs' hb
      split at h
      · rename_i hn
        cases h
        have h1 : ((UInt8.ofNat n.toNat).toNat : Int) = n := by
          rw [UInt8.toNat_ofNat']; omega
        simp only [List.map_cons, h1, ← bytesOf_spec cs bs' hb]
      · cases h
    · cases h
  | .dead :: _, _, h => by simp [bytesOf] at h
  | .undef :: _, _, h => by simp [bytesOf] at h
  | .bool _ :: _, _, h => by simp [bytesOf] at h
  | .str _ :: _, _, h => by simp [bytesOf] at h
  | .nilp :: _, _, h => by simp [bytesOf] at h
  | .ptr _ _ _ :: _, _, h => by simp [bytesOf] at h
  | .ipt _ _ :: _, _, h => by simp [bytesOf] at h
  | .sl _ _ _ :: _, _, h => by simp [bytesOf] at h
  | .msl _ _ _ _ _ :: _, _, h => by simp [bytesOf] at h
  | .nilm :: _, _, h => by simp [bytesOf] at h
  | .map _ :: _, _, h => by simp [bytesOf] at h
  | .fn _ _ _ :: _, _, h => by simp [bytesOf] at h
  | .nilf :: _, _, h => by simp [bytesOf] at h
  | .ifc _ _ :: _, _, h => by simp [bytesOf] at h
  | .nili :: _, _, h => by simp [bytesOf] at h
  | .agg _ :: _, _, h => by simp [bytesOf] at h
  | .tup _ _ :: _, _, h => by simp [bytesOf] at h
  | .dpt _ _ :: _, _, h => by simp [bytesOf] at h
  | .tpt _ _ _ :: _, _, h => by simp [bytesOf] at h
  | .int .i8 _ :: _, _, h => by simp [bytesOf] at h
  | .int .i16 _ :: _, _, h => by simp [bytesOf] at h
  | .int .i32 _ :: _, _, h => by simp [bytesOf] at h
  | .int .i64 _ :: _, _, h => by simp [bytesOf] at h
  | .int .u16 _ :: _, _, h => by simp [bytesOf] at h
  | .int .u32 _ :: _, _, h => by simp [bytesOf] at h
  | .int .u64 _ :: _, _, h => by simp [bytesOf] at h
theorem bytesOf_map : ∀ bs : List UInt8, bytesOf (bs.map fun b => .int .u8 b.toNat) = some bs
  | [] => rfl
  | b :: bs => by
    have := b.toNat_lt
    simp only [List.map_cons, bytesOf, bytesOf_map bs]
    rw [if_pos (by omega)]
    simp

def aconv (P : Program) (s d : TypeId) (x : AVal) : Option AVal :=
  match x with
  | .int _ n => (match tiOf P s, tiOf P d with
    | some _, some D => (match D.k with | .int k => some (.int k (k.wrap n)) | _ => none)
    | _, _ => none)
  | .str b => (match tiOf P s, tiOf P d with
    | some _, some D => (match D.k with | .str => some (.str b) | _ => none)
    | _, _ => none)
  | .tpt t b n => if castOK P s d t n = true then some (.tpt t b n) else none
  | .sl _ n cs => (match tiOf P s, tiOf P d with
    | some S, some D => (match S.k, D.k with
      | .slice e, .str => (match tiOf P e with
        | some E => (match E.k with
          | .int .u8 => (match bytesOf cs with | some bs => if n = bs.length then some (.str bs) else none | none => none)
          | _ => none)
        | none => none)
      | _, _ => none)
    | _, _ => none)
  | _ => none

section sound
variable {P : Program} {κ : Cx} (w : World)

theorem aint_sound {op : BinOp} {k k' : IntKind} {x y : Int} {v : AVal} (t : TypeId) (h : aint op k x k' y = some v) :
    ∃ v', (binOp op t (.int k x) (.int k' y)).run P w = .ok v' w ∧ VR κ v v' := by
  cases op <;> simp only [aint] at h
  case shl => 
    split at h
    · cases h
    · rename_i hy
      simp only [Option.some.injEq] at h; subst h
      exact ⟨_, by simp [binOp, Op.shift, hy], .int _ _⟩
  case shr => 
    split at h
    · cases h
    · rename_i hy
      simp only [Option.some.injEq] at h; subst h
      exact ⟨_, by simp [binOp, Op.shift, hy], .int _ _⟩
  case quo =>
    split at h
    · split at h
      · cases h
      · rename_i hk hy; subst hk
        simp only [Option.some.injEq] at h; subst h
        exact ⟨_, by simp [binOp_quo, Op.intDiv, hy], .int _ _⟩
    · cases h
  case rem =>
    split at h
    · split at h
      · cases h
      · rename_i hk hy; subst hk
        simp only [Option.some.injEq] at h; subst h
        exact ⟨_, by simp [binOp_rem, Op.intDiv, hy], .int _ _⟩
    · cases h
  all_goals
    split at h
    · rename_i hk; subst hk
      simp only [Option.some.injEq] at h; subst h
      first
        | exact ⟨_, by simp [binOp_add, Op.intArith], .int _ _⟩
        | exact ⟨_, by simp [binOp_sub, Op.intArith], .int _ _⟩
        | exact ⟨_, by simp [binOp_mul, Op.intArith], .int _ _⟩
        | exact ⟨_, by simp only [binOp_and, intBits_and]; rfl, .int _ _⟩
        | exact ⟨_, by simp only [binOp_or, intBits_or]; rfl, .int _ _⟩
        | exact ⟨_, by simp only [binOp_xor, intBits_xor]; rfl, .int _ _⟩
        | exact ⟨_, by simp only [binOp_andNot, intBits_andNot]; rfl, .int _ _⟩
        | exact ⟨_, by simp [binOp_eql], .bool _⟩
        | exact ⟨_, by simp [binOp_neq], .bool _⟩
        | exact ⟨_, by simp [binOp_lss], .bool _⟩
        | exact ⟨_, by simp [binOp_leq], .bool _⟩
        | exact ⟨_, by simp [binOp_gtr], .bool _⟩
        | exact ⟨_, by simp [binOp_geq], .bool _⟩
    · cases h

theorem astr_sound {op : BinOp} {x y : List UInt8} {v : AVal} (t : TypeId) (h : astr op x y = some v) :
    ∃ v', (binOp op t (.string ⟨x.toArray⟩) (.string ⟨y.toArray⟩)).run P w = .ok v' w ∧ VR κ v v' := by
  have hb : binOp op t (.string ⟨x.toArray⟩) (.string ⟨y.toArray⟩) = Op.stringOp op ⟨x.toArray⟩ ⟨y.toArray⟩ := by cases op <;> simp [binOp]
  rw [hb]
  cases op <;> first | (have h' : (none : Option AVal) = some v := h; cases h'; done) | simp only [astr] at h
  case add =>
    split at h
    · rename_i hle
      simp only [Option.some.injEq] at h; subst h
      refine ⟨.string ⟨(x ++ y).toArray⟩, ?_, .str _⟩
      have h1 : (ByteArray.mk x.toArray).size = x.length := by simp [ByteArray.size]
      have h2 : (ByteArray.mk y.toArray).size = y.length := by simp [ByteArray.size]
      have h3 : (ByteArray.mk x.toArray ++ ByteArray.mk y.toArray) = ByteArray.mk (x ++ y).toArray := by
        apply ByteArray.ext
        simp
      simp only [Op.stringOp, h1, h2, h3, IntKind.max_i64]
      rw [if_neg (by omega)]
      rfl
    · cases h
  all_goals
    simp only [Option.some.injEq] at h; subst h
    exact ⟨_, by simp [Op.stringOp, bne], .bool _⟩

theorem aEqOp_sound {op : BinOp} {t : TypeId} {d : Nat} {x y v : AVal} {u u' : Value} (hd : d ≤ 10000) (h : aEqOp op (aeq P d t x y) = some v) (hx : VR κ x u) (hy : VR κ y u')
    (h1 : binOp .eql t u u' = (do pure (.bool (← Op.equal t u u')))) (h2 : binOp .neq t u u' = (do pure (.bool (!(← Op.equal t u u'))))) :
    ∃ v', (binOp op t u u').run P w = .ok v' w ∧ VR κ v v' := by
  cases op <;> first | (have h' : (none : Option AVal) = some v := h; cases h'; done) | simp only [aEqOp] at h
  all_goals
    obtain ⟨b, hb, rfl⟩ := Option.map_eq_some_iff.1 h
    have := aeq_sound w d t x y b u u' hb hx hy 10000 hd
    first
      | exact ⟨.bool b, by rw [h1]; simp [Op.equal, Op.maxDepth, this], .bool _⟩
      | exact ⟨.bool (!b), by rw [h2]; simp [Op.equal, Op.maxDepth, this], .bool _⟩

/-- A block that never grows lies at one place. -/
def Cx.one (κ : Cx) : Prop := ∀ b g g' c c', κ.blk b 0 g c → κ.blk b 0 g' c' → g = g'

theorem abin_sound (hκ : κ.one) {op : BinOp} {t : TypeId} {x y v : AVal} {u u' : Value} (a b : Operand) (h : abin P op t x y = some v) (hx : VR κ x u) (hy : VR κ y u') :
    ∃ v', (do eqGuard op t a b u u'; binOp op t u u' : Sem Value).run P w = .ok v' w ∧ VR κ v v' := by
  have guard : ∀ (z : Sem Unit), eqGuard op t a b u u' = pure () → ∀ {v'}, (binOp op t u u').run P w = .ok v' w → (do eqGuard op t a b u u'; binOp op t u u' : Sem Value).run P w = .ok v' w := by
    intro _ hg v' hr
    rw [hg]
    simpa using hr
  cases x <;> simp only [abin] at h
  case int k n =>
    cases y <;> simp only [reduceCtorEq] at h
    cases hx; cases hy
    obtain ⟨v', h1, h2⟩ := aint_sound (κ := κ) (P := P) w t h
    exact ⟨v', guard (pure ()) (by simp [eqGuard_at_int]) h1, h2⟩
  case str s =>
    cases y <;> simp only [reduceCtorEq] at h
    cases hx; cases hy
    obtain ⟨v', h1, h2⟩ := astr_sound (κ := κ) (P := P) w t h
    exact ⟨v', guard (pure ()) (by simp [eqGuard_at_string]) h1, h2⟩
  case agg xs =>
    cases y <;> simp only [reduceCtorEq] at h
    split at h
    · cases h
    · rename_i hg
      have hx' := hx; have hy' := hy
      cases hx; cases hy
      obtain ⟨v', h1, h2⟩ := aEqOp_sound w (by omega) h hx' hy' rfl rfl
      refine ⟨v', ?_, h2⟩
      rw [Sem.run_bind, run_eqGuard_agg w op t a b _ _ (by simpa using hg)]
      exact h1
  case bool c =>
    cases y <;> simp only [reduceCtorEq] at h
    have hx' := hx; have hy' := hy
    cases hx; cases hy
    obtain ⟨v', h1, h2⟩ := aEqOp_sound w (by omega) h hx' hy' rfl rfl
    exact ⟨v', guard (pure ()) (by simp [eqGuard_at_bool]) h1, h2⟩
  case nilp =>
    cases y <;> simp only [reduceCtorEq] at h
    case tpt =>
      have hx' := hx
      cases hx; cases hy
      rename_i hb _
      obtain ⟨v', h1, h2⟩ := aEqOp_sound w (by omega) h hx' (.ptr _ 0 0 _ _ hb) rfl rfl
      exact ⟨v', guard (pure ()) (by simp [eqGuard_at_pointer]) h1, h2⟩
    all_goals
      have hx' := hx; have hy' := hy
      cases hx; cases hy
      obtain ⟨v', h1, h2⟩ := aEqOp_sound w (by omega) h hx' hy' rfl rfl
      exact ⟨v', guard (pure ()) (by simp [eqGuard_at_pointer]) h1, h2⟩
  case tpt =>
    cases y <;> simp only [reduceCtorEq] at h
    case nilp =>
      have hy' := hy
      cases hx; cases hy
      rename_i hb _
      obtain ⟨v', h1, h2⟩ := aEqOp_sound w (by omega) h (.ptr _ 0 0 _ _ hb) hy' rfl rfl
      exact ⟨v', guard (pure ()) (by simp [eqGuard_at_pointer]) h1, h2⟩
    case tpt =>
      split at h
      case isFalse => cases h
      rename_i hc
      obtain ⟨rfl, hp⟩ := hc
      cases hx with
      | tpt _ _ _ g c hb _ =>
        cases hy with
        | tpt _ _ _ g' c' hb' _ =>
          have := hκ _ _ _ _ _ hb hb'
          subst this
          unfold ptrT at hp
          split at hp
          case h_2 => cases hp
          rename_i e he
          obtain ⟨j, hj⟩ := Option.isSome_iff_exists.1 hp
          cases op <;> simp only [aEqOp, Option.map_some, Option.some.injEq, reduceCtorEq] at h
          · subst h
            exact ⟨.bool true, guard (pure ()) (by simp [eqGuard_at_pointer]) (run_eql_ptr_same w _ he hj), .bool _⟩
          · subst h
            exact ⟨.bool false, guard (pure ()) (by simp [eqGuard_at_pointer]) (Lib.run_neq_ptr_same w _ he hj), .bool _⟩
  case ptr =>
    cases y <;> simp only [reduceCtorEq] at h
    have hx' := hx; have hy' := hy
    cases hx; cases hy
    obtain ⟨v', h1, h2⟩ := aEqOp_sound w (by omega) h hx' hy' rfl rfl
    exact ⟨v', guard (pure ()) (by simp [eqGuard_at_pointer]) h1, h2⟩
  case ipt =>
    cases y <;> simp only [reduceCtorEq] at h
    have hx' := hx; have hy' := hy
    cases hx; cases hy
    obtain ⟨v', h1, h2⟩ := aEqOp_sound w (by omega) h hx' hy' rfl rfl
    exact ⟨v', guard (pure ()) (by simp [eqGuard_at_pointer]) h1, h2⟩
  case nilm =>
    cases y <;> simp only [reduceCtorEq] at h
    all_goals
      have hx' := hx; have hy' := hy
      cases hx; cases hy
      obtain ⟨v', h1, h2⟩ := aEqOp_sound w (by omega) h hx' hy' rfl rfl
      exact ⟨v', guard (pure ()) (by simp [eqGuard_at_map]) h1, h2⟩
  case map =>
    cases y <;> simp only [reduceCtorEq] at h
    have hx' := hx; have hy' := hy
    cases hx; cases hy
    obtain ⟨v', h1, h2⟩ := aEqOp_sound w (by omega) h hx' hy' rfl rfl
    exact ⟨v', guard (pure ()) (by simp [eqGuard_at_map]) h1, h2⟩
  case nilf =>
    cases y <;> simp only [reduceCtorEq] at h
    all_goals
      have hx' := hx; have hy' := hy
      cases hx; cases hy
      obtain ⟨v', h1, h2⟩ := aEqOp_sound w (by omega) h hx' hy' rfl rfl
      exact ⟨v', guard (pure ()) (by simp [eqGuard_at_nilFunc]) h1, h2⟩
  case fn =>
    cases y <;> simp only [reduceCtorEq] at h
    have hx' := hx; have hy' := hy
    cases hx; cases hy
    obtain ⟨v', h1, h2⟩ := aEqOp_sound w (by omega) h hx' hy' rfl rfl
    exact ⟨v', guard (pure ()) (by simp [eqGuard_at_func]) h1, h2⟩
  all_goals cases h

theorem aun_sound {op : UnOp} {x v : AVal} {u : Value} (h : aun op x = some v) (hx : VR κ x u) : ∃ v', (Op.unary op u).run P w = .ok v' w ∧ VR κ v v' := by
  cases op <;> first | (have h' : (none : Option AVal) = some v := h; cases h'; done) | simp only [aun] at h
  all_goals (cases x <;> simp only [reduceCtorEq] at h; cases hx; simp only [Option.some.injEq] at h; subst h)
  · exact ⟨_, by simp [Op.unary, Op.intArith], .int _ _⟩
  · exact ⟨_, by simp only [Op.unary, intBits_xor]; rfl, .int _ _⟩
  · exact ⟨_, by simp [Op.unary], .bool _⟩

theorem rowAt_mono' {p : Program} {fits : TypeId → Bool} {d : Nat} {e : TypeId} {c c' off n : Nat} (hc : c ≤ c') (h : rowAt p fits d e c off n = true) : rowAt p fits d e c' off n = true := by
  cases d with
  | zero => simp [rowAt] at h
  | succ d =>
    simp only [rowAt] at h ⊢
    split at h
    · cases h
    · rename_i hs
      rw [if_neg hs]
      simp only [Bool.or_eq_true, Bool.and_eq_true, decide_eq_true_eq] at h ⊢
      rcases h with ⟨⟨h1, h2⟩, h3⟩ | ⟨h1, h2⟩
      · exact .inl ⟨⟨h1, by omega⟩, h3⟩
      · exact .inr ⟨by omega, h2⟩
theorem liesAt_mono {p : Program} {c c' : Nat} (hc : c ≤ c') : ∀ (d : Nat) (e : TypeId) (off : Nat) (u : TypeId) (n : Nat), liesAt p d e c off u n = true → liesAt p d e c' off u n = true
  | 0, _, _, _, _, h => by simp [liesAt] at h
  | d + 1, e, off, u, n, h => by
    simp only [liesAt, Bool.or_eq_true] at h ⊢
    rcases h with h | h
    · exact .inl (rowAt_mono' hc h)
    · refine .inr ?_
      split at h
      · exact liesAt_mono hc d e off _ _ h
      · cases h

/-- What lies behind what a pointer to a row of cells says. -/
def Cx.lies (κ : Cx) (w : World) : Prop := ∀ g t n, κ.own g t n → ∃ c, w.shape? g = some (t, c) ∧ n ≤ c

/-- What cells say is what the world holds. -/
def Cx.reads (κ : Cx) (w : World) : Prop := ∀ g o v, κ.cell g o v → w.cell? ⟨g, o, none⟩ = some v
theorem nums_str (bs : List UInt8) : strOfNums (bs.map fun b => ((b.toNat : Nat) : Int)) = ⟨bs.toArray⟩ := by
  simp [strOfNums, Function.comp_def]
theorem aconv_sound (hrd : κ.reads w) (hw : κ.lies w) {s d : TypeId} {x v : AVal} {u : Value} (h : aconv P s d x = some v) (hx : VR κ x u) : ∃ v', (convert s d u).run P w = .ok v' w ∧ VR κ v v' := by
  cases x <;> simp only [aconv, reduceCtorEq] at h
  case int k n =>
    cases hS : tiOf P s with
    | none => simp [hS] at h
    | some S =>
      cases hD : tiOf P d with
      | none => simp [hS, hD] at h
      | some D =>
        obtain ⟨i1, d1, h1⟩ := tiOf_spec hS
        obtain ⟨i2, d2, h2⟩ := tiOf_spec hD
        simp only [hS, hD] at h
        have hk := h2.k
        cases hkk : D.k <;> simp only [hkk, reduceCtorEq] at h
        rw [hkk] at hk
        have := tk_int hk; subst this
        simp only [Option.some.injEq] at h; subst h
        cases hx
        exact ⟨_, by simp [convert, h1.run_under w, h2.run_under w, Conv.intToInt], .int _ _⟩
  case str b =>
    cases hS : tiOf P s with
    | none => simp [hS] at h
    | some S =>
      cases hD : tiOf P d with
      | none => simp [hS, hD] at h
      | some D =>
        obtain ⟨i1, d1, h1⟩ := tiOf_spec hS
        obtain ⟨i2, d2, h2⟩ := tiOf_spec hD
        simp only [hS, hD] at h
        have hk := h2.k
        cases hkk : D.k <;> simp only [hkk, reduceCtorEq] at h
        rw [hkk] at hk
        have := tk_str hk; subst this
        simp only [Option.some.injEq] at h; subst h
        cases hx
        exact ⟨_, by simp [convert, h1.run_under w, h2.run_under w], .str _⟩
  case tpt t b n =>
    split at h
    case isFalse => cases h
    rename_i hc
    simp only [Option.some.injEq] at h; subst h
    have hx0 := hx
    cases hx with
    | tpt _ _ _ g c hb ho =>
      obtain ⟨q, hsh, hq⟩ := hw _ _ _ ho
      unfold castOK at hc
      split at hc
      · rename_i e hs hd
        split at hc
        · rename_i j hj
          simp only [decide_eq_true_eq] at hc
          exact ⟨_, Lib.run_to_unsafe (P := P) w ⟨g, 0, none⟩ hs hd hj hc.1 hsh (by show 0 < q; omega), hx0⟩
        · cases hc
      · rename_i u' hs hd
        simp only [Bool.and_eq_true] at hc
        obtain ⟨j, hj⟩ := Option.isSome_iff_exists.1 hc.1
        exact ⟨_, Lib.run_from_unsafe (P := P) w ⟨g, 0, none⟩ hs hd hj hsh (liesAt_mono (Nat.div_le_div_right hq) _ _ _ _ _ hc.2), hx0⟩
      · cases hc
  case sl r n cs =>
    cases hS : tiOf P s with
    | none => simp [hS] at h
    | some S =>
      cases hD : tiOf P d with
      | none => simp [hS, hD] at h
      | some D =>
        obtain ⟨i1, d1, h1⟩ := tiOf_spec hS
        obtain ⟨i2, d2, h2⟩ := tiOf_spec hD
        simp only [hS, hD] at h
        have hk1 := h1.k
        have hk2 := h2.k
        split at h
        case h_2 => cases h
        rename_i e hse hde
        rw [hse] at hk1
        rw [hde] at hk2
        have := tk_slice hk1; subst this
        have := tk_str hk2; subst this
        cases hE : tiOf P e with
        | none => simp [hE] at h
        | some E =>
          obtain ⟨i3, d3, h3⟩ := tiOf_spec hE
          simp only [hE] at h
          split at h
          case h_2 => cases h
          rename_i hek
          have hk3 := h3.k
          rw [hek] at hk3
          have := tk_int hk3; subst this
          split at h
          case h_2 => cases h
          rename_i bs hb
          split at h
          case isFalse => cases h
          rename_i hn
          cases h
          have hcs := bytesOf_spec _ _ hb
          have hlen : cs.length = bs.length := by rw [hcs]; simp
          cases hx with
          | slnil _ hr =>
            have hbs : bs = [] := List.eq_nil_of_length_eq_zero hn.symm
            subst hbs
            exact ⟨_, run_convert_bytes_nil (w := w) s e h1.under h3.under 0 0 d h2.under, .str []⟩
          | slz a cap =>
            have hbs : bs = [] := List.eq_nil_of_length_eq_zero hn.symm
            subst hbs
            refine ⟨_, ?_, .str []⟩
            rw [run_convert_bytes_string w s d e _ _ _ h1.under h3.under h2.under, run_bytesToString w a 0 cap [] (by simp [loadCells, loadCellsFrom, Sem.run_pure])]
            rfl
          | sl _ _ _ g k cap f hle hc hv hr =>
            subst hn
            refine ⟨_, ?_, .str bs⟩
            rw [← nums_str]
            refine run_convert_bytes_arg (w := w) s e h1.under h3.under g k bs.length cap _ (by simp) (fun i hi => ?_) d h2.under
            have hi' : i < cs.length := by omega
            have h4 := hv i hi'
            have h5 := hrd _ _ _ (hc i hi')
            have h6 : cs[i] = .int .u8 ((bs[i].toNat : Nat) : Int) := by simp [hcs]
            rw [h6] at h4
            cases h4' : f i <;> rw [h4'] at h4 <;> cases h4
            rw [h5, h4']
            simp [List.getD, hi]

end sound
end Go.Hk
