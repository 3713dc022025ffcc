import Derived.Below
import Derived.Orders
import Derived.Laws.Cells
import Derived.Laws.Rows
import Derived.Laws.StructEq
import Derived.Laws.Append
import Derived.Tactics
import Derived.Laws.Small
import Derived.Laws.Strings
import Derived.Lib.Builder
import Derived.Lib.UnsafeStr
import Derived.Laws.BytesArg
/- The abstract values of the general walk, what they say of a machine's value, and how the world may go on. -/
namespace Go.Hk
open Go.RowKit

/-- What may be appended to a slice: nothing is known; its capacity is its length; it bears the token t; it is nil. -/
inductive Rt where
  | no | full | tok (t : Nat) | nil
  deriving DecidableEq

inductive AVal where
  | dead
  | undef
  | bool (b : Bool)
  | int (k : IntKind) (n : Int)
  | str (s : List UInt8)
  | nilp
  | ptr (b e o : Nat)
  | ipt (cs : List AVal) (o : Nat)
  | sl (r : Rt) (n : Nat) (cs : List AVal)
  | msl (b e o n k : Nat)
  | nilm
  | map (b : Nat)
  | fn (f : FuncId) (first caps : List AVal)
  | nilf
  | ifc (t : TypeId) (v : AVal)
  | nili
  | agg (cs : List AVal)
  | tup (a : AVal) (vs : List AVal)
  | dpt (t : TypeId) (cs : List AVal)
  | tpt (t : TypeId) (b n : Nat)
  | yld (b : Nat)

/-- A block of memory that may be written. -/
inductive ABlk where
  | cells (e : Nat) (cs : List AVal)
  | amap (es : List (AVal × AVal))
  | iter (mb : Nat) (left : List (AVal × AVal)) (cur : Option (AVal × AVal))
  | loop (st : LoopState) (pend : Option Code) (ps : Array Tmp) (asg body : Code) (env : List (Nat × AVal)) (n : Nat)

/-- What the values' meaning leans on. -/
structure Cx where
  cell : Nat → Nat → Value → Prop
  blk : Nat → Nat → Nat → Nat → Prop
  tip : Nat → Nat → Option Nat → Nat → Prop
  own : Nat → TypeId → Nat → Prop

def rtOK (κ : Cx) (r : Rt) (n len : Nat) (base : Option Nat) (k cap : Nat) : Prop :=
  match r with
  | .no => True
  | .full => cap = n
  | .nil => base = none ∧ cap = n
  | .tok t => κ.tip t len base cap ∧ (k = 0 ∨ cap = 0)

inductive VR (κ : Cx) : AVal → Value → Prop where
  | dead (v : Value) : VR κ .dead v
  | undef : VR κ .undef (.tuple #[])
  | bool (b : Bool) : VR κ (.bool b) (.bool b)
  | int (k : IntKind) (n : Int) : VR κ (.int k n) (.int k n)
  | str (s : List UInt8) : VR κ (.str s) (.string ⟨s.toArray⟩)
  | nilp : VR κ .nilp (.pointer none)
  | ptr (b e o g c : Nat) (h : κ.blk b e g c) : VR κ (.ptr b e o) (.pointer (some ⟨g, o, none⟩))
  | ipt (cs : List AVal) (o g k : Nat) (f : Nat → Value) (hc : ∀ j, j < cs.length → κ.cell g (k + j) (f j)) (hv : ∀ (j : Nat) (h : j < cs.length), VR κ (cs[j]) (f j)) :
      VR κ (.ipt cs o) (.pointer (some ⟨g, k + o, none⟩))
  | slnil (r : Rt) (hr : rtOK κ r 0 0 none 0 0) : VR κ (.sl r 0 []) (.slice none 0 0)
  | slz (a : Addr) (cap : Nat) : VR κ (.sl .no 0 []) (.slice (some a) 0 cap)
  | sl (r : Rt) (n : Nat) (cs : List AVal) (g k cap : Nat) (f : Nat → Value) (hn : n ≤ cap) (hc : ∀ j, j < cs.length → κ.cell g (k + j) (f j))
      (hv : ∀ (j : Nat) (h : j < cs.length), VR κ (cs[j]) (f j)) (hr : rtOK κ r n cs.length (some g) k cap) :
      VR κ (.sl r n cs) (.slice (some ⟨g, k, none⟩) n cap)
  | msl (b e o n k g c cap : Nat) (h : κ.blk b e g c) (hn : n ≤ cap) (ho : o = 0 → cap = c) : VR κ (.msl b e o n k) (.slice (some ⟨g, o, none⟩) n cap)
  | nilm : VR κ .nilm (.map none)
  | map (b g c : Nat) (h : κ.blk b 0 g c) : VR κ (.map b) (.map (some g))
  | fn (f : FuncId) (first caps : List AVal) (xs ys : Array Value) (h1 : xs.size = first.length) (h2 : ys.size = caps.length)
      (hx : ∀ (j : Nat) (h : j < first.length), VR κ (first[j]) (xs.getD j undef)) (hy : ∀ (j : Nat) (h : j < caps.length), VR κ (caps[j]) (ys.getD j undef)) :
      VR κ (.fn f first caps) (.func (.func f) xs ys)
  | nilf : VR κ .nilf .nilFunc
  | ifc (t : TypeId) (a : AVal) (v : Value) (h : VR κ a v) : VR κ (.ifc t a) (.iface t v)
  | nili : VR κ .nili .nilIface
  | agg (cs : List AVal) (vs : Array Value) (hs : vs.size = cs.length) (hv : ∀ (j : Nat) (h : j < cs.length), VR κ (cs[j]) (vs.getD j undef)) (ho : ∀ j, j < cs.length → (vs.getD j undef).oneCell' = true) : VR κ (.agg cs) (.agg vs)
  | tup (a : AVal) (cs : List AVal) (vs : Array Value) (hs : vs.size = (a :: cs).length) (hv : ∀ (j : Nat) (h : j < (a :: cs).length), VR κ ((a :: cs)[j]) (vs.getD j undef)) : VR κ (.tup a cs) (.tuple vs)
  | dpz (t : TypeId) (p : Option Addr) : VR κ (.dpt t []) (.pointer p)
  | dpt (t : TypeId) (cs : List AVal) (g : Nat) (f : Nat → Value) (hc : ∀ j, j < cs.length → κ.cell g j (f j)) (hv : ∀ (j : Nat) (h : j < cs.length), VR κ (cs[j]) (f j)) (ho : κ.own g t 0) : VR κ (.dpt t cs) (.pointer (some ⟨g, 0, none⟩))
  | tpt (t : TypeId) (b n g c : Nat) (h : κ.blk b 0 g c) (ho : κ.own g t n) : VR κ (.tpt t b n) (.pointer (some ⟨g, 0, none⟩))
  | yld (b g c : Nat) (h : κ.blk b 0 g c) : VR κ (.yld b) (.func (.yield g) #[] #[])

structure Cx.le (κ κ' : Cx) : Prop where
  cell : ∀ g o v, κ.cell g o v → κ'.cell g o v
  blk : ∀ b e g c, κ.blk b e g c → κ'.blk b e g c
  tip : ∀ t len base cap, κ.tip t len base cap → κ'.tip t len base cap
  own : ∀ g t n, κ.own g t n → κ'.own g t n

theorem Cx.le.refl (κ : Cx) : κ.le κ := ⟨fun _ _ _ h => h, fun _ _ _ _ h => h, fun _ _ _ _ h => h, fun _ _ _ h => h⟩
theorem Cx.le.trans {a b c : Cx} (h : a.le b) (k : b.le c) : a.le c :=
  ⟨fun _ _ _ x => k.cell _ _ _ (h.cell _ _ _ x), fun _ _ _ _ x => k.blk _ _ _ _ (h.blk _ _ _ _ x), fun _ _ _ _ x => k.tip _ _ _ _ (h.tip _ _ _ _ x), fun _ _ _ x => k.own _ _ _ (h.own _ _ _ x)⟩

theorem rtOK.mono {κ κ' : Cx} (h : κ.le κ') {r : Rt} {n len : Nat} {base : Option Nat} {k cap : Nat} (hr : rtOK κ r n len base k cap) : rtOK κ' r n len base k cap := by
  cases r with
  | no => trivial
  | full => exact hr
  | nil => exact hr
  | tok t => exact ⟨h.tip _ _ _ _ hr.1, hr.2⟩

theorem VR.mono {κ κ' : Cx} (h : κ.le κ') {a : AVal} {v : Value} (hv : VR κ a v) : VR κ' a v := by
  induction hv with
  | dead v => exact .dead v
  | undef => exact .undef
  | bool b => exact .bool b
  | int k n => exact .int k n
  | str s => exact .str s
  | nilp => exact .nilp
  | ptr b e o g c hb => exact .ptr b e o g c (h.blk _ _ _ _ hb)
  | ipt cs o g k f hc _ ih => exact .ipt cs o g k f (fun j hj => h.cell _ _ _ (hc j hj)) ih
  | slnil r hr => exact .slnil r (hr.mono h)
  | slz a cap => exact .slz a cap
  | sl r n cs g k cap f hn hc _ hr ih => exact .sl r n cs g k cap f hn (fun j hj => h.cell _ _ _ (hc j hj)) ih (hr.mono h)
  | msl b e o n k g c cap hb hn ho => exact .msl b e o n k g c cap (h.blk _ _ _ _ hb) hn ho
  | nilm => exact .nilm
  | map b g c hb => exact .map b g c (h.blk _ _ _ _ hb)
  | fn f first caps xs ys h1 h2 _ _ ih1 ih2 => exact .fn f first caps xs ys h1 h2 ih1 ih2
  | nilf => exact .nilf
  | ifc t a v _ ih => exact .ifc t a v ih
  | nili => exact .nili
  | agg cs vs hs _ ho ih => exact .agg cs vs hs ih ho
  | tup a cs vs hs _ ih => exact .tup a cs vs hs ih
  | dpz t p => exact .dpz t p
  | dpt t cs g f hc _ ho ih => exact .dpt t cs g f (fun j hj => h.cell _ _ _ (hc j hj)) ih (h.own _ _ _ ho)
  | tpt t b n g c hb ho => exact .tpt t b n g c (h.blk _ _ _ _ hb) (h.own _ _ _ ho)
  | yld b g c hb => exact .yld b g c (h.blk _ _ _ _ hb)

/-- The environment: what the temporaries hold, the youngest first. -/
def lk : List (Nat × AVal) → Nat → AVal
  | [], _ => .dead
  | (k, v) :: r, t => if k = t then v else lk r t

def ER (κ : Cx) (env : List (Nat × AVal)) (tmps : Array Value) : Prop := ∀ t, VR κ (lk env t) (tmps.getD t undef)

theorem ER.mono {κ κ' : Cx} (h : κ.le κ') {env : List (Nat × AVal)} {tmps : Array Value} (he : ER κ env tmps) : ER κ' env tmps := fun t => (he t).mono h

/-- Entries, one by one. -/
def AL (κ : Cx) (es : List (AVal × AVal)) (l : List MapEntry) : Prop := l.length = es.length ∧ ∀ (j : Nat) (h : j < es.length) (h' : j < l.length), VR κ es[j].1 l[j].key ∧ VR κ es[j].2 l[j].val
theorem AL.mono {κ κ' : Cx} (h : κ.le κ') {es : List (AVal × AVal)} {l : List MapEntry} (ha : AL κ es l) : AL κ' es l := ⟨ha.1, fun j hj hj' => ⟨(ha.2 j hj hj').1.mono h, (ha.2 j hj hj').2.mono h⟩⟩

/-- A map's entries are these, in whatever order. -/
structure MR (κ : Cx) (es : List (AVal × AVal)) (en : Array MapEntry) (clk : Nat) : Prop where
  born : (en.toList.map (·.born)).Nodup
  lt : ∀ x ∈ en.toList, x.born < clk
  perm : ∃ l : List MapEntry, l.Perm en.toList ∧ AL κ es l
theorem MR.mono {κ κ' : Cx} (h : κ.le κ') {es : List (AVal × AVal)} {en : Array MapEntry} {clk : Nat} (hm : MR κ es en clk) : MR κ' es en clk :=
  ⟨hm.born, hm.lt, let ⟨l, h1, h2⟩ := hm.perm; ⟨l, h1, h2.mono h⟩⟩
theorem MR.size {κ : Cx} {es : List (AVal × AVal)} {en : Array MapEntry} {clk : Nat} (hm : MR κ es en clk) : en.size = es.length := by
  obtain ⟨l, h1, h2⟩ := hm.perm
  have := h1.length_eq
  rw [h2.1] at this
  simpa using this.symm

/-- An iterator over a map: what is still to come, and what came last. -/
structure IR (κ : Cx) (left : List (AVal × AVal)) (cur : Option (AVal × AVal)) (en : Array MapEntry) (clk since : Nat) (seen : Array Nat) (c0 : Nat) : Prop where
  old : ∀ x ∈ en.toList, x.born < since
  sc : since ≤ c0
  sk : since ≤ clk
  left : ∃ l : List MapEntry, l.Perm (en.toList.filter fun x => !seen.contains x.born) ∧ AL κ left l
  cur : match cur with
    | none => True
    | some p => ∃ x ∈ en.toList, ∃ seen0 : Array Nat, seen = seen0.push x.born ∧ c0 = clk ∧ VR κ p.1 x.key ∧ VR κ p.2 x.val
theorem IR.mono {κ κ' : Cx} (h : κ.le κ') {left : List (AVal × AVal)} {cur : Option (AVal × AVal)} {en : Array MapEntry} {clk since : Nat} {seen : Array Nat} {c0 : Nat} (hm : IR κ left cur en clk since seen c0) : IR κ' left cur en clk since seen c0 :=
  ⟨hm.old, hm.sc, hm.sk, let ⟨l, h1, h2⟩ := hm.left; ⟨l, h1, h2.mono h⟩, by
    have := hm.cur
    cases cur with
    | none => trivial
    | some p => obtain ⟨x, a, s, b, c, d, e⟩ := this; exact ⟨x, a, s, b, c, d.mono h, e.mono h⟩⟩

/-- What a block says of an object. -/
def BR (κ : Cx) (c z : Nat) : ABlk → Obj → Prop
  | .cells e cs, o => ∃ arr ty, o = .cells arr ty (0, 0) ∧ cs.length ≤ arr.size ∧ c * z ≤ arr.size ∧ (∀ (j : Nat) (h : j < cs.length), VR κ (cs[j]) (arr.getD j undef)) ∧ (∀ j, j < cs.length → (arr.getD j undef).oneCell' = true) ∧ (e % 64 = 0 ∨ e % 64 = z)
  | .amap es, o => ∃ en clk, o = .map en clk ∧ MR κ es en clk
  | .iter _ _ _, o => ∃ m s a q, o = .mapIter m s a q
  | .loop st pend ps asg body env n, o => ∃ r : Loop, o = .loop r ∧ r.state = st ∧ r.pending = pend ∧ r.params = ps ∧ r.assign = asg ∧ r.body = body ∧ ER κ env r.tmps ∧ r.tmps.size = n
theorem BR.mono {κ κ' : Cx} (h : κ.le κ') {c z : Nat} {x : ABlk} {o : Obj} (hb : BR κ c z x o) : BR κ' c z x o := by
  cases x with
  | cells e cs => obtain ⟨arr, ty, h1, h2, h3, h4, h5⟩ := hb; exact ⟨arr, ty, h1, h2, h3, fun j hj => (h4 j hj).mono h, h5⟩
  | amap es => obtain ⟨en, clk, h1, h2⟩ := hb; exact ⟨en, clk, h1, h2.mono h⟩
  | iter mb l q => exact hb
  | loop st pend ps asg body env n => obtain ⟨r, h1, h2, h3, h4, h5, h6, h7, h8⟩ := hb; exact ⟨r, h1, h2, h3, h4, h5, h6, h7.mono h, h8⟩

/-- The abstract memory: blocks that may be written, and how long what may be appended to is (in cells, with an element's size). -/
structure AMem where
  H : List ABlk
  T : List (Nat × (Nat × Nat))

/-- Where the abstract memory lies. -/
structure Inj where
  h : Nat → Nat
  c : Nat → Nat
  z : Nat → Nat
  tb : Nat → Option Nat
  tc : Nat → Nat

structure Ghost where
  bad : Nat → Nat → Prop
  lo : Nat
  S : AMem
  ι : Inj
  w : World

/-- A token's own room: behind its tip. -/
def Ghost.tokOwns (γ : Ghost) (t g : Nat) : Prop := ∃ tp sz, γ.S.T[t]? = some (tp, sz) ∧ γ.ι.tb t = some g ∧ tp < γ.ι.tc t * sz.1

def Ghost.blkOwns (γ : Ghost) (b g : Nat) : Prop := b < γ.S.H.length ∧ γ.ι.h b = g

def Ghost.owns (γ : Ghost) (g : Nat) : Prop := (∃ b, γ.blkOwns b g) ∨ ∃ t, γ.tokOwns t g

def Ghost.cell (γ : Ghost) (g o : Nat) (v : Value) : Prop :=
  γ.w.cell? ⟨g, o, none⟩ = some v ∧ v.oneCell' = true ∧ ¬ γ.bad g o ∧ (∀ b, ¬ γ.blkOwns b g) ∧ ∀ t, γ.tokOwns t g → ∃ tp sz, γ.S.T[t]? = some (tp, sz) ∧ o < tp

def ABlk.ep : ABlk → Nat
  | .cells e _ => e
  | _ => 0

/-- A row of cells of this type, laid since the walk began. -/
def Ghost.own (γ : Ghost) (g : Nat) (t : TypeId) (n : Nat) : Prop := γ.lo ≤ g ∧ ∃ arr fz, γ.w.heap[g]? = some (.cells arr t fz) ∧ n ≤ arr.size

def Ghost.cx (γ : Ghost) : Cx where
  cell := γ.cell
  blk b e g c := ∃ x, γ.S.H[b]? = some x ∧ (e ≤ x.ep ∧ (e = 0 → x.ep = 0)) ∧ (e = x.ep → γ.ι.h b = g ∧ γ.ι.c b = c)
  tip t len base cap := ∃ tp sz, γ.S.T[t]? = some (tp, sz) ∧ len ≤ tp ∧ (len = tp → γ.ι.tb t = base ∧ γ.ι.tc t = cap) ∧ (0 < len → ∀ g, base = some g → γ.own g sz.2 0)
  own := γ.own

/-- The abstract memory is what lies in the world. -/
structure Rl (γ : Ghost) : Prop where
  lo : γ.lo ≤ γ.w.heap.size
  bad : ∀ g o, γ.bad g o → g < γ.lo
  objs : ∀ (b : Nat) (x : ABlk), γ.S.H[b]? = some x → ∃ o, γ.w.heap[γ.ι.h b]? = some o ∧ BR γ.cx (γ.ι.c b) (γ.ι.z b) x o
  its : ∀ (b mb : Nat) (left : List (AVal × AVal)) (cur : Option (AVal × AVal)), γ.S.H[b]? = some (.iter mb left cur) → ∃ es en clk since seen c0, γ.S.H[mb]? = some (.amap es) ∧ γ.w.heap[γ.ι.h b]? = some (.mapIter (some (γ.ι.h mb)) since seen c0) ∧
    γ.w.heap[γ.ι.h mb]? = some (.map en clk) ∧ IR γ.cx left cur en clk since seen c0
  toks : ∀ (t g : Nat), γ.tokOwns t g → ∃ arr lo hi tp sz, γ.w.heap[g]? = some (.cells arr sz.2 (lo, hi)) ∧ γ.S.T[t]? = some (tp, sz) ∧ γ.ι.tc t * sz.1 ≤ arr.size ∧ hi ≤ tp
  own : ∀ g, γ.owns g → γ.lo ≤ g ∧ g < γ.w.heap.size
  hh : ∀ b b' g, γ.blkOwns b g → γ.blkOwns b' g → b = b'
  ht : ∀ b t g, γ.blkOwns b g → γ.tokOwns t g → False
  tt : ∀ t t' g, γ.tokOwns t g → γ.tokOwns t' g → t = t'
theorem Rl.cells {γ : Ghost} (hr : Rl γ) (b e : Nat) (cs : List AVal) (hb : γ.S.H[b]? = some (.cells e cs)) : ∃ arr ty, γ.w.heap[γ.ι.h b]? = some (.cells arr ty (0, 0)) ∧ cs.length ≤ arr.size ∧ γ.ι.c b * γ.ι.z b ≤ arr.size ∧
    (∀ (j : Nat) (h : j < cs.length), VR γ.cx (cs[j]) (arr.getD j undef)) ∧ ∀ j, j < cs.length → (arr.getD j undef).oneCell' = true := by
  obtain ⟨o, h1, arr, ty, rfl, h2, h3, h4, h5, _⟩ := hr.objs b _ hb
  exact ⟨arr, ty, h1, h2, h3, h4, h5⟩
theorem Rl.zs {γ : Ghost} (hr : Rl γ) (b e : Nat) (cs : List AVal) (hb : γ.S.H[b]? = some (.cells e cs)) : e % 64 = 0 ∨ e % 64 = γ.ι.z b := by
  obtain ⟨o, h1, arr, ty, rfl, h2, h3, h4, h5, h6⟩ := hr.objs b _ hb
  exact h6
theorem Rl.maps {γ : Ghost} (hr : Rl γ) (b : Nat) (es : List (AVal × AVal)) (hb : γ.S.H[b]? = some (.amap es)) : ∃ en clk, γ.w.heap[γ.ι.h b]? = some (.map en clk) ∧ MR γ.cx es en clk := by
  obtain ⟨o, h1, en, clk, rfl, h2⟩ := hr.objs b _ hb
  exact ⟨en, clk, h1, h2⟩
/-- What is not owned stays, but for what is frozen in it. -/
def Keeps (lo : Nat) (w w' : World) (k : Nat) : Prop := w'.heap[k]? = w.heap[k]? ∨ (lo ≤ k ∧ ∃ arr ty f f', w.heap[k]? = some (.cells arr ty f) ∧ w'.heap[k]? = some (.cells arr ty f'))
theorem Keeps.trans {lo : Nat} {a b c : World} {k : Nat} (h : Keeps lo a b k) (g : Keeps lo b c k) : Keeps lo a c k := by
  rcases h with h | ⟨hl, arr, ty, f, f', h1, h2⟩ <;> rcases g with g | ⟨gl, arr', ty', f2, f2', g1, g2⟩
  · exact .inl (g.trans h)
  · exact .inr ⟨gl, arr', ty', f2, f2', by rw [← h]; exact g1, g2⟩
  · exact .inr ⟨hl, arr, ty, f, f', h1, by rw [g]; exact h2⟩
  · rw [h2] at g1
    cases g1
    exact .inr ⟨hl, arr, ty, f, f2', h1, g2⟩
theorem Keeps.same {lo : Nat} {w w' : World} {k : Nat} (h : w'.heap[k]? = w.heap[k]?) : Keeps lo w w' k := .inl h

/-- The world goes on. -/
structure Ext (γ γ' : Ghost) : Prop where
  bad : γ'.bad = γ.bad
  lo : γ'.lo = γ.lo
  size : γ.w.heap.size ≤ γ'.w.heap.size
  os : γ'.w.os = γ.w.os
  tape : γ'.w.tape = γ.w.tape
  output : γ'.w.output = γ.w.output
  cell : ∀ g o v, γ.cell g o v → γ'.cell g o v
  blk : ∀ b e g c, γ.cx.blk b e g c → γ'.cx.blk b e g c
  tip : ∀ t len base cap, γ.cx.tip t len base cap → γ'.cx.tip t len base cap
  own : ∀ g t n, γ.own g t n → γ'.own g t n
  frame : ∀ k, k < γ.w.heap.size → ¬ γ.owns k → Keeps γ.lo γ.w γ'.w k
  owns : ∀ k, γ'.owns k → γ.owns k ∨ γ.w.heap.size ≤ k

theorem Ext.le {γ γ' : Ghost} (h : Ext γ γ') : γ.cx.le γ'.cx := ⟨h.cell, h.blk, h.tip, h.own⟩

theorem Ext.refl (γ : Ghost) : Ext γ γ :=
  ⟨rfl, rfl, Nat.le_refl _, rfl, rfl, rfl, fun _ _ _ h => h, fun _ _ _ _ h => h, fun _ _ _ _ h => h, fun _ _ _ h => h, fun _ _ _ => .inl rfl, fun _ h => .inl h⟩

theorem Ext.trans {a b c : Ghost} (h : Ext a b) (k : Ext b c) : Ext a c where
  bad := k.bad.trans h.bad
  lo := k.lo.trans h.lo
  size := Nat.le_trans h.size k.size
  os := k.os.trans h.os
  tape := k.tape.trans h.tape
  output := k.output.trans h.output
  cell := fun _ _ _ x => k.cell _ _ _ (h.cell _ _ _ x)
  blk := fun _ _ _ _ x => k.blk _ _ _ _ (h.blk _ _ _ _ x)
  tip := fun _ _ _ _ x => k.tip _ _ _ _ (h.tip _ _ _ _ x)
  own := fun _ _ _ x => k.own _ _ _ (h.own _ _ _ x)
  frame := fun i hi ho => by
    have h2 := k.frame i (Nat.lt_of_lt_of_le hi h.size) (fun hb => by rcases h.owns i hb with h1 | h1; exact ho h1; omega)
    rw [h.lo] at h2
    exact (h.frame i hi ho).trans h2
  owns := fun i hi => by
    rcases k.owns i hi with h1 | h1
    · exact h.owns i h1
    · exact .inr (Nat.le_trans h.size h1)

/-- The same, where no more than the first blocks and tokens still count. -/
structure ExtN (hk tk : Nat) (γ γ' : Ghost) : Prop where
  bad : γ'.bad = γ.bad
  lo : γ'.lo = γ.lo
  size : γ.w.heap.size ≤ γ'.w.heap.size
  os : γ'.w.os = γ.w.os
  tape : γ'.w.tape = γ.w.tape
  output : γ'.w.output = γ.w.output
  cell : ∀ g o v, γ.cell g o v → γ'.cell g o v
  blk : ∀ b e g c, b < hk → γ.cx.blk b e g c → γ'.cx.blk b e g c
  tip : ∀ t len base cap, t < tk → γ.cx.tip t len base cap → γ'.cx.tip t len base cap
  own : ∀ g t n, γ.own g t n → γ'.own g t n
  frame : ∀ k, k < γ.w.heap.size → ¬ γ.owns k → Keeps γ.lo γ.w γ'.w k
  owns : ∀ k, γ'.owns k → γ.owns k ∨ γ.w.heap.size ≤ k

theorem Ext.toN {γ γ' : Ghost} (h : Ext γ γ') {hk tk : Nat} : ExtN hk tk γ γ' :=
  ⟨h.bad, h.lo, h.size, h.os, h.tape, h.output, h.cell, fun _ _ _ _ _ x => h.blk _ _ _ _ x, fun _ _ _ _ _ x => h.tip _ _ _ _ x, h.own, h.frame, h.owns⟩
theorem ExtN.refl {hk tk : Nat} (γ : Ghost) : ExtN hk tk γ γ := (Ext.refl γ).toN
theorem ExtN.trans {hk tk : Nat} {a b c : Ghost} (h : ExtN hk tk a b) (k : ExtN hk tk b c) : ExtN hk tk a c where
  bad := k.bad.trans h.bad
  lo := k.lo.trans h.lo
  size := Nat.le_trans h.size k.size
  os := k.os.trans h.os
  tape := k.tape.trans h.tape
  output := k.output.trans h.output
  cell := fun _ _ _ x => k.cell _ _ _ (h.cell _ _ _ x)
  blk := fun _ _ _ _ hb x => k.blk _ _ _ _ hb (h.blk _ _ _ _ hb x)
  tip := fun _ _ _ _ ht x => k.tip _ _ _ _ ht (h.tip _ _ _ _ ht x)
  own := fun _ _ _ x => k.own _ _ _ (h.own _ _ _ x)
  frame := fun i hi ho => by
    have h2 := k.frame i (Nat.lt_of_lt_of_le hi h.size) (fun hb => by rcases h.owns i hb with h1 | h1; exact ho h1; omega)
    rw [h.lo] at h2
    exact (h.frame i hi ho).trans h2
  owns := fun i hi => by
    rcases k.owns i hi with h1 | h1
    · exact h.owns i h1
    · exact .inr (Nat.le_trans h.size h1)
theorem ExtN.full {γ γ' : Ghost} (h : ExtN γ.S.H.length γ.S.T.length γ γ') : Ext γ γ' :=
  ⟨h.bad, h.lo, h.size, h.os, h.tape, h.output, h.cell,
    fun b e g c x => h.blk b e g c (by obtain ⟨y, hy, _⟩ := x; exact (List.getElem?_eq_some_iff.1 hy).1) x,
    fun t len base cap x => h.tip t len base cap (by obtain ⟨tp, sz, hy, _⟩ := x; exact (List.getElem?_eq_some_iff.1 hy).1) x, h.own, h.frame, h.owns⟩

theorem VR.ext {γ γ' : Ghost} (h : Ext γ γ') {a : AVal} {v : Value} (hv : VR γ.cx a v) : VR γ'.cx a v := hv.mono h.le

structure St where
  env : List (Nat × AVal)
  m : AMem

theorem ER.put {κ : Cx} {env : List (Nat × AVal)} {tmps : Array Value} (he : ER κ env tmps) {d : Nat} (hd : d < tmps.size) {a : AVal} {v : Value} (hv : VR κ a v) : ER κ ((d, a) :: env) (tmps.setIfInBounds d v) := by
  intro t
  simp only [lk]
  by_cases h : d = t
  · subst h
    rw [if_pos rfl]
    simpa [Array.getD, hd] using hv
  · rw [if_neg h]
    have := he t
    simp only [Array.getD_eq_getD_getElem?, Array.getElem?_setIfInBounds_ne h] at this ⊢
    exact this

end Go.Hk
/- The operations that touch no memory: what they give for abstract values, and that the machine gives the same. -/
namespace Go.Hk

def ofVal1 : Value → AVal
  | .bool b => .bool b
  | .int k n => .int k n
  | .string s => .str s.data.toList
  | .pointer none => .nilp
  | .slice none 0 0 => .sl .nil 0 []
  | .map none => .nilm
  | .nilFunc => .nilf
  | .nilIface => .nili
  | _ => .dead

/-- A constant's abstract value. -/
def ofVal : Value → AVal
  | .agg cs => if cs.toList.all (·.oneCell') then .agg (cs.toList.map ofVal1) else .dead
  | .tuple vs => if vs.isEmpty then .undef else .dead
  | v => ofVal1 v

theorem VR.ofVal1 (κ : Cx) (v : Value) : VR κ (ofVal1 v) v := by
  cases v with
  | bool b => exact .bool b
  | int k n => exact .int k n
  | string s => exact .str s.data.toList
  | pointer a => cases a with
    | none => exact .nilp
    | some a => exact .dead _
  | slice a l c =>
    cases a with
    | some a => exact .dead _
    | none =>
      cases l with
      | succ l => exact .dead _
      | zero => cases c with
        | succ c => exact .dead _
        | zero => exact .slnil .nil ⟨rfl, rfl⟩
  | map r => cases r with
    | none => exact .nilm
    | some a => exact .dead _
  | nilFunc => exact .nilf
  | nilIface => exact .nili
  | _ => exact .dead _

theorem VR.ofVal (κ : Cx) (v : Value) : VR κ (Hk.ofVal v) v := by
  cases v with
  | agg cs =>
    simp only [Hk.ofVal]
    split
    · rename_i hall
      refine .agg _ _ (by simp) (fun j h => ?_) (fun j h => ?_)
      · simp only [List.length_map, Array.length_toList] at h
        simp only [List.getElem_map, Array.getElem_toList, Array.getD, h, dif_pos]
        exact VR.ofVal1 κ _
      · simp only [List.length_map, Array.length_toList] at h
        simp only [Array.getD, h, dif_pos]
        exact List.all_eq_true.1 hall _ (by simp)
    · exact .dead _
  | tuple vs =>
    simp only [Hk.ofVal]
    split
    · rename_i h
      have : vs = #[] := by simpa using h
      subst this
      exact .undef
    · exact .dead _
  | bool b => exact VR.ofVal1 κ (.bool b)
  | int k n => exact VR.ofVal1 κ (.int k n)
  | string s => exact VR.ofVal1 κ (.string s)
  | pointer a => exact VR.ofVal1 κ (.pointer a)
  | slice a l c => exact VR.ofVal1 κ (.slice a l c)
  | map r => exact VR.ofVal1 κ (.map r)
  | nilFunc => exact VR.ofVal1 κ .nilFunc
  | nilIface => exact VR.ofVal1 κ .nilIface
  | _ => exact .dead _

def ev (env : List (Nat × AVal)) : Operand → AVal
  | .tmp t => lk env t
  | .const v => ofVal v
  | .global _ => .dead
  | .func f => .fn f [] []

theorem ER.ev {κ : Cx} {env : List (Nat × AVal)} {a : Act} (he : ER κ env a.tmps) (x : Operand) : VR κ (Hk.ev env x) (a.eval x) := by
  cases x with
  | tmp t => exact he t
  | const v => exact VR.ofVal κ v
  | global g => exact .dead _
  | func f => exact .fn f [] [] #[] #[] rfl rfl (fun j h => absurd h (Nat.not_lt_zero j)) (fun j h => absurd h (Nat.not_lt_zero j))

/-! ### Types -/

inductive TK where
  | int (k : IntKind)
  | bool
  | str
  | slice (e : TypeId)
  | arr (n : Nat) (e : TypeId)
  | struct (fs : List (Bool × TypeId × Nat))
  | map (k e : TypeId)
  | ptr (e : TypeId)
  | func
  | iface
  | other

structure TI where
  size : Nat
  bytes : Nat
  zero : Option AVal
  k : TK

def tkOf : TypeDesc → TK
  | .int k => .int k
  | .bool => .bool
  | .string => .str
  | .slice e => .slice e
  | .array n e => .arr n e
  | .struct fs => .struct (fs.toList.map fun f => (f.name != "_", f.type, f.offset))
  | .map k e => .map k e
  | .pointer e => .ptr e
  | .func _ _ _ => .func
  | .interface _ => .iface
  | _ => .other

def tiOf (P : Program) (t : TypeId) : Option TI :=
  match P.info? t, P.underlying t with
  | some i, some d => some { size := i.size, bytes := i.bytes, zero := i.zero.map ofVal, k := tkOf d }
  | _, _ => none

structure TIs (P : Program) (t : TypeId) (I : TI) (i : TypeInfo) (d : TypeDesc) : Prop where
  info : P.info? t = some i
  under : P.underlying t = some d
  size : I.size = i.size
  bytes : I.bytes = i.bytes
  zero : I.zero = i.zero.map ofVal
  k : I.k = tkOf d

theorem tiOf_spec {P : Program} {t : TypeId} {I : TI} (h : tiOf P t = some I) : ∃ i d, TIs P t I i d := by
  unfold tiOf at h
  split at h
  · rename_i i d h1 h2
    simp only [Option.some.injEq] at h
    subst h
    exact ⟨i, d, h1, h2, rfl, rfl, rfl, rfl⟩
  · cases h

theorem tk_int {d : TypeDesc} {k : IntKind} (h : TK.int k = tkOf d) : d = .int k := by cases d <;> simp_all [tkOf]
theorem tk_bool {d : TypeDesc} (h : TK.bool = tkOf d) : d = .bool := by cases d <;> simp_all [tkOf]
theorem tk_str {d : TypeDesc} (h : TK.str = tkOf d) : d = .string := by cases d <;> simp_all [tkOf]
theorem tk_slice {d : TypeDesc} {e : TypeId} (h : TK.slice e = tkOf d) : d = .slice e := by cases d <;> simp_all [tkOf]
theorem tk_arr {d : TypeDesc} {n : Nat} {e : TypeId} (h : TK.arr n e = tkOf d) : d = .array n e := by cases d <;> simp_all [tkOf]
theorem tk_map {d : TypeDesc} {k e : TypeId} (h : TK.map k e = tkOf d) : d = .map k e := by cases d <;> simp_all [tkOf]
theorem tk_ptr {d : TypeDesc} {e : TypeId} (h : TK.ptr e = tkOf d) : d = .pointer e := by cases d <;> simp_all [tkOf]
theorem tk_struct {d : TypeDesc} {fs : List (Bool × TypeId × Nat)} (h : TK.struct fs = tkOf d) : ∃ gs, d = .struct gs ∧ fs = gs.toList.map fun f => (f.name != "_", f.type, f.offset) := by
  cases d <;> simp_all [tkOf]

def TK.agg : TK → Bool
  | .arr _ _ | .struct _ => true
  | _ => false

theorem tk_agg (d : TypeDesc) : (tkOf d).agg = (match d with | .struct _ | .array _ _ => true | _ => false) := by cases d <;> rfl

section
variable {P : Program} {t : TypeId} {I : TI} {i : TypeInfo} {d : TypeDesc} (w : World)
theorem TIs.run_under (h : TIs P t I i d) : (underlying t).run P w = .ok d w := run_underlying h.under w
theorem TIs.run_size (h : TIs P t I i d) : (sizeOf t).run P w = .ok I.size w := by simp [sizeOf, typeInfo, h.info, h.size]
theorem TIs.run_info (h : TIs P t I i d) : (typeInfo t).run P w = .ok i w := by simp [typeInfo, h.info]
theorem TIs.run_agg (h : TIs P t I i d) : (isAgg t).run P w = .ok I.k.agg w := by
  unfold isAgg
  rw [Sem.run_bind, h.run_under w, h.k, tk_agg]
  cases d <;> rfl
theorem TIs.run_zero (h : TIs P t I i d) {z : AVal} (hz : I.zero = some z) : ∃ v, (zeroValue t).run P w = .ok v w ∧ i.zero = some v ∧ z = ofVal v := by
  rw [h.zero] at hz
  cases hv : i.zero with
  | none => simp [hv] at hz
  | some v =>
    simp only [hv, Option.map_some, Option.some.injEq] at hz
    exact ⟨v, by simp [zeroValue, typeInfo, h.info, hv], rfl, hz.symm⟩
end

/-! ### Equality -/

def andL : List (Option Bool) → Option Bool
  | [] => some true
  | some b :: r => match andL r with
    | some c => some (b && c)
    | none => none
  | none :: _ => none

/-- A part of an aggregate. -/
def apart (P : Program) (t : TypeId) (cs : List AVal) (off : Nat) : Option AVal :=
  match tiOf P t with
  | some I => if I.k.agg then (if off + I.size ≤ cs.length then some (.agg ((cs.drop off).take I.size)) else none) else cs[off]?
  | none => none

def aeq (P : Program) : Nat → TypeId → AVal → AVal → Option Bool
  | 0, _, _, _ => none
  | d + 1, t, x, y =>
    match tiOf P t with
    | none => none
    | some I =>
      match I.k, x, y with
      | .bool, .bool a, .bool b => some (a == b)
      | .int _, .int k a, .int k' b => if k = k' then some (a == b) else none
      | .str, .str a, .str b => some (a == b)
      | .ptr _, .nilp, .nilp => some true
      | .ptr _, .nilp, .ptr _ _ _ => some false
      | .ptr _, .ptr _ _ _, .nilp => some false
      | .ptr _, .nilp, .ipt _ _ => some false
      | .ptr _, .ipt _ _, .nilp => some false
      | .map _ _, .nilm, .nilm => some true
      | .map _ _, .map _, .nilm => some false
      | .map _ _, .nilm, .map _ => some false
      | .func, .nilf, .nilf => some true
      | .func, .fn _ _ _, .nilf => some false
      | .func, .nilf, .fn _ _ _ => some false
      | .struct fs, .agg xs, .agg ys =>
        if P.stoodInHeld t then none else
        andL (fs.map fun f => if f.1 then (match apart P f.2.1 xs f.2.2, apart P f.2.1 ys f.2.2 with
          | some a, some b => aeq P d f.2.1 a b
          | _, _ => none) else some true)
      | .arr n e, .agg xs, .agg ys =>
        match tiOf P e with
        | some E => andL ((List.range n).map fun i => match apart P e xs (i * E.size), apart P e ys (i * E.size) with
          | some a, some b => aeq P d e a b
          | _, _ => none)
        | none => none
      | _, _, _ => none

theorem getD_extract (vs : Array Value) (a n j : Nat) (h : j < n) (ha : a + n ≤ vs.size) : (vs.extract a (a + n)).getD j undef = vs.getD (a + j) undef := by
  simp only [Array.getD_eq_getD_getElem?]
  congr 1
  rw [Array.getElem?_extract]
  simp only [show min (a + n) vs.size = a + n by omega]
  rw [if_pos (by omega)]

theorem apart_sound {P : Program} {κ : Cx} {t : TypeId} {cs : List AVal} {vs : Array Value} {off : Nat} {x : AVal} (w : World) (h : apart P t cs off = some x) (hs : vs.size = cs.length)
    (hv : ∀ (j : Nat) (h : j < cs.length), VR κ (cs[j]) (vs.getD j undef)) (ho : ∀ j, j < cs.length → (vs.getD j undef).oneCell' = true) : ∃ v, (part t vs off).run P w = .ok v w ∧ VR κ x v := by
  unfold apart at h
  cases hI : tiOf P t with
  | none => simp [hI] at h
  | some I =>
    simp only [hI] at h
    obtain ⟨i, d, hi⟩ := tiOf_spec hI
    cases hk : I.k.agg with
    | true =>
      simp only [hk, if_true] at h
      split at h
      · rename_i hle
        simp only [Option.some.injEq] at h
        subst h
        refine ⟨.agg (vs.extract off (off + I.size)), by simp [part, hi.run_agg, hi.run_size, hk], .agg _ _ (by simp; omega) (fun j hj => ?_) (fun j hj => ?_)⟩
        · simp only [List.length_take, List.length_drop] at hj
          rw [getD_extract _ _ _ _ (by omega) (by omega)]
          simp only [List.getElem_take, List.getElem_drop]
          exact hv _ (by omega)
        · simp only [List.length_take, List.length_drop] at hj
          rw [getD_extract _ _ _ _ (by omega) (by omega)]
          exact ho _ (by omega)
      · cases h
    | false =>
      simp only [hk, Bool.false_eq_true, if_false] at h
      obtain ⟨hlt, rfl⟩ := List.getElem?_eq_some_iff.1 h
      have hlt' : off < vs.size := by omega
      refine ⟨vs[off], by simp [part, hi.run_agg, hk, hlt'], ?_⟩
      have := hv off hlt
      simpa [Array.getD, hlt'] using this

theorem andL_cons {x : Option Bool} {r : List (Option Bool)} {b : Bool} (h : andL (x :: r) = some b) : ∃ c e, x = some c ∧ andL r = some e ∧ b = (c && e) := by
  cases x with
  | none => simp [andL] at h
  | some c =>
    cases hr : andL r with
    | none => simp [andL, hr] at h
    | some e => simp [andL, hr] at h; exact ⟨c, e, rfl, rfl, h.symm⟩

theorem run_fields {P : Program} {w : World} (d : Nat) (xs ys : Array Value) (F : Bool × TypeId × Nat → Option Bool)
    (hF : ∀ f b, F f = some b → f.1 = true → ∃ a c, (part f.2.1 xs f.2.2).run P w = .ok a w ∧ (part f.2.1 ys f.2.2).run P w = .ok c w ∧ (Op.equalIn d f.2.1 a c).run P w = .ok b w)
    (hF' : ∀ f b, F f = some b → f.1 = false → b = true) :
    ∀ (l : List Field) (b : Bool), andL (l.map fun f => F (f.name != "_", f.type, f.offset)) = some b → (Op.eqFields d xs ys l).run P w = .ok b w
  | [], b, h => by simp [andL] at h; simp [Op.eqFields, ← h]
  | f :: l, b, h => by
    obtain ⟨c, e, h1, h2, rfl⟩ := andL_cons (by simpa using h)
    have ih := run_fields d xs ys F hF hF' l e (by simpa using h2)
    simp only [Op.eqFields]
    by_cases hn : f.name = "_"
    · have := hF' _ _ h1 (by simp [hn])
      subst this
      simp [hn, ih]
    · obtain ⟨u, v, e1, e2, e3⟩ := hF _ _ h1 (by simp [hn])
      simp only at e1 e2 e3
      simp only [if_pos hn, Sem.run_bind, e1, e2, e3, Result.andThen_ok, ne_eq]
      cases c with
      | false => simp
      | true => simpa using ih

theorem run_equalIn_arr {P : Program} {w : World} {D : Nat} {t e : TypeId} {n sz : Nat} {us vs : Array Value} (ht : P.underlying t = some (.array n e)) (he : (sizeOf e).run P w = .ok sz w) (F : Nat → Option Bool)
    (hF : ∀ i b, F i = some b → ∃ a c, (part e us (i * sz)).run P w = .ok a w ∧ (part e vs (i * sz)).run P w = .ok c w ∧ (Op.equalIn D e a c).run P w = .ok b w)
    {b : Bool} (h : andL ((List.range n).map F) = some b) : (Op.equalIn (D + 1) t (.agg us) (.agg vs)).run P w = .ok b w := by
  simp only [Op.equalIn, Sem.run_bind, run_underlying ht, Result.andThen_ok, he]
  have key : ∀ (l : List Nat) (b : Bool), andL (l.map F) = some b → ∀ (G : Nat → Sem (ForInStep (Option Bool × Unit))), (∀ i, G i = do
        let a ← part e us (i * sz)
        let c ← part e vs (i * sz)
        let q ← Op.equalIn D e a c
        if (!q) = true then pure (ForInStep.done (some false, ())) else pure (ForInStep.yield (none, ()))) →
      ∃ r : Option Bool × Unit, (forIn (m := Sem) l ((none, ()) : Option Bool × Unit) fun i _ => G i).run P w = .ok r w ∧ r.1 = (if b then none else some false) := by
    intro l
    induction l with
    | nil => intro b h G _; exact ⟨(none, ()), rfl, by simp [andL] at h; simp [← h]⟩
    | cons i l ih =>
      intro b h G hG
      obtain ⟨c, f, h1, h2, rfl⟩ := andL_cons (by simpa using h)
      obtain ⟨u, v, e1, e2, e3⟩ := hF i c h1
      simp only [List.forIn_cons, Sem.run_bind, hG i, e1, e2, e3, Result.andThen_ok]
      cases c with
      | false => exact ⟨(some false, ()), by simp, by simp⟩
      | true =>
        obtain ⟨r, hr, hr'⟩ := ih f h2 G hG
        exact ⟨r, by simpa using hr, by simpa using hr'⟩
  obtain ⟨r, hr, hr'⟩ := key (List.range n) b h _ (fun i => rfl)
  have hrg : (forIn (m := Sem) [:n] ((none, ()) : Option Bool × Unit) fun i _ => do
        let a ← part e us (i * sz)
        let c ← part e vs (i * sz)
        let q ← Op.equalIn D e a c
        if (!q) = true then pure (ForInStep.done (some false, ())) else pure (ForInStep.yield (none, ()))).run P w = .ok r w := by
    simp only [Std.Legacy.Range.forIn_eq_forIn_range', Std.Legacy.Range.size, Nat.sub_zero, Nat.add_sub_cancel, Nat.div_one]
    rw [← List.range_eq_range']
    exact hr
  rw [hrg]
  obtain ⟨r1, r2⟩ := r
  simp only at hr'
  subst hr'
  cases b <;> rfl

theorem aeq_sound {P : Program} {κ : Cx} (w : World) : ∀ (d : Nat) (t : TypeId) (x y : AVal) (b : Bool) (u v : Value), aeq P d t x y = some b → VR κ x u → VR κ y v →
    ∀ D, d ≤ D → (Op.equalIn D t u v).run P w = .ok b w := by
  intro d
  induction d with
  | zero => intro t x y b u v h; simp [aeq] at h
  | succ d ih =>
    intro t x y b u v h hu hv D hD
    obtain ⟨D, rfl⟩ : ∃ m, D = m + 1 := ⟨D - 1, by omega⟩
    have hD' : d ≤ D := by omega
    unfold aeq at h
    cases hI : tiOf P t with
    | none => simp [hI] at h
    | some I =>
      simp only [hI] at h
      obtain ⟨i, ds, hi⟩ := tiOf_spec hI
      have hk := hi.k
      cases hkk : I.k with
      | bool =>
        rw [hkk] at hk h
        have := tk_bool hk; subst this
        cases hu <;> cases hv <;> simp only [Option.some.injEq, reduceCtorEq] at h
        subst h
        exact run_equalIn_bool w D t _ _ hi.under
      | int kk =>
        rw [hkk] at hk h
        have := tk_int hk; subst this
        cases hu <;> cases hv <;> simp only [reduceCtorEq] at h
        split at h
        · rename_i e; subst e
          simp only [Option.some.injEq] at h; subst h
          exact run_equalIn_int w D t _ _ _ _ hi.under
        · cases h
      | str =>
        rw [hkk] at hk h
        have := tk_str hk; subst this
        cases hu <;> cases hv <;> simp only [Option.some.injEq, reduceCtorEq] at h
        subst h
        rename_i s1 s2
        have := run_equalIn_string (P := P) w D t ⟨s1.toArray⟩ ⟨s2.toArray⟩ hi.under
        simpa using this
      | ptr e =>
        rw [hkk] at hk h
        have := tk_ptr hk; subst this
        cases hu <;> cases hv <;> simp only [Option.some.injEq, reduceCtorEq] at h <;> subst h <;> simp [Op.equalIn, hi.run_under w]
      | map a e =>
        rw [hkk] at hk h
        have := tk_map hk; subst this
        cases hu <;> cases hv <;> simp only [Option.some.injEq, reduceCtorEq] at h <;> subst h <;> simp [Op.equalIn, hi.run_under w]
      | func =>
        rw [hkk] at hk h
        cases ds <;> simp only [tkOf, reduceCtorEq] at hk
        cases hu <;> cases hv <;> simp only [Option.some.injEq, reduceCtorEq] at h <;> subst h <;> simp [Op.equalIn, hi.run_under w]
      | struct fs =>
        rw [hkk] at hk h
        obtain ⟨gs, rfl, rfl⟩ := tk_struct hk
        cases hu <;> cases hv <;> simp only [reduceCtorEq] at h
        rename_i xs us hus huv huo ys vs hvs hvv hvo
        split at h
        · cases h
        · rename_i hst
          have hf : P.fieldsOf t = gs := by simp [Program.fieldsOf, hi.under]
          rw [run_equalIn_struct w D t us vs (by rw [hf]; exact hi.under) (by simpa using hst), hf]
          rw [List.map_map] at h
          refine run_fields D us vs (fun f => if f.1 = true then (match apart P f.2.1 xs f.2.2, apart P f.2.1 ys f.2.2 with
            | some a, some b => aeq P d f.2.1 a b
            | _, _ => none) else some true) (fun f b hb hf1 => ?_) (fun f b hb hf1 => ?_) gs.toList b h
          · simp only [hf1, if_true] at hb
            split at hb
            · rename_i a c ha hc
              obtain ⟨a', ra, va⟩ := apart_sound w ha hus huv huo
              obtain ⟨c', rc, vc⟩ := apart_sound w hc hvs hvv hvo
              exact ⟨a', c', ra, rc, ih _ _ _ _ _ _ hb va vc D hD'⟩
            · cases hb
          · simp only [hf1, Bool.false_eq_true, if_false, Option.some.injEq] at hb
            exact hb.symm
      | arr n e =>
        rw [hkk] at hk h
        have := tk_arr hk; subst this
        cases hu <;> cases hv <;> simp only [reduceCtorEq] at h
        rename_i xs us hus huv huo ys vs hvs hvv hvo
        cases hE : tiOf P e with
        | none => simp [hE] at h
        | some E =>
          simp only [hE] at h
          obtain ⟨i', d', hi'⟩ := tiOf_spec hE
          refine run_equalIn_arr hi.under (hi'.run_size w) _ (fun i b hb => ?_) h
          split at hb
          · rename_i a c ha hc
            obtain ⟨a', ra, va⟩ := apart_sound w ha hus huv huo
            obtain ⟨c', rc, vc⟩ := apart_sound w hc hvs hvv hvo
            exact ⟨a', c', ra, rc, ih _ _ _ _ _ _ hb va vc D hD'⟩
          · cases hb
      | _ => rw [hkk] at h; simp at h

end Go.Hk
/- The operations that touch no memory, one by one. -/
namespace Go.Hk

def aint (op : BinOp) (k : IntKind) (x : Int) (k' : IntKind) (y : Int) : Option AVal :=
  match op with
  | .shl => if y < 0 then none else some (.int k (k.wrap (x * 2 ^ (min y.toNat k.bits))))
  | .shr => if y < 0 then none else some (.int k (x.fdiv (2 ^ (min y.toNat k.bits))))
  | .add => if k = k' then some (.int k (k.wrap (x + y))) else none
  | .sub => if k = k' then some (.int k (k.wrap (x - y))) else none
  | .mul => if k = k' then some (.int k (k.wrap (x * y))) else none
  | .quo => if k = k' then (if y = 0 then none else some (.int k (k.wrap (x.tdiv y)))) else none
  | .rem => if k = k' then (if y = 0 then none else some (.int k (x.tmod y))) else none
  | .and => if k = k' then some (.int k (bits .and k x y)) else none
  | .or => if k = k' then some (.int k (bits .or k x y)) else none
  | .xor => if k = k' then some (.int k (bits .xor k x y)) else none
  | .andNot => if k = k' then some (.int k (bits .andNot k x y)) else none
  | .eql => if k = k' then some (.bool (x == y)) else none
  | .neq => if k = k' then some (.bool (x != y)) else none
  | .lss => if k = k' then some (.bool (decide (x < y))) else none
  | .leq => if k = k' then some (.bool (decide (x ≤ y))) else none
  | .gtr => if k = k' then some (.bool (decide (y < x))) else none
  | .geq => if k = k' then some (.bool (decide (y ≤ x))) else none

def astr (op : BinOp) (x y : List UInt8) : Option AVal :=
  match op with
  | .add => if x.length + y.length ≤ 9223372036854775807 then some (.str (x ++ y)) else none
  | .eql => some (.bool (x == y))
  | .neq => some (.bool (x != y))
  | .lss => some (.bool (Op.bytesLess x y))
  | .leq => some (.bool (Op.bytesLess x y || x == y))
  | .gtr => some (.bool !(Op.bytesLess x y || x == y))
  | .geq => some (.bool !(Op.bytesLess x y))
  | _ => none

def aEqOp (op : BinOp) (r : Option Bool) : Option AVal :=
  match op with
  | .eql => r.map .bool
  | .neq => r.map fun b => .bool (!b)
  | _ => none

/-- A type of pointers, to what has a layout. -/
def ptrT (P : Program) (t : TypeId) : Bool :=
  match P.underlying t with
  | some (.pointer e) => (P.info? e).isSome
  | _ => false

/-- A pointer to a block of this type, of so many cells at least, may be cast so. -/
def castOK (P : Program) (s d t : TypeId) (n : Nat) : Bool :=
  match P.underlying s, P.underlying d with
  | some (.pointer e), some .unsafePointer => (match P.info? e with | some j => decide (j.size ≠ 0 ∧ 0 < n) | none => false)
  | some .unsafePointer, some (.pointer u) => (P.info? u).isSome && liesAt P P.depth t (n / P.cellsOf t) 0 u 1
  | _, _ => false

def abin (P : Program) (op : BinOp) (t : TypeId) (x y : AVal) : Option AVal :=
  match x with
  | .int k a => (match y with | .int k' b => aint op k a k' b | _ => none)
  | .str a => (match y with | .str b => astr op a b | _ => none)
  | .agg xs => (match y with | .agg ys => if P.eqGuardType P.depth t then none else aEqOp op (aeq P 20 t (.agg xs) (.agg ys)) | _ => none)
  | .bool a => (match y with | .bool b => aEqOp op (aeq P 1 t (.bool a) (.bool b)) | _ => none)
  | .nilp => (match y with | .nilp => aEqOp op (aeq P 1 t .nilp .nilp) | .ptr b e o => aEqOp op (aeq P 1 t .nilp (.ptr b e o)) | .ipt cs o => aEqOp op (aeq P 1 t .nilp (.ipt cs o)) | .tpt _ b _ => aEqOp op (aeq P 1 t .nilp (.ptr b 0 0)) | _ => none)
  | .ptr b e o => (match y with | .nilp => aEqOp op (aeq P 1 t (.ptr b e o) .nilp) | _ => none)
  | .ipt cs o => (match y with | .nilp => aEqOp op (aeq P 1 t (.ipt cs o) .nilp) | _ => none)
  | .tpt _ b _ => (match y with | .nilp => aEqOp op (aeq P 1 t (.ptr b 0 0) .nilp) | .tpt _ b' _ => if b = b' ∧ ptrT P t = true then aEqOp op (some true) else none | _ => none)
  | .nilm => (match y with | .nilm => aEqOp op (aeq P 1 t .nilm .nilm) | .map b => aEqOp op (aeq P 1 t .nilm (.map b)) | _ => none)
  | .map b => (match y with | .nilm => aEqOp op (aeq P 1 t (.map b) .nilm) | _ => none)
  | .nilf => (match y with | .nilf => aEqOp op (aeq P 1 t .nilf .nilf) | .fn f a b => aEqOp op (aeq P 1 t .nilf (.fn f a b)) | _ => none)
  | .fn f a b => (match y with | .nilf => aEqOp op (aeq P 1 t (.fn f a b) .nilf) | _ => none)
  | _ => none

def aun (op : UnOp) (x : AVal) : Option AVal :=
  match op with
  | .not => (match x with | .bool b => some (.bool !b) | _ => none)
  | .neg => (match x with | .int k n => some (.int k (k.wrap (0 - n))) | _ => none)
  | .xor => (match x with | .int k n => some (.int k (bits .xor k (if k.signed then -1 else k.max) n)) | _ => none)
  | _ => none

/-! ### Bytes as cells -/
def bytesOf : List AVal → Option (List UInt8)
  | [] => some []
  | .int .u8 n :: cs => (match bytesOf cs with | some bs => if 0 ≤ n ∧ n < 256 then some (UInt8.ofNat n.toNat :: bs) else none | none => none)
  | _ :: _ => none
def cU (b : UInt8) : List AVal := [.int .u8 b.toNat]
theorem bytesOf_spec : ∀ (cs : List AVal) (bs : List UInt8), bytesOf cs = some bs → cs = bs.map fun b => .int .u8 b.toNat
  | [], bs, h => by simp only [bytesOf, Option.some.injEq] at h; subst h; rfl
  | .int .u8 n :: cs, bs, h => by
    simp only [bytesOf] at h
    split at h
    · rename_i bs' hb
      split at h
      · rename_i hn
        cases h
        have h1 : ((UInt8.ofNat n.toNat).toNat : Int) = n := by
          rw [UInt8.toNat_ofNat']; omega
        simp only [List.map_cons, h1, ← bytesOf_spec cs bs' hb]
      · cases h
    · cases h
  | .dead :: _, _, h => by simp [bytesOf] at h
  | .undef :: _, _, h => by simp [bytesOf] at h
  | .bool _ :: _, _, h => by simp [bytesOf] at h
  | .str _ :: _, _, h => by simp [bytesOf] at h
  | .nilp :: _, _, h => by simp [bytesOf] at h
  | .ptr _ _ _ :: _, _, h => by simp [bytesOf] at h
  | .ipt _ _ :: _, _, h => by simp [bytesOf] at h
  | .sl _ _ _ :: _, _, h => by simp [bytesOf] at h
  | .msl _ _ _ _ _ :: _, _, h => by simp [bytesOf] at h
  | .nilm :: _, _, h => by simp [bytesOf] at h
  | .map _ :: _, _, h => by simp [bytesOf] at h
  | .fn _ _ _ :: _, _, h => by simp [bytesOf] at h
  | .nilf :: _, _, h => by simp [bytesOf] at h
  | .ifc _ _ :: _, _, h => by simp [bytesOf] at h
  | .nili :: _, _, h => by simp [bytesOf] at h
  | .agg _ :: _, _, h => by simp [bytesOf] at h
  | .tup _ _ :: _, _, h => by simp [bytesOf] at h
  | .dpt _ _ :: _, _, h => by simp [bytesOf] at h
  | .tpt _ _ _ :: _, _, h => by simp [bytesOf] at h
  | .int .i8 _ :: _, _, h => by simp [bytesOf] at h
  | .int .i16 _ :: _, _, h => by simp [bytesOf] at h
  | .int .i32 _ :: _, _, h => by simp [bytesOf] at h
  | .int .i64 _ :: _, _, h => by simp [bytesOf] at h
  | .int .u16 _ :: _, _, h => by simp [bytesOf] at h
  | .int .u32 _ :: _, _, h => by simp [bytesOf] at h
  | .int .u64 _ :: _, _, h => by simp [bytesOf] at h
theorem bytesOf_map : ∀ bs : List UInt8, bytesOf (bs.map fun b => .int .u8 b.toNat) = some bs
  | [] => rfl
  | b :: bs => by
    have := b.toNat_lt
    simp only [List.map_cons, bytesOf, bytesOf_map bs]
    rw [if_pos (by omega)]
    simp

def aconv (P : Program) (s d : TypeId) (x : AVal) : Option AVal :=
  match x with
  | .int _ n => (match tiOf P s, tiOf P d with
    | some _, some D => (match D.k with | .int k => some (.int k (k.wrap n)) | _ => none)
    | _, _ => none)
  | .str b => (match tiOf P s, tiOf P d with
    | some _, some D => (match D.k with | .str => some (.str b) | _ => none)
    | _, _ => none)
  | .tpt t b n => if castOK P s d t n = true then some (.tpt t b n) else none
  | .sl _ n cs => (match tiOf P s, tiOf P d with
    | some S, some D => (match S.k, D.k with
      | .slice e, .str => (match tiOf P e with
        | some E => (match E.k with
          | .int .u8 => (match bytesOf cs with | some bs => if n = bs.length then some (.str bs) else none | none => none)
          | _ => none)
        | none => none)
      | _, _ => none)
    | _, _ => none)
  | _ => none

section sound
variable {P : Program} {κ : Cx} (w : World)

theorem aint_sound {op : BinOp} {k k' : IntKind} {x y : Int} {v : AVal} (t : TypeId) (h : aint op k x k' y = some v) :
    ∃ v', (binOp op t (.int k x) (.int k' y)).run P w = .ok v' w ∧ VR κ v v' := by
  cases op <;> simp only [aint] at h
  case shl => 
    split at h
    · cases h
    · rename_i hy
      simp only [Option.some.injEq] at h; subst h
      exact ⟨_, by simp [binOp, Op.shift, hy], .int _ _⟩
  case shr => 
    split at h
    · cases h
    · rename_i hy
      simp only [Option.some.injEq] at h; subst h
      exact ⟨_, by simp [binOp, Op.shift, hy], .int _ _⟩
  case quo =>
    split at h
    · split at h
      · cases h
      · rename_i hk hy; subst hk
        simp only [Option.some.injEq] at h; subst h
        exact ⟨_, by simp [binOp_quo, Op.intDiv, hy], .int _ _⟩
    · cases h
  case rem =>
    split at h
    · split at h
      · cases h
      · rename_i hk hy; subst hk
        simp only [Option.some.injEq] at h; subst h
        exact ⟨_, by simp [binOp_rem, Op.intDiv, hy], .int _ _⟩
    · cases h
  all_goals
    split at h
    · rename_i hk; subst hk
      simp only [Option.some.injEq] at h; subst h
      first
        | exact ⟨_, by simp [binOp_add, Op.intArith], .int _ _⟩
        | exact ⟨_, by simp [binOp_sub, Op.intArith], .int _ _⟩
        | exact ⟨_, by simp [binOp_mul, Op.intArith], .int _ _⟩
        | exact ⟨_, by simp only [binOp_and, intBits_and]; rfl, .int _ _⟩
        | exact ⟨_, by simp only [binOp_or, intBits_or]; rfl, .int _ _⟩
        | exact ⟨_, by simp only [binOp_xor, intBits_xor]; rfl, .int _ _⟩
        | exact ⟨_, by simp only [binOp_andNot, intBits_andNot]; rfl, .int _ _⟩
        | exact ⟨_, by simp [binOp_eql], .bool _⟩
        | exact ⟨_, by simp [binOp_neq], .bool _⟩
        | exact ⟨_, by simp [binOp_lss], .bool _⟩
        | exact ⟨_, by simp [binOp_leq], .bool _⟩
        | exact ⟨_, by simp [binOp_gtr], .bool _⟩
        | exact ⟨_, by simp [binOp_geq], .bool _⟩
    · cases h

theorem astr_sound {op : BinOp} {x y : List UInt8} {v : AVal} (t : TypeId) (h : astr op x y = some v) :
    ∃ v', (binOp op t (.string ⟨x.toArray⟩) (.string ⟨y.toArray⟩)).run P w = .ok v' w ∧ VR κ v v' := by
  have hb : binOp op t (.string ⟨x.toArray⟩) (.string ⟨y.toArray⟩) = Op.stringOp op ⟨x.toArray⟩ ⟨y.toArray⟩ := by cases op <;> simp [binOp]
  rw [hb]
  cases op <;> first | (have h' : (none : Option AVal) = some v := h; cases h'; done) | simp only [astr] at h
  case add =>
    split at h
    · rename_i hle
      simp only [Option.some.injEq] at h; subst h
      refine ⟨.string ⟨(x ++ y).toArray⟩, ?_, .str _⟩
      have h1 : (ByteArray.mk x.toArray).size = x.length := by simp [ByteArray.size]
      have h2 : (ByteArray.mk y.toArray).size = y.length := by simp [ByteArray.size]
      have h3 : (ByteArray.mk x.toArray ++ ByteArray.mk y.toArray) = ByteArray.mk (x ++ y).toArray := by
        apply ByteArray.ext
        simp
      simp only [Op.stringOp, h1, h2, h3, IntKind.max_i64]
      rw [if_neg (by omega)]
      rfl
    · cases h
  all_goals
    simp only [Option.some.injEq] at h; subst h
    exact ⟨_, by simp [Op.stringOp, bne], .bool _⟩

theorem aEqOp_sound {op : BinOp} {t : TypeId} {d : Nat} {x y v : AVal} {u u' : Value} (hd : d ≤ 10000) (h : aEqOp op (aeq P d t x y) = some v) (hx : VR κ x u) (hy : VR κ y u')
    (h1 : binOp .eql t u u' = (do pure (.bool (← Op.equal t u u')))) (h2 : binOp .neq t u u' = (do pure (.bool (!(← Op.equal t u u'))))) :
    ∃ v', (binOp op t u u').run P w = .ok v' w ∧ VR κ v v' := by
  cases op <;> first | (have h' : (none : Option AVal) = some v := h; cases h'; done) | simp only [aEqOp] at h
  all_goals
    obtain ⟨b, hb, rfl⟩ := Option.map_eq_some_iff.1 h
    have := aeq_sound w d t x y b u u' hb hx hy 10000 hd
    first
      | exact ⟨.bool b, by rw [h1]; simp [Op.equal, Op.maxDepth, this], .bool _⟩
      | exact ⟨.bool (!b), by rw [h2]; simp [Op.equal, Op.maxDepth, this], .bool _⟩

/-- A block that never grows lies at one place. -/
def Cx.one (κ : Cx) : Prop := ∀ b g g' c c', κ.blk b 0 g c → κ.blk b 0 g' c' → g = g'

theorem abin_sound (hκ : κ.one) {op : BinOp} {t : TypeId} {x y v : AVal} {u u' : Value} (a b : Operand) (h : abin P op t x y = some v) (hx : VR κ x u) (hy : VR κ y u') :
    ∃ v', (do eqGuard op t a b u u'; binOp op t u u' : Sem Value).run P w = .ok v' w ∧ VR κ v v' := by
  have guard : ∀ (z : Sem Unit), eqGuard op t a b u u' = pure () → ∀ {v'}, (binOp op t u u').run P w = .ok v' w → (do eqGuard op t a b u u'; binOp op t u u' : Sem Value).run P w = .ok v' w := by
    intro _ hg v' hr
    rw [hg]
    simpa using hr
  cases x <;> simp only [abin] at h
  case int k n =>
    cases y <;> simp only [reduceCtorEq] at h
    cases hx; cases hy
    obtain ⟨v', h1, h2⟩ := aint_sound (κ := κ) (P := P) w t h
    exact ⟨v', guard (pure ()) (by simp [eqGuard_at_int]) h1, h2⟩
  case str s =>
    cases y <;> simp only [reduceCtorEq] at h
    cases hx; cases hy
    obtain ⟨v', h1, h2⟩ := astr_sound (κ := κ) (P := P) w t h
    exact ⟨v', guard (pure ()) (by simp [eqGuard_at_string]) h1, h2⟩
  case agg xs =>
    cases y <;> simp only [reduceCtorEq] at h
    split at h
    · cases h
    · rename_i hg
      have hx' := hx; have hy' := hy
      cases hx; cases hy
      obtain ⟨v', h1, h2⟩ := aEqOp_sound w (by omega) h hx' hy' rfl rfl
      refine ⟨v', ?_, h2⟩
      rw [Sem.run_bind, run_eqGuard_agg w op t a b _ _ (by simpa using hg)]
      exact h1
  case bool c =>
    cases y <;> simp only [reduceCtorEq] at h
    have hx' := hx; have hy' := hy
    cases hx; cases hy
    obtain ⟨v', h1, h2⟩ := aEqOp_sound w (by omega) h hx' hy' rfl rfl
    exact ⟨v', guard (pure ()) (by simp [eqGuard_at_bool]) h1, h2⟩
  case nilp =>
    cases y <;> simp only [reduceCtorEq] at h
    case tpt =>
      have hx' := hx
      cases hx; cases hy
      rename_i hb _
      obtain ⟨v', h1, h2⟩ := aEqOp_sound w (by omega) h hx' (.ptr _ 0 0 _ _ hb) rfl rfl
      exact ⟨v', guard (pure ()) (by simp [eqGuard_at_pointer]) h1, h2⟩
    all_goals
      have hx' := hx; have hy' := hy
      cases hx; cases hy
      obtain ⟨v', h1, h2⟩ := aEqOp_sound w (by omega) h hx' hy' rfl rfl
      exact ⟨v', guard (pure ()) (by simp [eqGuard_at_pointer]) h1, h2⟩
  case tpt =>
    cases y <;> simp only [reduceCtorEq] at h
    case nilp =>
      have hy' := hy
      cases hx; cases hy
      rename_i hb _
      obtain ⟨v', h1, h2⟩ := aEqOp_sound w (by omega) h (.ptr _ 0 0 _ _ hb) hy' rfl rfl
      exact ⟨v', guard (pure ()) (by simp [eqGuard_at_pointer]) h1, h2⟩
    case tpt =>
      split at h
      case isFalse => cases h
      rename_i hc
      obtain ⟨rfl, hp⟩ := hc
      cases hx with
      | tpt _ _ _ g c hb _ =>
        cases hy with
        | tpt _ _ _ g' c' hb' _ =>
          have := hκ _ _ _ _ _ hb hb'
          subst this
          unfold ptrT at hp
          split at hp
          case h_2 => cases hp
          rename_i e he
          obtain ⟨j, hj⟩ := Option.isSome_iff_exists.1 hp
          cases op <;> simp only [aEqOp, Option.map_some, Option.some.injEq, reduceCtorEq] at h
          · subst h
            exact ⟨.bool true, guard (pure ()) (by simp [eqGuard_at_pointer]) (run_eql_ptr_same w _ he hj), .bool _⟩
          · subst h
            exact ⟨.bool false, guard (pure ()) (by simp [eqGuard_at_pointer]) (Lib.run_neq_ptr_same w _ he hj), .bool _⟩
  case ptr =>
    cases y <;> simp only [reduceCtorEq] at h
    have hx' := hx; have hy' := hy
    cases hx; cases hy
    obtain ⟨v', h1, h2⟩ := aEqOp_sound w (by omega) h hx' hy' rfl rfl
    exact ⟨v', guard (pure ()) (by simp [eqGuard_at_pointer]) h1, h2⟩
  case ipt =>
    cases y <;> simp only [reduceCtorEq] at h
    have hx' := hx; have hy' := hy
    cases hx; cases hy
    obtain ⟨v', h1, h2⟩ := aEqOp_sound w (by omega) h hx' hy' rfl rfl
    exact ⟨v', guard (pure ()) (by simp [eqGuard_at_pointer]) h1, h2⟩
  case nilm =>
    cases y <;> simp only [reduceCtorEq] at h
    all_goals
      have hx' := hx; have hy' := hy
      cases hx; cases hy
      obtain ⟨v', h1, h2⟩ := aEqOp_sound w (by omega) h hx' hy' rfl rfl
      exact ⟨v', guard (pure ()) (by simp [eqGuard_at_map]) h1, h2⟩
  case map =>
    cases y <;> simp only [reduceCtorEq] at h
    have hx' := hx; have hy' := hy
    cases hx; cases hy
    obtain ⟨v', h1, h2⟩ := aEqOp_sound w (by omega) h hx' hy' rfl rfl
    exact ⟨v', guard (pure ()) (by simp [eqGuard_at_map]) h1, h2⟩
  case nilf =>
    cases y <;> simp only [reduceCtorEq] at h
    all_goals
      have hx' := hx; have hy' := hy
      cases hx; cases hy
      obtain ⟨v', h1, h2⟩ := aEqOp_sound w (by omega) h hx' hy' rfl rfl
      exact ⟨v', guard (pure ()) (by simp [eqGuard_at_nilFunc]) h1, h2⟩
  case fn =>
    cases y <;> simp only [reduceCtorEq] at h
    have hx' := hx; have hy' := hy
    cases hx; cases hy
    obtain ⟨v', h1, h2⟩ := aEqOp_sound w (by omega) h hx' hy' rfl rfl
    exact ⟨v', guard (pure ()) (by simp [eqGuard_at_func]) h1, h2⟩
  all_goals cases h

theorem aun_sound {op : UnOp} {x v : AVal} {u : Value} (h : aun op x = some v) (hx : VR κ x u) : ∃ v', (Op.unary op u).run P w = .ok v' w ∧ VR κ v v' := by
  cases op <;> first | (have h' : (none : Option AVal) = some v := h; cases h'; done) | simp only [aun] at h
  all_goals (cases x <;> simp only [reduceCtorEq] at h; cases hx; simp only [Option.some.injEq] at h; subst h)
  · exact ⟨_, by simp [Op.unary, Op.intArith], .int _ _⟩
  · exact ⟨_, by simp only [Op.unary, intBits_xor]; rfl, .int _ _⟩
  · exact ⟨_, by simp [Op.unary], .bool _⟩

theorem rowAt_mono' {p : Program} {fits : TypeId → Bool} {d : Nat} {e : TypeId} {c c' off n : Nat} (hc : c ≤ c') (h : rowAt p fits d e c off n = true) : rowAt p fits d e c' off n = true := by
  cases d with
  | zero => simp [rowAt] at h
  | succ d =>
    simp only [rowAt] at h ⊢
    split at h
    · cases h
    · rename_i hs
      rw [if_neg hs]
      simp only [Bool.or_eq_true, Bool.and_eq_true, decide_eq_true_eq] at h ⊢
      rcases h with ⟨⟨h1, h2⟩, h3⟩ | ⟨h1, h2⟩
      · exact .inl ⟨⟨h1, by omega⟩, h3⟩
      · exact .inr ⟨by omega, h2⟩
theorem liesAt_mono {p : Program} {c c' : Nat} (hc : c ≤ c') : ∀ (d : Nat) (e : TypeId) (off : Nat) (u : TypeId) (n : Nat), liesAt p d e c off u n = true → liesAt p d e c' off u n = true
  | 0, _, _, _, _, h => by simp [liesAt] at h
  | d + 1, e, off, u, n, h => by
    simp only [liesAt, Bool.or_eq_true] at h ⊢
    rcases h with h | h
    · exact .inl (rowAt_mono' hc h)
    · refine .inr ?_
      split at h
      · exact liesAt_mono hc d e off _ _ h
      · cases h

/-- What lies behind what a pointer to a row of cells says. -/
def Cx.lies (κ : Cx) (w : World) : Prop := ∀ g t n, κ.own g t n → ∃ c, w.shape? g = some (t, c) ∧ n ≤ c

/-- What cells say is what the world holds. -/
def Cx.reads (κ : Cx) (w : World) : Prop := ∀ g o v, κ.cell g o v → w.cell? ⟨g, o, none⟩ = some v
theorem nums_str (bs : List UInt8) : strOfNums (bs.map fun b => ((b.toNat : Nat) : Int)) = ⟨bs.toArray⟩ := by
  simp [strOfNums, Function.comp_def]
theorem aconv_sound (hrd : κ.reads w) (hw : κ.lies w) {s d : TypeId} {x v : AVal} {u : Value} (h : aconv P s d x = some v) (hx : VR κ x u) : ∃ v', (convert s d u).run P w = .ok v' w ∧ VR κ v v' := by
  cases x <;> simp only [aconv, reduceCtorEq] at h
  case int k n =>
    cases hS : tiOf P s with
    | none => simp [hS] at h
    | some S =>
      cases hD : tiOf P d with
      | none => simp [hS, hD] at h
      | some D =>
        obtain ⟨i1, d1, h1⟩ := tiOf_spec hS
        obtain ⟨i2, d2, h2⟩ := tiOf_spec hD
        simp only [hS, hD] at h
        have hk := h2.k
        cases hkk : D.k <;> simp only [hkk, reduceCtorEq] at h
        rw [hkk] at hk
        have := tk_int hk; subst this
        simp only [Option.some.injEq] at h; subst h
        cases hx
        exact ⟨_, by simp [convert, h1.run_under w, h2.run_under w, Conv.intToInt], .int _ _⟩
  case str b =>
    cases hS : tiOf P s with
    | none => simp [hS] at h
    | some S =>
      cases hD : tiOf P d with
      | none => simp [hS, hD] at h
      | some D =>
        obtain ⟨i1, d1, h1⟩ := tiOf_spec hS
        obtain ⟨i2, d2, h2⟩ := tiOf_spec hD
        simp only [hS, hD] at h
        have hk := h2.k
        cases hkk : D.k <;> simp only [hkk, reduceCtorEq] at h
        rw [hkk] at hk
        have := tk_str hk; subst this
        simp only [Option.some.injEq] at h; subst h
        cases hx
        exact ⟨_, by simp [convert, h1.run_under w, h2.run_under w], .str _⟩
  case tpt t b n =>
    split at h
    case isFalse => cases h
    rename_i hc
    simp only [Option.some.injEq] at h; subst h
    have hx0 := hx
    cases hx with
    | tpt _ _ _ g c hb ho =>
      obtain ⟨q, hsh, hq⟩ := hw _ _ _ ho
      unfold castOK at hc
      split at hc
      · rename_i e hs hd
        split at hc
        · rename_i j hj
          simp only [decide_eq_true_eq] at hc
          exact ⟨_, Lib.run_to_unsafe (P := P) w ⟨g, 0, none⟩ hs hd hj hc.1 hsh (by show 0 < q; omega), hx0⟩
        · cases hc
      · rename_i u' hs hd
        simp only [Bool.and_eq_true] at hc
        obtain ⟨j, hj⟩ := Option.isSome_iff_exists.1 hc.1
        exact ⟨_, Lib.run_from_unsafe (P := P) w ⟨g, 0, none⟩ hs hd hj hsh (liesAt_mono (Nat.div_le_div_right hq) _ _ _ _ _ hc.2), hx0⟩
      · cases hc
  case sl r n cs =>
    cases hS : tiOf P s with
    | none => simp [hS] at h
    | some S =>
      cases hD : tiOf P d with
      | none => simp [hS, hD] at h
      | some D =>
        obtain ⟨i1, d1, h1⟩ := tiOf_spec hS
        obtain ⟨i2, d2, h2⟩ := tiOf_spec hD
        simp only [hS, hD] at h
        have hk1 := h1.k
        have hk2 := h2.k
        split at h
        case h_2 => cases h
        rename_i e hse hde
        rw [hse] at hk1
        rw [hde] at hk2
        have := tk_slice hk1; subst this
        have := tk_str hk2; subst this
        cases hE : tiOf P e with
        | none => simp [hE] at h
        | some E =>
          obtain ⟨i3, d3, h3⟩ := tiOf_spec hE
          simp only [hE] at h
          split at h
          case h_2 => cases h
          rename_i hek
          have hk3 := h3.k
          rw [hek] at hk3
          have := tk_int hk3; subst this
          split at h
          case h_2 => cases h
          rename_i bs hb
          split at h
          case isFalse => cases h
          rename_i hn
          cases h
          have hcs := bytesOf_spec _ _ hb
          have hlen : cs.length = bs.length := by rw [hcs]; simp
          cases hx with
          | slnil _ hr =>
            have hbs : bs = [] := List.eq_nil_of_length_eq_zero hn.symm
            subst hbs
            exact ⟨_, run_convert_bytes_nil (w := w) s e h1.under h3.under 0 0 d h2.under, .str []⟩
          | slz a cap =>
            have hbs : bs = [] := List.eq_nil_of_length_eq_zero hn.symm
            subst hbs
            refine ⟨_, ?_, .str []⟩
            rw [run_convert_bytes_string w s d e _ _ _ h1.under h3.under h2.under, run_bytesToString w a 0 cap [] (by simp [loadCells, loadCellsFrom, Sem.run_pure])]
            rfl
          | sl _ _ _ g k cap f hle hc hv hr =>
            subst hn
            refine ⟨_, ?_, .str bs⟩
            rw [← nums_str]
            refine run_convert_bytes_arg (w := w) s e h1.under h3.under g k bs.length cap _ (by simp) (fun i hi => ?_) d h2.under
            have hi' : i < cs.length := by omega
            have h4 := hv i hi'
            have h5 := hrd _ _ _ (hc i hi')
            have h6 : cs[i] = .int .u8 ((bs[i].toNat : Nat) : Int) := by simp [hcs]
            rw [h6] at h4
            cases h4' : f i <;> rw [h4'] at h4 <;> cases h4
            rw [h5, h4']
            simp [List.getD, hi]

end sound
end Go.Hk
/- Addresses, parts, slices, structs' values. -/
namespace Go.Hk

def cellsOf : AVal → Option (List AVal)
  | .dead => none
  | .agg cs => some cs
  | .undef => none
  | .tup _ _ => none
  | v => some [v]

def setMany : List AVal → Nat → List AVal → List AVal
  | cs, _, [] => cs
  | cs, o, v :: vs => setMany (cs.set o v) (o + 1) vs

/-- An array that is what a list of cells says. -/
structure AR (κ : Cx) (cs : List AVal) (arr : Array Value) : Prop where
  size : arr.size = cs.length
  vr : ∀ (j : Nat) (h : j < cs.length), VR κ (cs[j]) (arr.getD j undef)
  one : ∀ j, j < cs.length → (arr.getD j undef).oneCell' = true

theorem length_setMany : ∀ (vs cs : List AVal) (o : Nat), (setMany cs o vs).length = cs.length
  | [], _, _ => rfl
  | _ :: vs, cs, o => by rw [setMany, length_setMany vs]; simp

theorem AR.set {κ : Cx} {cs : List AVal} {arr : Array Value} (h : AR κ cs arr) {o : Nat} {a : AVal} {v : Value} (hv : VR κ a v) (h1 : v.oneCell' = true) : AR κ (cs.set o a) (arr.setIfInBounds o v) := by
  have hs := h.size
  refine ⟨by simp [hs], fun j hj => ?_, fun j hj => ?_⟩
  · have hj' : j < cs.length := by simpa using hj
    by_cases he : o = j
    · subst he
      simp [Array.getD, hs, hj']
      exact hv
    · have := h.vr j hj'
      simp only [Array.getD_eq_getD_getElem?, Array.getElem?_setIfInBounds_ne he, List.getElem_set_ne he] at this ⊢
      exact this
  · have hj' : j < cs.length := by simpa using hj
    by_cases he : o = j
    · subst he
      simp [Array.getD, hs, hj']
      exact h1
    · have := h.one j hj'
      simp only [Array.getD_eq_getD_getElem?, Array.getElem?_setIfInBounds_ne he] at this ⊢
      exact this

theorem AR.mono {κ κ' : Cx} (hl : κ.le κ') {cs : List AVal} {arr : Array Value} (h : AR κ cs arr) : AR κ' cs arr := ⟨h.size, fun j hj => (h.vr j hj).mono hl, h.one⟩

theorem AR.single {κ : Cx} {a : AVal} {v : Value} (h : VR κ a v) (ho : v.oneCell' = true) : AR κ [a] #[v] :=
  ⟨rfl, fun j hj => by have : j = 0 := by simpa using hj
                       subst this; exact h, fun j hj => by have : j = 0 := by simpa using hj
                                                           subst this; exact ho⟩

theorem VR.cells {κ : Cx} {a : AVal} {v : Value} (h : VR κ a v) {cs : List AVal} (hc : cellsOf a = some cs) : AR κ cs v.cells := by
  have h' := h
  cases h <;> simp only [cellsOf, reduceCtorEq, Option.some.injEq] at hc <;> subst hc <;> first | exact AR.single h' rfl | (rename_i hs hv ho; exact ⟨hs, hv, ho⟩)

/-! ### Structs and arrays built -/

def afill (place : Nat → Option (Nat × Nat)) : List AVal → List (Nat × AVal) → Option (List AVal)
  | cells, [] => some cells
  | cells, (i, v) :: rest =>
    match place i, cellsOf v with
    | some (off, size), some vs => if vs.length = size ∧ off + vs.length ≤ cells.length then afill place (setMany cells off vs) rest else none
    | _, _ => none

theorem foldl_set {κ : Cx} (off : Nat) : ∀ (vs : List AVal) (ws : List Value) (j : Nat) (cs : List AVal) (arr : Array Value), ws.length = vs.length →
    (∀ (i : Nat) (h : i < vs.length), VR κ (vs[i]) (ws.getD i undef)) → (∀ i, i < vs.length → (ws.getD i undef).oneCell' = true) → AR κ cs arr →
    AR κ (setMany cs (off + j) vs) ((ws.zipIdx j).foldl (fun cs (p : Value × Nat) => cs.setIfInBounds (off + p.2) p.1) arr)
  | [], ws, j, cs, arr, hl, _, _, h => by
    cases ws with
    | nil => exact h
    | cons => simp at hl
  | v :: vs, [], j, cs, arr, hl, _, _, h => by simp at hl
  | v :: vs, u :: us, j, cs, arr, hl, hv, ho, h => by
    simp only [List.zipIdx_cons, List.foldl_cons, setMany]
    exact foldl_set off vs us (j + 1) _ _ (by simpa using hl) (fun i hi => hv (i + 1) (Nat.succ_lt_succ hi)) (fun i hi => ho (i + 1) (Nat.succ_lt_succ hi)) (h.set (hv 0 (Nat.zero_lt_succ _)) (ho 0 (Nat.zero_lt_succ _)))

theorem afill_sound {κ : Cx} {place : Nat → Option (Nat × Nat)} : ∀ (parts : List (Nat × AVal)) (ws : List (Nat × Value)) (cs : List AVal) (arr : Array Value) (out : List AVal),
    ws.length = parts.length → (∀ (i : Nat) (h : i < parts.length), ∃ v, ws[i]? = some ((parts[i]).1, v) ∧ VR κ (parts[i]).2 v) → AR κ cs arr → afill place cs parts = some out →
    ∃ arr', Instr.fill place arr ws = some arr' ∧ AR κ out arr'
  | [], ws, cs, arr, out, hl, _, h, hf => by
    cases ws with
    | nil => simp only [afill, Option.some.injEq] at hf; subst hf; exact ⟨arr, rfl, h⟩
    | cons => simp at hl
  | (i, v) :: rest, [], cs, arr, out, hl, _, _, _ => by simp at hl
  | (i, v) :: rest, (i', u) :: us, cs, arr, out, hl, hv, h, hf => by
    obtain ⟨u', hu, hvu⟩ := hv 0 (by simp)
    simp at hu
    obtain ⟨rfl, rfl⟩ := hu
    simp only [afill] at hf
    split at hf
    · rename_i off size vs hp hc
      split at hf
      · rename_i hcond
        have hcv := hvu.cells hc
        have h1 := foldl_set (κ := κ) off vs u.cells.toList 0 cs arr (by simpa using hcv.size) (fun j hj => by simpa [Array.getD_eq_getD_getElem?, List.getD_eq_getElem?_getD] using hcv.vr j hj) (fun j hj => by simpa [Array.getD_eq_getD_getElem?, List.getD_eq_getElem?_getD] using hcv.one j hj) h
        obtain ⟨arr', ha, hr⟩ := afill_sound rest us _ _ out (by simpa using hl) (fun j hj => by
          obtain ⟨z, hz, hz'⟩ := hv (j + 1) (by simpa using hj)
          exact ⟨z, by simpa using hz, by simpa using hz'⟩) h1 hf
        refine ⟨arr', ?_, hr⟩
        simp only [Instr.fill, hp]
        rw [if_neg (by
          have := hcv.size; have := h.size
          simp; omega)]
        rw [← ha, ← Array.foldl_toList, Array.toList_zipIdx]
      · cases hf
    · cases hf

def abuild (P : Program) (t : TypeId) (parts : List (Nat × AVal)) : Option AVal :=
  match tiOf P t with
  | some I =>
    match I.zero.bind cellsOf with
    | some zs =>
      match I.k with
      | .struct fs => if fs.all (fun f => (tiOf P f.2.1).isSome) then (afill (fun i => match fs[i]? with | some f => (tiOf P f.2.1).map fun F => (f.2.2, F.size) | none => none) zs parts).map .agg else none
      | .arr _ e => (match tiOf P e with | some E => (afill (fun i => some (i * E.size, E.size)) zs parts).map .agg | none => none)
      | _ => none
    | none => none
  | none => none

theorem run_places {P : Program} (w : World) : ∀ (fs : List Field), (∀ f ∈ fs, ∃ F, tiOf P f.type = some F) →
    ∃ ps : List (Nat × Nat), (fs.mapM (m := Sem) fun (f : Field) => do pure (f.offset, ← sizeOf f.type)).run P w = .ok ps w ∧
      ∀ (i : Nat), ps[i]? = (match (fs[i]? : Option Field) with | some f => (tiOf P f.type).map fun (F : TI) => (f.offset, F.size) | none => none)
  | [], _ => ⟨[], by simp, by simp⟩
  | f :: fs, h => by
    obtain ⟨F, hF⟩ := h f (by simp)
    obtain ⟨i, d, hi⟩ := tiOf_spec hF
    obtain ⟨ps, hps, hall⟩ := run_places w fs (fun g hg => h g (by simp [hg]))
    refine ⟨(f.offset, F.size) :: ps, by rw [List.mapM_cons]; simp only [Sem.run_bind, hi.run_size w, Result.andThen_ok, Sem.run_pure, hps], fun j => ?_⟩
    cases j with
    | zero => simp [hF]
    | succ j => simpa using hall j

section sound
variable {P : Program} {κ : Cx} (w : World)

theorem abuild_sound {t : TypeId} {parts : List (Nat × AVal)} {ws : List (Nat × Value)} {v : AVal} (hl : ws.length = parts.length) (hv : ∀ (i : Nat) (h : i < parts.length), ∃ v, ws[i]? = some ((parts[i]).1, v) ∧ VR κ (parts[i]).2 v) (h : abuild P t parts = some v) :
    ∃ v', (Instr.build t ws.toArray).run P w = .ok v' w ∧ VR κ v v' := by
  unfold abuild at h
  cases hI : tiOf P t with
  | none => simp [hI] at h
  | some I =>
    simp only [hI] at h
    obtain ⟨i, d, hi⟩ := tiOf_spec hI
    cases hz : I.zero with
    | none => simp [hz] at h
    | some z =>
      simp only [hz, Option.bind_some] at h
      cases hzc : cellsOf z with
      | none => simp [hzc] at h
      | some zs =>
        simp only [hzc] at h
        obtain ⟨zv, hrz, hiz, rfl⟩ := hi.run_zero w hz
        have hzr : AR κ zs zv.cells := (VR.ofVal κ zv).cells hzc
        have hk := hi.k
        cases hkk : I.k <;> simp only [hkk, reduceCtorEq] at h
        case struct fs =>
          rw [hkk] at hk
          obtain ⟨gs, rfl, rfl⟩ := tk_struct hk
          split at h
          case isFalse => cases h
          rename_i hall
          simp only [List.all_map, List.all_eq_true, Function.comp_apply, Option.isSome_iff_exists] at hall
          obtain ⟨out, ho, rfl⟩ := Option.map_eq_some_iff.1 h
          obtain ⟨ps, hps, hpl⟩ := run_places (P := P) w gs.toList hall
          have hpe : (fun i => match ((gs.toList.map fun f => (f.name != "_", f.type, f.offset))[i]? : Option (Bool × TypeId × Nat)) with | some f => (tiOf P f.2.1).map fun F => (f.2.2, F.size) | none => none) = fun (i : Nat) => ps[i]? := by
            funext j
            rw [hpl j, List.getElem?_map]
            cases gs.toList[j]? <;> rfl
          rw [hpe] at ho
          obtain ⟨arr, ha, hr⟩ := afill_sound parts ws zs zv.cells out hl hv hzr ho
          refine ⟨.agg arr, ?_, .agg _ _ hr.size hr.vr hr.one⟩
          have hm : (gs.mapM (m := Sem) fun f => do pure (f.offset, ← sizeOf f.type)).run P w = .ok ps.toArray w := by
            rw [← Array.toArray_toList (xs := gs), List.mapM_toArray, Sem.run_map, hps]
            rfl
          simp only [Instr.build, Sem.run_bind, hrz, hi.run_under w, Result.andThen_ok, hm]
          have hg : (fun (x : Nat) => ps.toArray[x]?) = fun (i : Nat) => ps[i]? := by funext j; simp
          simp only [hg, ha]
          rfl
        case arr n e =>
          rw [hkk] at hk
          have := tk_arr hk; subst this
          cases hE : tiOf P e with
          | none => simp [hE] at h
          | some E =>
            simp only [hE] at h
            obtain ⟨i', d', hi'⟩ := tiOf_spec hE
            obtain ⟨out, ho, rfl⟩ := Option.map_eq_some_iff.1 h
            obtain ⟨arr, ha, hr⟩ := afill_sound parts ws zs zv.cells out hl hv hzr ho
            refine ⟨.agg arr, ?_, .agg _ _ hr.size hr.vr hr.one⟩
            simp only [Instr.build, Sem.run_bind, hrz, hi.run_under w, Result.andThen_ok, hi'.run_size w, ha]
            rfl

end sound
end Go.Hk
/- Addresses, slices, and what is read. -/
namespace Go.Hk

def afieldAddr (P : Program) (t : TypeId) (x : AVal) (f : Nat) : Option AVal :=
  match tiOf P t with
  | some I => (match I.k with
    | .struct fs => (match fs[f]? with
      | some g => (match tiOf P g.2.1 with
        | some F => if F.size = 0 then none else (match x with
          | .ptr b e o => some (.ptr b e (o + g.2.2))
          | .ipt cs o => some (.ipt cs (o + g.2.2))
          | .tpt t b n => some (if g.2.2 = 0 then .tpt t b n else .ptr b 0 g.2.2)
          | _ => none)
        | none => none)
      | none => none)
    | _ => none)
  | none => none

def afield (P : Program) (t : TypeId) (x : AVal) (f : Nat) : Option AVal :=
  match tiOf P t with
  | some I => (match I.k with
    | .struct fs => (match fs[f]? with
      | some g => (match x with
        | .agg cs => apart P g.2.1 cs g.2.2
        | _ => none)
      | none => none)
    | _ => none)
  | none => none

def aindexAddr (P : Program) (t : TypeId) (x i : AVal) : Option AVal :=
  match i with
  | .int _ i => (match tiOf P t with
    | some I => (match I.k with
      | .slice e => (match tiOf P e with
        | some E => (match x with
          | .sl _ n cs => if 0 ≤ i ∧ i < n then some (.ipt cs (i.toNat * E.size)) else none
          | .msl b ep o n _ => if 0 ≤ i ∧ i < n then some (.ptr b ep (o + i.toNat * E.size)) else none
          | _ => none)
        | none => none)
      | .arr n e => (match tiOf P e with
        | some E => (match x with
          | .ptr b ep o => if 0 ≤ i ∧ i < n then some (.ptr b ep (o + i.toNat * E.size)) else none
          | .ipt cs o => if 0 ≤ i ∧ i < n then some (.ipt cs (o + i.toNat * E.size)) else none
          | _ => none)
        | none => none)
      | _ => none)
    | none => none)
  | _ => none

def aindex (P : Program) (t : TypeId) (x i : AVal) : Option AVal :=
  match i with
  | .int _ i => (match tiOf P t with
    | some I => (match I.k with
      | .str => (match x with
        | .str s => if 0 ≤ i then (s[i.toNat]?).map fun c => .int .u8 c.toNat else none
        | _ => none)
      | .arr n e => (match tiOf P e with
        | some E => (match x with
          | .agg cs => if 0 ≤ i ∧ i < n then apart P e cs (i.toNat * E.size) else none
          | _ => none)
        | none => none)
      | _ => none)
    | none => none)
  | _ => none

def abound (x : Option AVal) (y d : Nat) : Option Nat :=
  match x with
  | none => some d
  | some (.int _ i) => if 0 ≤ i ∧ i ≤ y then some i.toNat else none
  | _ => none

/-- What is left of a right, where a slice is cut from its beginning. -/
def keepR (r : Rt) (h : Nat) (cs : List AVal) : Rt :=
  match r with
  | .tok t => if h = 0 ∧ cs.isEmpty = true then .tok t else .no
  | _ => .no

def aslice (P : Program) (t : TypeId) (x : AVal) (lo hi mx : Option AVal) : Option AVal :=
  match tiOf P t with
  | some I => (match I.k with
    | .str => (match x with
      | .str s => (match mx with
        | none => (match abound hi s.length s.length with
          | some h => (match abound lo h 0 with
            | some l => some (.str ((s.drop l).take (h - l)))
            | none => none)
          | none => none)
        | some _ => none)
      | _ => none)
    | .slice e => (match tiOf P e with
      | some E => (match x with
        | .sl r n cs => (match mx with
          | none => (match abound hi n n with
            | some h => (match abound lo h 0 with
              | some l => some (.sl (keepR r h cs) (h - l) ((cs.drop (l * E.size)).take ((h - l) * E.size)))
              | none => none)
            | none => none)
          | some m => (match hi with
            | none => none
            | some h0 => (match abound (some m) n n with
              | some m => (match abound (some h0) m m with
                | some h => (match abound lo h 0 with
                  | some l => some (.sl (if m = h ∧ 0 < n then .full else .no) (h - l) ((cs.drop (l * E.size)).take ((h - l) * E.size)))
                  | none => none)
                | none => none)
              | none => none)))
        | .msl b ep o n _ => (match mx with
          | none => (match abound hi n n with
            | some h => (match abound lo h 0 with
              | some l => if E.size = 0 then none else if l < h then some (.msl b ep (o + l * E.size) (h - l) ((h - l) * E.size)) else some (.sl .no 0 [])
              | none => none)
            | none => none)
          | some _ => none)
        | _ => none)
      | none => none)
    | _ => none)
  | none => none

def aextract (x : AVal) (i : Nat) : Option AVal :=
  match x with
  | .tup a vs => (a :: vs)[i]?
  | _ => none

def anil (x : AVal) : Option AVal :=
  match x with
  | .ptr b e o => some (.ptr b e o)
  | .ipt cs o => some (.ipt cs o)
  | .tpt t b n => some (.tpt t b n)
  | .fn f a b => some (.fn f a b)
  | .ifc t v => some (.ifc t v)
  | _ => none

def aload (P : Program) (t : TypeId) (m : AMem) (x : AVal) : Option AVal :=
  match x with
  | .ptr b e o => (match m.H[b]? with
    | some (.cells e' cs) => if e = e' then apart P t cs o else none
    | _ => none)
  | .ipt cs o => apart P t cs o
  | .tpt _ b _ => (match m.H[b]? with
    | some (.cells e' cs) => if 0 = e' then apart P t cs 0 else none
    | _ => none)
  | _ => none

section sound
variable {P : Program} {κ : Cx} (w : World)

theorem afieldAddr_sound {t : TypeId} {x v : AVal} {u : Value} {f : Nat} (h : afieldAddr P t x f = some v) (hx : VR κ x u) : ∃ v', (Instr.fieldAt t u f).run P w = .ok v' w ∧ VR κ v v' := by
  unfold afieldAddr at h
  cases hI : tiOf P t with
  | none => simp [hI] at h
  | some I =>
    simp only [hI] at h
    obtain ⟨i, d, hi⟩ := tiOf_spec hI
    have hk := hi.k
    cases hkk : I.k <;> simp only [hkk, reduceCtorEq] at h
    rename_i fs
    rw [hkk] at hk
    obtain ⟨gs, rfl, rfl⟩ := tk_struct hk
    rw [List.getElem?_map] at h
    cases hg : gs.toList[f]? with
    | none => simp [hg] at h
    | some g =>
      simp only [hg, Option.map_some] at h
      have hg' : gs[f]? = some g := by simpa using hg
      cases hF : tiOf P g.type with
      | none => simp [hF] at h
      | some F =>
        simp only [hF] at h
        obtain ⟨i', d', hi'⟩ := tiOf_spec hF
        split at h
        · cases h
        · rename_i hsz
          cases x <;> simp only [reduceCtorEq, Option.some.injEq] at h <;> subst h <;> cases hx
          · rename_i b e o g' c hb
            exact ⟨.pointer (some ⟨g', o + g.offset, none⟩), by simp [Instr.fieldAt, hi.run_under w, hg', Instr.sureAddr, fieldPlace, hi'.run_size w, hsz, Addr.add_lit], .ptr _ _ _ _ _ hb⟩
          · rename_i cs o g' k f' hc hv
            exact ⟨.pointer (some ⟨g', k + o + g.offset, none⟩), by simp [Instr.fieldAt, hi.run_under w, hg', Instr.sureAddr, fieldPlace, hi'.run_size w, hsz, Addr.add_lit], by
              rw [Nat.add_assoc]; exact .ipt _ _ _ _ _ hc hv⟩
          · rename_i t' b n g' c hb ho
            refine ⟨.pointer (some ⟨g', 0 + g.offset, none⟩), by simp [Instr.fieldAt, hi.run_under w, hg', Instr.sureAddr, fieldPlace, hi'.run_size w, hsz, Addr.add_lit], ?_⟩
            split
            · rename_i h0
              rw [h0]
              exact .tpt _ _ _ _ _ hb ho
            · rw [Nat.zero_add]
              exact .ptr _ _ _ _ _ hb

theorem afield_sound {t : TypeId} {x v : AVal} {u : Value} {f : Nat} (h : afield P t x f = some v) (hx : VR κ x u) : ∃ v', (Instr.field t u f).run P w = .ok v' w ∧ VR κ v v' := by
  unfold afield at h
  cases hI : tiOf P t with
  | none => simp [hI] at h
  | some I =>
    simp only [hI] at h
    obtain ⟨i, d, hi⟩ := tiOf_spec hI
    have hk := hi.k
    cases hkk : I.k <;> simp only [hkk, reduceCtorEq] at h
    rename_i fs
    rw [hkk] at hk
    obtain ⟨gs, rfl, rfl⟩ := tk_struct hk
    rw [List.getElem?_map] at h
    cases hg : gs.toList[f]? with
    | none => simp [hg] at h
    | some g =>
      simp only [hg, Option.map_some] at h
      have hg' : gs[f]? = some g := by simpa using hg
      cases x <;> simp only [reduceCtorEq] at h
      cases hx
      rename_i cs vs hs hv ho
      obtain ⟨v', h1, h2⟩ := apart_sound w h hs hv ho
      exact ⟨v', by simp [Instr.field, hi.run_under w, hg', asAgg, h1], h2⟩

theorem aindexAddr_sound {t : TypeId} {x i v : AVal} {u j : Value} (h : aindexAddr P t x i = some v) (hx : VR κ x u) (hj : VR κ i j) : ∃ v', (Instr.indexAt t u j).run P w = .ok v' w ∧ VR κ v v' := by
  unfold aindexAddr at h
  cases i <;> simp only [reduceCtorEq] at h
  rename_i ik i
  cases hj
  cases hI : tiOf P t with
  | none => simp [hI] at h
  | some I =>
    simp only [hI] at h
    obtain ⟨ti, d, hi⟩ := tiOf_spec hI
    have hk := hi.k
    cases hkk : I.k <;> simp only [hkk, reduceCtorEq] at h
    case slice e =>
      rw [hkk] at hk
      have := tk_slice hk; subst this
      cases hE : tiOf P e with
      | none => simp [hE] at h
      | some E =>
        simp only [hE] at h
        obtain ⟨i', d', hi'⟩ := tiOf_spec hE
        cases x <;> simp only [reduceCtorEq] at h
        case sl r n cs =>
          split at h
          · rename_i hin
            simp only [Option.some.injEq] at h; subst h
            cases hx with
            | slnil => exfalso; simp only [Int.natCast_zero] at hin; omega
            | slz => exfalso; simp only [Int.natCast_zero] at hin; omega
            | sl _ _ _ g k cap f hn hc hv hr =>
              exact ⟨.pointer (some ⟨g, k + i.toNat * E.size, none⟩), by simp [Instr.indexAt, hi.run_under w, asIntOf, hin, hi'.run_size w, Addr.add_lit], .ipt _ _ _ _ f hc hv⟩
          · cases h
        case msl b ep o n k =>
          split at h
          · rename_i hin
            simp only [Option.some.injEq] at h; subst h
            cases hx with
            | msl _ _ _ _ _ g c cap hb hn ho =>
              exact ⟨.pointer (some ⟨g, o + i.toNat * E.size, none⟩), by simp [Instr.indexAt, hi.run_under w, asIntOf, hin, hi'.run_size w, Addr.add_lit], .ptr _ _ _ _ _ hb⟩
          · cases h
    case arr n e =>
      rw [hkk] at hk
      have := tk_arr hk; subst this
      cases hE : tiOf P e with
      | none => simp [hE] at h
      | some E =>
        simp only [hE] at h
        obtain ⟨i', d', hi'⟩ := tiOf_spec hE
        cases x <;> simp only [reduceCtorEq] at h
        case ptr b ep o =>
          split at h
          · rename_i hin
            simp only [Option.some.injEq] at h; subst h
            cases hx with
            | ptr _ _ _ g c hb =>
              exact ⟨.pointer (some ⟨g, o + i.toNat * E.size, none⟩), by simp [Instr.indexAt, hi.run_under w, asIntOf, hin, hi'.run_size w, Addr.add_lit, Instr.sureAddr], .ptr _ _ _ _ _ hb⟩
          · cases h
        case ipt cs o =>
          split at h
          · rename_i hin
            simp only [Option.some.injEq] at h; subst h
            cases hx with
            | ipt _ _ g k f hc hv =>
              exact ⟨.pointer (some ⟨g, k + o + i.toNat * E.size, none⟩), by simp [Instr.indexAt, hi.run_under w, asIntOf, hin, hi'.run_size w, Addr.add_lit, Instr.sureAddr], by
                rw [Nat.add_assoc]; exact .ipt _ _ _ _ f hc hv⟩
          · cases h

theorem str_get (s : List UInt8) (i : Nat) : (ByteArray.mk s.toArray)[i]? = s[i]? := by
  by_cases h : i < s.length
  · have h' : i < (ByteArray.mk s.toArray).size := by simpa [ByteArray.size] using h
    rw [ByteArray.getElem?_lt' _ _ h', List.getElem?_eq_getElem h]
    rfl
  · have h' : ¬ i < (ByteArray.mk s.toArray).size := by simpa [ByteArray.size] using h
    rw [ByteArray.getElem?_ge' _ _ h', List.getElem?_eq_none (by omega)]

theorem aindex_sound {t : TypeId} {x i v : AVal} {u j : Value} (h : aindex P t x i = some v) (hx : VR κ x u) (hj : VR κ i j) : ∃ v', (Instr.index t u j).run P w = .ok v' w ∧ VR κ v v' := by
  unfold aindex at h
  cases i <;> simp only [reduceCtorEq] at h
  rename_i ik i
  cases hj
  cases hI : tiOf P t with
  | none => simp [hI] at h
  | some I =>
    simp only [hI] at h
    obtain ⟨ti, d, hi⟩ := tiOf_spec hI
    have hk := hi.k
    cases hkk : I.k <;> simp only [hkk, reduceCtorEq] at h
    case str =>
      rw [hkk] at hk
      have := tk_str hk; subst this
      cases x <;> simp only [reduceCtorEq] at h
      rename_i s
      split at h
      · rename_i h0
        obtain ⟨c, hc, rfl⟩ := Option.map_eq_some_iff.1 h
        cases hx
        exact ⟨_, by simp [Instr.index, hi.run_under w, asIntOf, h0, str_get, hc], .int _ _⟩
      · cases h
    case arr n e =>
      rw [hkk] at hk
      have := tk_arr hk; subst this
      cases hE : tiOf P e with
      | none => simp [hE] at h
      | some E =>
        simp only [hE] at h
        obtain ⟨i', d', hi'⟩ := tiOf_spec hE
        cases x <;> simp only [reduceCtorEq] at h
        split at h
        · rename_i hin
          cases hx
          rename_i cs vs hs hv ho
          obtain ⟨v', h1, h2⟩ := apart_sound w h hs hv ho
          exact ⟨v', by simp [Instr.index, hi.run_under w, asIntOf, hin, hi'.run_size w, h1], h2⟩
        · cases h

theorem abound_some {x : AVal} {y d l : Nat} {u : Value} {c : BoundsCode} (h : abound (some x) y d = some l) (hx : VR κ x u) : (Instr.sliceBound u y c).run P w = .ok l w ∧ l ≤ y := by
  cases x <;> simp only [abound, reduceCtorEq] at h
  split at h
  · rename_i k n hin
    simp only [Option.some.injEq] at h; subst h
    cases hx
    exact ⟨by simp [Instr.sliceBound, asIntOf, hin], by omega⟩
  · cases h

def OR (κ : Cx) : Option AVal → Option Value → Prop
  | none, none => True
  | some a, some v => VR κ a v
  | _, _ => False

theorem run_bounds {lo hi : Option AVal} {lo' hi' : Option Value} {isSlice : Bool} {n cap h l : Nat} (hlo : OR κ lo lo') (hhi : OR κ hi hi') (hn : n ≤ cap) (h1 : abound hi n n = some h) (h2 : abound lo h 0 = some l) :
    (Instr.sliceBounds isSlice n cap lo' hi' none).run P w = .ok (l, h, cap) w ∧ l ≤ h ∧ h ≤ n := by
  have hh : h ≤ n ∧ (do match hi' with | some v => Instr.sliceBound v cap (if isSlice then .sliceAcap else .sliceAlen) | none => pure n : Sem Nat).run P w = .ok h w := by
    cases hi with
    | none =>
      cases hi' with
      | none => simp only [abound, Option.some.injEq] at h1; subst h1; exact ⟨Nat.le_refl _, rfl⟩
      | some _ => exact hhi.elim
    | some x =>
      cases hi' with
      | none => exact hhi.elim
      | some u =>
        have hx : VR κ x u := hhi
        cases x <;> simp only [abound, reduceCtorEq] at h1
        split at h1
        · rename_i k m hin
          simp only [Option.some.injEq] at h1; subst h1
          cases hx
          have : 0 ≤ m ∧ m ≤ (cap : Int) := ⟨hin.1, by omega⟩
          exact ⟨by omega, by simp [Instr.sliceBound, asIntOf, this]⟩
        · cases h1
  have hl : l ≤ h ∧ (do match lo' with | some v => Instr.sliceBound v h (if (none : Option Value).isSome then .slice3C else .sliceB) | none => pure 0 : Sem Nat).run P w = .ok l w := by
    cases lo with
    | none =>
      cases lo' with
      | none => simp only [abound, Option.some.injEq] at h2; subst h2; exact ⟨Nat.zero_le _, rfl⟩
      | some _ => exact hlo.elim
    | some x =>
      cases lo' with
      | none => exact hlo.elim
      | some u =>
        have := abound_some (P := P) (c := .sliceB) w h2 (show VR κ x u from hlo)
        exact ⟨this.2, by simpa using this.1⟩
  refine ⟨?_, hl.1, hh.1⟩
  have e1 := hh.2
  have e2 := hl.2
  cases hi' <;> cases lo' <;> simp_all [Instr.sliceBounds]

theorem VR.sub {r r' : Rt} {n h l sz cap cap' : Nat} {cs : List AVal} {base : Option Addr} (hv : VR κ (.sl r n cs) (.slice base n cap)) (hlh : l ≤ h) (hn : h ≤ n) (hc : h - l ≤ cap') (hr : r' = .no ∨ (r' = .full ∧ cap' = h - l)) (hcl : cap' = cap - l ∨ l + cap' ≤ n) (hz : r' = .full → 0 < n) :
    VR κ (.sl r' (h - l) ((cs.drop (l * sz)).take ((h - l) * sz))) (.slice (if cap' = 0 then base else base.map (·.add (l * sz))) (h - l) cap') := by
  have hrt : ∀ len b k, rtOK κ r' (h - l) len b k cap' := by
    intro len b k
    rcases hr with rfl | ⟨rfl, h2⟩
    · trivial
    · exact h2
  cases hv with
  | slnil _ _ =>
    have h0 : h = 0 := by omega
    have l0 : l = 0 := by omega
    subst h0; subst l0
    have hc0 : cap' = 0 := by rcases hcl with h | h <;> omega
    subst hc0
    simp only [if_true]
    simpa using VR.slnil (κ := κ) r' (hrt 0 none 0)
  | slz a _ =>
    have h0 : h = 0 := by omega
    have l0 : l = 0 := by omega
    subst h0; subst l0
    have hr0 : r' = .no := by rcases hr with h | ⟨h, _⟩; exact h; exact absurd (hz h) (Nat.lt_irrefl 0)
    subst hr0
    have hn : ∀ b : Addr, VR κ (.sl .no (0 - 0) (([] : List AVal).drop (0 * sz) |>.take ((0 - 0) * sz))) (.slice (some b) (0 - 0) cap') := fun b => by simpa using VR.slz (κ := κ) b cap'
    split
    · exact hn a
    · exact hn _
  | sl _ _ _ g k cap f hn' hcell hvv hr' =>
    by_cases h0 : cap' = 0
    · have hhl : h - l = 0 := by omega
      rw [if_pos h0, hhl]
      simp only [Nat.zero_mul, List.take_zero]
      refine .sl _ _ _ g k _ f (Nat.zero_le _) (fun j hj => absurd hj (Nat.not_lt_zero j)) (fun j hj => absurd hj (Nat.not_lt_zero j)) ?_
      have := hrt 0 (some g) k
      rw [hhl] at this
      exact this
    · rw [if_neg h0]
      simp only [Option.map_some, Addr.add_lit]
      refine .sl _ _ _ g (k + l * sz) _ (fun j => f (l * sz + j)) hc (fun j hj => ?_) (fun j hj => ?_) (hrt _ _ _)
      · simp only [List.length_take, List.length_drop] at hj
        rw [Nat.add_assoc]
        exact hcell _ (by omega)
      · simp only [List.length_take, List.length_drop] at hj
        simp only [List.getElem_take, List.getElem_drop]
        exact hvv _ (by omega)

theorem extract_str (s : List UInt8) (l h : Nat) : (ByteArray.mk s.toArray).extract l h = ⟨((s.drop l).take (h - l)).toArray⟩ := by
  apply ByteArray.ext
  simp only [ByteArray.data_extract]
  apply Array.ext'
  simp [List.extract_eq_take_drop]

theorem aslice_sound {t : TypeId} {x v : AVal} {u : Value} {lo hi mx : Option AVal} {lo' hi' mx' : Option Value} (h : aslice P t x lo hi mx = some v) (hx : VR κ x u) (hlo : OR κ lo lo') (hhi : OR κ hi hi') (hmx : OR κ mx mx') :
    ∃ v', (Instr.sliceAt t u lo' hi' mx').run P w = .ok v' w ∧ VR κ v v' := by
  unfold aslice at h
  cases hI : tiOf P t with
  | none => simp [hI] at h
  | some I =>
    simp only [hI] at h
    obtain ⟨ti, d, hi0⟩ := tiOf_spec hI
    have hk := hi0.k
    cases hkk : I.k <;> simp only [hkk, reduceCtorEq] at h
    case str =>
      rw [hkk] at hk
      have := tk_str hk; subst this
      cases x <;> simp only [reduceCtorEq] at h
      rename_i s
      cases mx with
      | some m => simp at h
      | none =>
        cases mx' with
        | some _ => exact hmx.elim
        | none =>
          simp only at h
          cases e1 : abound hi s.length s.length with
          | none => simp [e1] at h
          | some hh =>
            cases e2 : abound lo hh 0 with
            | none => simp [e1, e2] at h
            | some l =>
              simp only [e1, e2, Option.some.injEq] at h; subst h
              cases hx
              have hs : (ByteArray.mk s.toArray).size = s.length := by simp [ByteArray.size]
              obtain ⟨hr, _, _⟩ := run_bounds (P := P) (isSlice := false) w hlo hhi (Nat.le_refl _) e1 e2
              exact ⟨.string ⟨((s.drop l).take (hh - l)).toArray⟩, by simp [Instr.sliceAt, Instr.slice, hi0.run_under w, hs, hr, extract_str], .str _⟩
    case slice e =>
      rw [hkk] at hk
      have := tk_slice hk; subst this
      cases hE : tiOf P e with
      | none => simp [hE] at h
      | some E =>
        simp only [hE] at h
        obtain ⟨i', d', hi'0⟩ := tiOf_spec hE
        cases x <;> simp only [reduceCtorEq] at h
        case sl r n cs =>
          obtain ⟨base, cap, rfl, hncap⟩ : ∃ base cap, u = .slice base n cap ∧ n ≤ cap := by
            cases hx with
            | slnil => exact ⟨_, _, rfl, Nat.le_refl _⟩
            | slz => exact ⟨_, _, rfl, Nat.zero_le _⟩
            | sl _ _ _ g k cap f hn => exact ⟨_, _, rfl, hn⟩
          cases mx with
          | none =>
            cases mx' with
            | some _ => exact hmx.elim
            | none =>
              simp only at h
              cases e1 : abound hi n n with
              | none => simp [e1] at h
              | some hh =>
                cases e2 : abound lo hh 0 with
                | none => simp [e1, e2] at h
                | some l =>
                  simp only [e1, e2, Option.some.injEq] at h; subst h
                  obtain ⟨hr, hlh, hhn⟩ := run_bounds (P := P) (isSlice := true) w hlo hhi hncap e1 e2
                  have hsub : VR κ (.sl (keepR r hh cs) (hh - l) ((cs.drop (l * E.size)).take ((hh - l) * E.size))) (.slice (if cap - l = 0 then base else base.map (·.add (l * E.size))) (hh - l) (cap - l)) := by
                    have hno := VR.sub (sz := E.size) (r' := .no) (cap' := cap - l) hx hlh hhn (by omega) (.inl rfl) (.inl rfl) (fun h => by cases h)
                    cases r with
                    | no => exact hno
                    | full => exact hno
                    | nil => exact hno
                    | tok q =>
                      simp only [keepR]
                      split
                      · rename_i h0
                        obtain ⟨h0, h1⟩ := h0
                        have h1 : cs = [] := by simpa using h1
                        subst h0; subst h1
                        have hl0 : l = 0 := by omega
                        subst hl0
                        simp only [Nat.zero_mul, Nat.sub_zero, List.drop_nil, List.take_nil]
                        cases hx with
                        | slnil _ hr' => simpa using VR.slnil (κ := κ) (.tok q) hr'
                        | sl _ _ _ g k _ f hn hc hv hr' =>
                          have : VR κ (.sl (.tok q) 0 []) (.slice (some ⟨g, k, none⟩) 0 cap) := .sl _ _ _ g k cap f (Nat.zero_le _) hc hv hr'
                          by_cases hc0 : cap = 0
                          · rw [if_pos hc0]; exact this
                          · rw [if_neg hc0]; simpa [Addr.add_lit] using this
                      · exact hno
                  refine ⟨_, ?_, hsub⟩
                  simp only [Instr.sliceAt, Instr.slice, Sem.run_bind, hi0.run_under w, Result.andThen_ok, hr, hi'0.run_size w, Sem.run_pure]
                  by_cases hcl : cap = l
                  · subst hcl; simp
                  · rw [if_neg hcl, if_neg (by omega)]
          | some m0 =>
            cases mx' with
            | none => exact hmx.elim
            | some mu =>
              have hm0 : VR κ m0 mu := hmx
              simp only at h
              cases hi with
              | none => simp at h
              | some h0 =>
                cases hi' with
                | none => exact hhi.elim
                | some hu =>
                  have hh0 : VR κ h0 hu := hhi
                  simp only at h
                  cases e0 : abound (some m0) n n with
                  | none => simp [e0] at h
                  | some m =>
                    simp only [e0] at h
                    cases e1 : abound (some h0) m m with
                    | none => simp [e1] at h
                    | some hh =>
                      cases e2 : abound lo hh 0 with
                      | none => simp [e1, e2] at h
                      | some l =>
                        simp only [e1, e2, Option.some.injEq] at h; subst h
                        have r0 : (Instr.sliceBound mu cap .slice3Acap).run P w = .ok m w ∧ m ≤ n := by
                          cases m0 <;> simp only [abound, reduceCtorEq] at e0
                          split at e0
                          · rename_i k q hin
                            simp only [Option.some.injEq] at e0; subst e0
                            cases hm0
                            have : 0 ≤ q ∧ q ≤ (cap : Int) := ⟨hin.1, by omega⟩
                            exact ⟨by simp [Instr.sliceBound, asIntOf, this], by omega⟩
                          · cases e0
                        have r1 := abound_some (P := P) (c := .slice3B) w e1 hh0
                        have r2 : (do match lo' with | some v => Instr.sliceBound v hh .slice3C | none => pure 0 : Sem Nat).run P w = .ok l w ∧ l ≤ hh := by
                          cases lo with
                          | none =>
                            cases lo' with
                            | none => simp only [abound, Option.some.injEq] at e2; subst e2; exact ⟨rfl, Nat.zero_le _⟩
                            | some _ => exact hlo.elim
                          | some x =>
                            cases lo' with
                            | none => exact hlo.elim
                            | some u => exact abound_some (P := P) (c := .slice3C) w e2 hlo
                        have hsub := VR.sub (sz := E.size) (r' := if m = hh ∧ 0 < n then .full else .no) (cap' := m - l) hx r2.2 (by omega) (by omega) (by
                          by_cases hmh : m = hh ∧ 0 < n
                          · rw [if_pos hmh]; exact .inr ⟨rfl, by omega⟩
                          · rw [if_neg hmh]; exact .inl rfl) (.inr (by omega)) (fun h => by
                          by_cases hmh : m = hh ∧ 0 < n
                          · exact hmh.2
                          · rw [if_neg hmh] at h; cases h)
                        refine ⟨_, ?_, hsub⟩
                        have r2' := r2.1
                        cases lo' <;> simp_all [Instr.sliceAt, Instr.slice, Instr.sliceBounds, hi0.run_under w, hi'0.run_size w] <;> (by_cases hcl : m = l <;> simp [hcl] <;> omega)
        case msl b ep o n k =>
          cases mx with
          | some m0 => simp at h
          | none =>
            cases mx' with
            | some _ => exact hmx.elim
            | none =>
              simp only at h
              cases hx with
              | msl _ _ _ _ _ g c cap hb hn ho =>
                cases e1 : abound hi n n with
                | none => simp [e1] at h
                | some hh =>
                  cases e2 : abound lo hh 0 with
                  | none => simp [e1, e2] at h
                  | some l =>
                    simp only [e1, e2] at h
                    obtain ⟨hr, hlh, hhn⟩ := run_bounds (P := P) (isSlice := true) w hlo hhi hn e1 e2
                    have hrun : (Instr.sliceAt t (.slice (some ⟨g, o, none⟩) n cap) lo' hi' none).run P w = .ok (.slice (if cap = l then some ⟨g, o, none⟩ else some ⟨g, o + l * E.size, none⟩) (hh - l) (cap - l)) w := by
                      simp only [Instr.sliceAt, Instr.slice, Sem.run_bind, hi0.run_under w, Result.andThen_ok, hr, hi'0.run_size w, Sem.run_pure, Option.map_some, Addr.add_lit]
                    split at h
                    · cases h
                    · rename_i hE0
                      split at h
                      · rename_i hlt
                        simp only [Option.some.injEq] at h; subst h
                        refine ⟨_, hrun, ?_⟩
                        rw [if_neg (by omega)]
                        refine .msl _ _ _ _ _ _ _ _ hb (by omega) (fun h0 => ?_)
                        have h1 : o = 0 ∧ l * E.size = 0 := by omega
                        have h2 : l = 0 := by
                          rcases Nat.mul_eq_zero.1 h1.2 with h | h
                          · exact h
                          · exact absurd h hE0
                        have := ho h1.1
                        omega
                      · rename_i hlt
                        simp only [Option.some.injEq] at h; subst h
                        refine ⟨_, hrun, ?_⟩
                        have : hh - l = 0 := by omega
                        rw [this]
                        split
                        · exact .sl _ _ _ g o _ (fun _ => undef) (Nat.zero_le _) (fun j hj => absurd hj (Nat.not_lt_zero j)) (fun j hj => absurd hj (Nat.not_lt_zero j)) trivial
                        · exact .sl _ _ _ g _ _ (fun _ => undef) (Nat.zero_le _) (fun j hj => absurd hj (Nat.not_lt_zero j)) (fun j hj => absurd hj (Nat.not_lt_zero j)) trivial

theorem aextract_sound {x v : AVal} {u : Value} {i : Nat} (h : aextract x i = some v) (hx : VR κ x u) : ∃ v', (Instr.extract u i).run P w = .ok v' w ∧ VR κ v v' := by
  cases x <;> simp only [aextract, reduceCtorEq] at h
  cases hx with
  | tup a cs vs hs hv =>
    obtain ⟨hlt, rfl⟩ := List.getElem?_eq_some_iff.1 h
    have hlt' : i < vs.size := by omega
    refine ⟨vs[i], by simp [Instr.extract, hlt'], ?_⟩
    have := hv i hlt
    simpa [Array.getD, hlt'] using this

end sound

/-- What is read of memory. -/
theorem aload_sound0 {P : Program} {γ : Ghost} (hr : Rl γ) {t : TypeId} {x v : AVal} {u : Value} (h : aload P t γ.S x = some v) (hx : VR γ.cx x u) (hnt : ∀ t b n, x ≠ .tpt t b n) : ∃ v', (Instr.loadAt t u).run P γ.w = .ok v' γ.w ∧ VR γ.cx v v' := by
  have key : ∀ (g k o : Nat) (cs : List AVal) (f : Nat → Value), (∀ j, j < cs.length → γ.w.cell? ⟨g, k + j, none⟩ = some (f j) ∧ (f j).oneCell' = true) → (∀ (j : Nat) (h : j < cs.length), VR γ.cx (cs[j]) (f j)) → apart P t cs o = some v →
      ∃ v', (loadVar t ⟨g, k + o, none⟩).run P γ.w = .ok v' γ.w ∧ VR γ.cx v v' := by
    intro g k o cs f hc hv ha
    unfold apart at ha
    cases hI : tiOf P t with
    | none => simp [hI] at ha
    | some I =>
      simp only [hI] at ha
      obtain ⟨i, d, hi⟩ := tiOf_spec hI
      cases hk : I.k.agg with
      | true =>
        simp only [hk, if_true] at ha
        split at ha
        · rename_i hle
          simp only [Option.some.injEq] at ha; subst ha
          have hl := run_loadCells (P := P) γ.w ⟨g, k + o, none⟩ I.size (fun j => f (o + j)) (fun j hj => by
            rw [Addr.add_lit, Nat.add_assoc]; exact (hc _ (by omega)).1)
          refine ⟨.agg ((List.range I.size).map fun j => f (o + j)).toArray, by simp only [loadVar, Sem.run_bind, hi.run_agg γ.w, Result.andThen_ok, hk, if_true, hi.run_size γ.w, hl, Sem.run_pure], .agg _ _ (by simp; omega) (fun j hj => ?_) (fun j hj => ?_)⟩
          · simp only [List.length_take, List.length_drop] at hj
            have hj' : j < I.size := by omega
            simp [Array.getD, hj', hv]
          · simp only [List.length_take, List.length_drop] at hj
            have hj' : j < I.size := by omega
            simpa [Array.getD, hj'] using (hc (o + j) (by omega)).2
        · cases ha
      | false =>
        simp only [hk, Bool.false_eq_true, if_false] at ha
        obtain ⟨hlt, rfl⟩ := List.getElem?_eq_some_iff.1 ha
        exact ⟨f o, by simp [loadVar, hi.run_agg γ.w, hk, (hc o hlt).1], hv o hlt⟩
  cases x <;> simp only [aload, reduceCtorEq] at h
  case tpt t' b n => exact absurd rfl (hnt t' b n)
  case ptr b e o =>
    cases hb : γ.S.H[b]? with
    | none => simp [hb] at h
    | some x =>
      cases x with
      | amap es => simp [hb] at h
      | iter _ _ _ => simp [hb] at h
      | loop _ _ _ _ _ _ _ => simp [hb] at h
      | cells e' cs =>
        simp only [hb] at h
        split at h
        · rename_i he; subst he
          obtain ⟨arr, ty, hh, hlen, _, hv, ho⟩ := hr.cells b e cs hb
          cases hx with
          | ptr _ _ _ g c hblk =>
            obtain ⟨y, hy, _, hy2⟩ := hblk
            rw [hb] at hy
            cases hy
            obtain ⟨rfl, _⟩ := hy2 rfl
            have := key (γ.ι.h b) 0 o cs (fun j => arr.getD j undef) (fun j hj => by
              rw [Nat.zero_add, cell_of_row _ _ _ _ _ _ hh]
              have : j < arr.size := by omega
              exact ⟨by simp [Array.getD, this], ho j hj⟩) hv h
            simp only [Nat.zero_add] at this
            obtain ⟨v', h1, h2⟩ := this
            exact ⟨v', by simp [Instr.loadAt, Instr.sureAddr, h1], h2⟩
        · cases h
  case ipt cs o =>
    cases hx with
    | ipt _ _ g k f hc hv =>
      obtain ⟨v', h1, h2⟩ := key g k o cs f (fun j hj => ⟨(hc j hj).1, (hc j hj).2.1⟩) hv h
      exact ⟨v', by simp [Instr.loadAt, Instr.sureAddr, h1], h2⟩

theorem aload_sound {P : Program} {γ : Ghost} (hr : Rl γ) {t : TypeId} {x v : AVal} {u : Value} (h : aload P t γ.S x = some v) (hx : VR γ.cx x u) : ∃ v', (Instr.loadAt t u).run P γ.w = .ok v' γ.w ∧ VR γ.cx v v' := by
  by_cases hn : ∃ t b n, x = .tpt t b n
  · obtain ⟨t', b, n, rfl⟩ := hn
    cases hx with
    | tpt _ _ _ g c hb ho => exact aload_sound0 hr (x := .ptr b 0 0) h (.ptr _ _ _ _ _ hb) (fun _ _ _ h => by cases h)
  · exact aload_sound0 hr h hx fun t b n he => hn ⟨t, b, n, he⟩

end Go.Hk
/- How memory goes on: new blocks, stores. -/
namespace Go.Hk
open Go.RowKit

/-- Nothing that was there has turned. -/
structure Grow (w w' : World) : Prop where
  os : w'.os = w.os
  tape : w'.tape = w.tape
  output : w'.output = w.output
  size : w.heap.size ≤ w'.heap.size
  block : ∀ k, k < w.heap.size → w'.heap[k]? = w.heap[k]?

theorem Grow.refl (w : World) : Grow w w := ⟨rfl, rfl, rfl, Nat.le_refl _, fun _ _ => rfl⟩
theorem Grow.trans {a b c : World} (h : Grow a b) (k : Grow b c) : Grow a c :=
  ⟨k.os.trans h.os, k.tape.trans h.tape, k.output.trans h.output, Nat.le_trans h.size k.size, fun i hi => (k.block i (Nat.lt_of_lt_of_le hi h.size)).trans (h.block i hi)⟩
theorem Grow.alloc (w : World) (o : Obj) : Grow w (w.alloc o) := ⟨rfl, rfl, rfl, by simp, fun k hk => heap_alloc_old w o k hk⟩
theorem Grow.drew (w : World) : Grow w w.drew := ⟨rfl, rfl, rfl, Nat.le_refl _, fun _ _ => rfl⟩
theorem Grow.below {w w' : World} (h : Below w.heap.size w w') : Grow w w' := ⟨h.os, h.tape, h.output, h.size, h.block⟩
theorem Grow.toBelow {w w' : World} (h : Grow w w') : Below w.heap.size w w' := ⟨h.os, h.tape, h.output, h.size, h.block⟩

theorem cell_lt {w : World} {a : Addr} {v : Value} (h : w.cell? a = some v) : a.block < w.heap.size := block_lt_of_cell h

theorem own_of {γ γ' : Ghost} (hl : γ'.lo = γ.lo) (h : ∀ (g : Nat) (arr : Array Value) (ty : TypeId) (fz : Nat × Nat), γ.w.heap[g]? = some (Obj.cells arr ty fz) → ∃ arr' fz', γ'.w.heap[g]? = some (Obj.cells arr' ty fz') ∧ arr.size ≤ arr'.size) {g : Nat} {t : TypeId} {n : Nat} (ho : γ.own g t n) : γ'.own g t n := by
  obtain ⟨h1, arr, fz, h2, h4⟩ := ho
  obtain ⟨arr', fz', h3, h5⟩ := h g arr t fz h2
  exact ⟨by rw [hl]; exact h1, arr', fz', h3, by omega⟩
theorem tip_of {γ γ' : Ghost} (hT : γ'.S.T = γ.S.T) (hb : γ'.ι.tb = γ.ι.tb) (hc : γ'.ι.tc = γ.ι.tc) (ho : ∀ g t, γ.own g t 0 → γ'.own g t 0) {t len : Nat} {base : Option Nat} {cap : Nat} (h : γ.cx.tip t len base cap) : γ'.cx.tip t len base cap := by
  obtain ⟨tp, sz, h1, h2, h3, h4⟩ := h
  exact ⟨tp, sz, by rw [hT]; exact h1, h2, fun he => by rw [hb, hc]; exact h3 he, fun hl g hg => ho g _ (h4 hl g hg)⟩
theorem heap_lt {w : World} {g : Nat} {o : Obj} (h : w.heap[g]? = some o) : g < w.heap.size := (Array.getElem?_eq_some_iff.1 h).1
theorem own_grow {γ : Ghost} {w' : World} (hg : Grow γ.w w') {g : Nat} {t : TypeId} {n : Nat} (ho : γ.own g t n) : ({ γ with w := w' } : Ghost).own g t n :=
  own_of (γ := γ) (γ' := { γ with w := w' }) rfl (fun g arr ty fz h => ⟨arr, fz, (hg.block g (heap_lt h)).trans h, Nat.le_refl _⟩) ho
theorem ext_grow {γ : Ghost} {w' : World} (hg : Grow γ.w w') : Ext γ { γ with w := w' } where
  bad := rfl
  lo := rfl
  size := hg.size
  os := hg.os
  tape := hg.tape
  output := hg.output
  cell := fun g o v h => ⟨by rw [show ({ γ with w := w' } : Ghost).w.cell? ⟨g, o, none⟩ = γ.w.cell? ⟨g, o, none⟩ from World.cell?_of_block (w := γ.w) (hg.block g (cell_lt h.1))]; exact h.1, h.2⟩
  blk := fun _ _ _ _ h => h
  tip := fun _ _ _ _ h => tip_of (γ := γ) (γ' := { γ with w := w' }) rfl rfl rfl (fun _ _ => own_grow hg) h
  own := fun _ _ _ => own_grow hg
  frame := fun k hk _ => .inl (hg.block k hk)
  owns := fun _ h => .inl h

theorem Rl.inw {γ : Ghost} (hr : Rl γ) {b : Nat} {x : ABlk} (hb : γ.S.H[b]? = some x) : γ.lo ≤ γ.ι.h b ∧ γ.ι.h b < γ.w.heap.size := hr.own _ (.inl ⟨b, (List.getElem?_eq_some_iff.1 hb).1, rfl⟩)
theorem Rl.ne {γ : Ghost} (hr : Rl γ) {b b' : Nat} {x x' : ABlk} (hb : γ.S.H[b]? = some x) (hb' : γ.S.H[b']? = some x') (h : b' ≠ b) : γ.ι.h b' ≠ γ.ι.h b := fun he =>
  h (hr.hh b' b _ ⟨(List.getElem?_eq_some_iff.1 hb').1, rfl⟩ ⟨(List.getElem?_eq_some_iff.1 hb).1, he.symm⟩)
theorem Rl.net {γ : Ghost} (hr : Rl γ) {b t : Nat} {x : ABlk} (hb : γ.S.H[b]? = some x) : ¬ γ.tokOwns t (γ.ι.h b) := fun he => hr.ht b t _ ⟨(List.getElem?_eq_some_iff.1 hb).1, rfl⟩ he
theorem rl_grow {γ : Ghost} (hr : Rl γ) {w' : World} (hg : Grow γ.w w') : Rl { γ with w := w' } where
  lo := Nat.le_trans hr.lo hg.size
  bad := hr.bad
  objs := fun b x hb => by
    obtain ⟨o, h1, h2⟩ := hr.objs b x hb
    exact ⟨o, by rw [show ({ γ with w := w' } : Ghost).w.heap[γ.ι.h b]? = γ.w.heap[γ.ι.h b]? from hg.block _ (hr.inw hb).2]; exact h1, h2.mono (ext_grow hg).le⟩
  its := fun b mb left cur hb => by
    obtain ⟨es, en, clk, since, seen, c0, h1, h2, h3, h4⟩ := hr.its b mb left cur hb
    exact ⟨es, en, clk, since, seen, c0, h1, (hg.block _ (hr.inw hb).2).trans h2, (hg.block _ (hr.inw h1).2).trans h3, h4.mono (ext_grow hg).le⟩
  toks := fun t g ht => by
    obtain ⟨arr, lo, hi, tp, sz, h1, h2⟩ := hr.toks t g ht
    exact ⟨arr, lo, hi, tp, sz, by rw [show ({ γ with w := w' } : Ghost).w.heap[g]? = γ.w.heap[g]? from hg.block _ (hr.own _ (.inr ⟨t, ht⟩)).2]; exact h1, h2⟩
  own := fun g hg' => ⟨(hr.own g hg').1, Nat.lt_of_lt_of_le (hr.own g hg').2 hg.size⟩
  hh := hr.hh
  ht := hr.ht
  tt := hr.tt

/-- A new block of cells that nobody will write is cells that stay. -/
theorem cell_new {γ : Ghost} (hr : Rl γ) {w' : World} {g j : Nat} {arr : Array Value} {ty : TypeId} {fr : Nat × Nat} (hlt : γ.w.heap.size ≤ g) (hb : w'.heap[g]? = some (.cells arr ty fr)) (hj : j < arr.size)
    (ho : (arr.getD j undef).oneCell' = true) : ({ γ with w := w' } : Ghost).cell g j (arr.getD j undef) := by
  refine ⟨?_, ho, fun hbad => ?_, fun b hb' => ?_, fun t ht => ?_⟩
  · show w'.cell? ⟨g, j, none⟩ = _
    rw [cell_of_row w' g j arr ty fr hb]
    simp [Array.getD, hj]
  · have := hr.bad _ _ hbad; have := hr.lo; omega
  · have := (hr.own g (.inl ⟨b, hb'⟩)).2; omega
  · have := (hr.own g (.inr ⟨t, ht⟩)).2; omega

/-- A new block that may be written. -/
def Ghost.push (γ : Ghost) (x : ABlk) (c z : Nat) (o : Obj) : Ghost :=
  { γ with S := { γ.S with H := γ.S.H ++ [x] }, ι := { γ.ι with h := fun b => if b = γ.S.H.length then γ.w.heap.size else γ.ι.h b, c := fun b => if b = γ.S.H.length then c else γ.ι.c b, z := fun b => if b = γ.S.H.length then z else γ.ι.z b }, w := γ.w.alloc o }

section push
variable {γ : Ghost} {x : ABlk} {c z : Nat} {o : Obj}

theorem push_blkOwns {b g : Nat} : (γ.push x c z o).blkOwns b g ↔ γ.blkOwns b g ∨ (b = γ.S.H.length ∧ g = γ.w.heap.size) := by
  simp only [Ghost.blkOwns, Ghost.push, List.length_append, List.length_cons, List.length_nil]
  constructor
  · rintro ⟨h1, h2⟩
    by_cases hb : b = γ.S.H.length
    · rw [if_pos hb] at h2; exact .inr ⟨hb, h2.symm⟩
    · rw [if_neg hb] at h2; exact .inl ⟨by omega, h2⟩
  · rintro (⟨h1, h2⟩ | ⟨h1, h2⟩)
    · exact ⟨by omega, by rw [if_neg (by omega)]; exact h2⟩
    · exact ⟨by omega, by rw [if_pos h1]; exact h2.symm⟩

theorem own_push {g : Nat} {t : TypeId} {n : Nat} (ho : γ.own g t n) : (γ.push x c z o).own g t n :=
  own_of (γ := γ) (γ' := γ.push x c z o) rfl (fun g arr ty fz h => ⟨arr, fz, (heap_alloc_old _ _ g (heap_lt h)).trans h, Nat.le_refl _⟩) ho
theorem ext_push : Ext γ (γ.push x c z o) where
  bad := rfl
  lo := rfl
  size := by simp [Ghost.push]
  os := rfl
  tape := rfl
  output := rfl
  cell := fun g o' v h => by
    refine ⟨?_, h.2.1, h.2.2.1, fun b hb => ?_, h.2.2.2.2⟩
    · rw [show (γ.push x c z o).w.cell? ⟨g, o', none⟩ = γ.w.cell? ⟨g, o', none⟩ from World.cell?_alloc_lt _ _ _ (cell_lt h.1)]; exact h.1
    · rcases push_blkOwns.1 hb with h1 | ⟨_, h1⟩
      · exact h.2.2.2.1 b h1
      · have := cell_lt h.1; simp only at this; omega
  blk := fun b e g c' ⟨y, h1, h2, h3⟩ => by
    have hlt : b < γ.S.H.length := (List.getElem?_eq_some_iff.1 h1).1
    refine ⟨y, by show (γ.S.H ++ [x])[b]? = _; rw [List.getElem?_append_left hlt]; exact h1, h2, fun he => ?_⟩
    obtain ⟨a1, a2⟩ := h3 he
    exact ⟨by show (if b = γ.S.H.length then _ else _) = _; rw [if_neg (by omega)]; exact a1, by show (if b = γ.S.H.length then _ else _) = _; rw [if_neg (by omega)]; exact a2⟩
  tip := fun _ _ _ _ h => tip_of (γ := γ) (γ' := γ.push x c z o) rfl rfl rfl (fun _ _ => own_push) h
  own := fun _ _ _ => own_push
  frame := fun k hk _ => .inl (heap_alloc_old _ _ k hk)
  owns := fun k h => by
    rcases h with ⟨b, hb⟩ | h
    · rcases push_blkOwns.1 hb with h1 | ⟨_, h1⟩
      · exact .inl (.inl ⟨b, h1⟩)
      · exact .inr (by omega)
    · exact .inl (.inr h)

theorem push_get_lt {b : Nat} (hlt : b < γ.S.H.length) : (γ.push x c z o).S.H[b]? = γ.S.H[b]? := List.getElem?_append_left hlt
theorem push_new {b : Nat} {y : ABlk} (hb : (γ.push x c z o).S.H[b]? = some y) (hn : ¬ b < γ.S.H.length) : b = γ.S.H.length ∧ y = x := by
  have hb' : (γ.S.H ++ [x])[b]? = some y := hb
  have hbe : b = γ.S.H.length := by
    have := (List.getElem?_eq_some_iff.1 hb').1
    simp at this; omega
  subst hbe
  simp only [List.getElem?_concat_length, Option.some.injEq] at hb'
  exact ⟨rfl, hb'.symm⟩
theorem push_at {b : Nat} {y : ABlk} (hr : Rl γ) (hb : γ.S.H[b]? = some y) : (γ.push x c z o).w.heap[(γ.push x c z o).ι.h b]? = γ.w.heap[γ.ι.h b]? := by
  have hlt := (List.getElem?_eq_some_iff.1 hb).1
  show (γ.w.alloc o).heap[if b = γ.S.H.length then _ else _]? = _
  rw [if_neg (by omega), heap_alloc_old _ _ _ (hr.inw hb).2]
theorem push_at_new : (γ.push x c z o).w.heap[(γ.push x c z o).ι.h γ.S.H.length]? = some o := by
  show (γ.w.alloc o).heap[if γ.S.H.length = γ.S.H.length then _ else _]? = _
  rw [if_pos rfl, heap_alloc_new]
theorem rl_push' (hr : Rl γ) (hx : BR γ.cx c z x o)
    (hi : match x with
      | .iter mb left cur => ∃ es en clk since seen c0, γ.S.H[mb]? = some (.amap es) ∧ o = .mapIter (some (γ.ι.h mb)) since seen c0 ∧ γ.w.heap[γ.ι.h mb]? = some (.map en clk) ∧ IR γ.cx left cur en clk since seen c0
      | _ => True) : Rl (γ.push x c z o) where
  lo := by have := hr.lo; simp [Ghost.push]; omega
  bad := hr.bad
  objs := fun b y hb => by
    by_cases hlt : b < γ.S.H.length
    · rw [push_get_lt hlt] at hb
      obtain ⟨q, h1, h2⟩ := hr.objs b y hb
      refine ⟨q, (push_at hr hb).trans h1, ?_⟩
      show BR _ (if b = γ.S.H.length then _ else _) (if b = γ.S.H.length then _ else _) _ _
      rw [if_neg (by omega), if_neg (by omega)]
      exact h2.mono ext_push.le
    · obtain ⟨rfl, rfl⟩ := push_new hb hlt
      refine ⟨o, push_at_new, ?_⟩
      show BR _ (if γ.S.H.length = γ.S.H.length then _ else _) (if γ.S.H.length = γ.S.H.length then _ else _) _ _
      rw [if_pos rfl, if_pos rfl]
      exact hx.mono ext_push.le
  its := fun b mb left cur hb => by
    by_cases hlt : b < γ.S.H.length
    · rw [push_get_lt hlt] at hb
      obtain ⟨es, en, clk, since, seen, c0, h1, h2, h3, h4⟩ := hr.its b mb left cur hb
      have hml := (List.getElem?_eq_some_iff.1 h1).1
      refine ⟨es, en, clk, since, seen, c0, (push_get_lt hml).trans h1, (push_at hr hb).trans ?_, (push_at hr h1).trans h3, h4.mono ext_push.le⟩
      rw [h2]
      show _ = some (Obj.mapIter (some (if mb = γ.S.H.length then _ else _)) _ _ _)
      rw [if_neg (by omega)]
    · obtain ⟨rfl, rfl⟩ := push_new hb hlt
      obtain ⟨es, en, clk, since, seen, c0, h1, rfl, h3, h4⟩ := hi
      have hml := (List.getElem?_eq_some_iff.1 h1).1
      refine ⟨es, en, clk, since, seen, c0, (push_get_lt hml).trans h1, push_at_new.trans ?_, (push_at hr h1).trans h3, h4.mono ext_push.le⟩
      show _ = some (Obj.mapIter (some (if mb = γ.S.H.length then _ else _)) _ _ _)
      rw [if_neg (by omega)]
  toks := fun t g ht => by
    obtain ⟨arr, lo, hi, tp, sz, h1, h2⟩ := hr.toks t g ht
    exact ⟨arr, lo, hi, tp, sz, by rw [show (γ.push x c z o).w.heap[g]? = γ.w.heap[g]? from heap_alloc_old _ _ _ (hr.own _ (.inr ⟨t, ht⟩)).2]; exact h1, h2⟩
  own := fun g hg => by
    have hs : (γ.push x c z o).w.heap.size = γ.w.heap.size + 1 := by simp [Ghost.push]
    have hlo := hr.lo
    show γ.lo ≤ g ∧ _
    rcases hg with ⟨b, hb⟩ | ⟨t, ht⟩
    · rcases push_blkOwns.1 hb with h1 | ⟨_, h1⟩
      · have := hr.own g (.inl ⟨b, h1⟩); omega
      · omega
    · have := hr.own g (.inr ⟨t, ht⟩); omega
  hh := fun b b' g h h' => by
    rcases push_blkOwns.1 h with h1 | ⟨h1, h2⟩ <;> rcases push_blkOwns.1 h' with k1 | ⟨k1, k2⟩
    · exact hr.hh b b' g h1 k1
    · have := (hr.own g (.inl ⟨b, h1⟩)).2; omega
    · have := (hr.own g (.inl ⟨b', k1⟩)).2; omega
    · omega
  ht := fun b t g h ht => by
    rcases push_blkOwns.1 h with h1 | ⟨h1, h2⟩
    · exact hr.ht b t g h1 ht
    · have := (hr.own g (.inr ⟨t, ht⟩)).2; omega
  tt := hr.tt
theorem rl_push (hr : Rl γ) (hz : ∀ e cs, x = .cells e cs → e % 64 = 0 ∨ e % 64 = z)
    (hx : match x with
      | .cells _ cs => ∃ arr ty, o = .cells arr ty (0, 0) ∧ cs.length ≤ arr.size ∧ c * z ≤ arr.size ∧ (∀ (j : Nat) (h : j < cs.length), VR γ.cx (cs[j]) (arr.getD j undef)) ∧ ∀ j, j < cs.length → (arr.getD j undef).oneCell' = true
      | .amap es => es = [] ∧ o = .map #[] 0
      | _ => False) : Rl (γ.push x c z o) := by
  cases x with
  | cells e cs =>
    obtain ⟨arr, ty, h1, h2, h3, h4, h5⟩ := hx
    exact rl_push' hr ⟨arr, ty, h1, h2, h3, h4, h5, hz e cs rfl⟩ trivial
  | amap es =>
    obtain ⟨rfl, rfl⟩ := hx
    exact rl_push' hr ⟨#[], 0, rfl, by simp, by simp, [], by simp, rfl, fun j hj => absurd hj (Nat.not_lt_zero j)⟩ trivial
  | iter mb l q => exact hx.elim
  | loop st pend ps asg body env n => exact hx.elim

theorem push_blk (h0 : x.ep = 0) : (γ.push x c z o).cx.blk γ.S.H.length 0 γ.w.heap.size c :=
  ⟨x, by simp [Ghost.push], ⟨Nat.zero_le _, fun _ => h0⟩, fun _ => by simp [Ghost.push]⟩
theorem push_blk_ep : (γ.push x c z o).cx.blk γ.S.H.length x.ep γ.w.heap.size c :=
  ⟨x, by simp [Ghost.push], ⟨Nat.le_refl _, fun h => h⟩, fun _ => by simp [Ghost.push]⟩
end push

/-! ### A store -/

def Ghost.store (γ : Ghost) (b e : Nat) (cs : List AVal) (o : Nat) (a : AVal) (v : Value) : Ghost :=
  { γ with S := { γ.S with H := γ.S.H.set b (.cells e (cs.set o a)) }, w := γ.w.setCell ⟨γ.ι.h b, o, none⟩ v }

section store
variable {γ : Ghost} {b e o : Nat} {cs : List AVal} {a : AVal} {v : Value}

theorem store_blkOwns {b' g : Nat} : (γ.store b e cs o a v).blkOwns b' g ↔ γ.blkOwns b' g := by simp [Ghost.blkOwns, Ghost.store]

theorem store_heap {k : Nat} (h : k ≠ γ.ι.h b) : (γ.store b e cs o a v).w.heap[k]? = γ.w.heap[k]? := heap_setCell_other γ.w ⟨γ.ι.h b, o, none⟩ k v h

theorem own_store {g : Nat} {t : TypeId} {n : Nat} (ho : γ.own g t n) : (γ.store b e cs o a v).own g t n :=
  own_of (γ := γ) (γ' := γ.store b e cs o a v) rfl (fun g arr ty fz h => by
    by_cases hg : g = γ.ι.h b
    · subst hg
      refine ⟨arr.setIfInBounds o v, fz, ?_, by simp⟩
      show (γ.w.setCell ⟨γ.ι.h b, o, none⟩ v).heap[γ.ι.h b]? = _
      simp only [World.setCell, Array.getElem?_modify, if_true, h]
      simp
    · exact ⟨arr, fz, (store_heap hg).trans h, Nat.le_refl _⟩) ho
theorem ext_store (hb : γ.S.H[b]? = some (.cells e cs)) : Ext γ (γ.store b e cs o a v) where
  bad := rfl
  lo := rfl
  size := by simp [Ghost.store]
  os := rfl
  tape := rfl
  output := rfl
  cell := fun g o' u h => by
    have hlt : b < γ.S.H.length := (List.getElem?_eq_some_iff.1 hb).1
    refine ⟨?_, h.2.1, h.2.2.1, fun b' hb' => h.2.2.2.1 b' (store_blkOwns.1 hb'), h.2.2.2.2⟩
    have hne : g ≠ γ.ι.h b := fun he => h.2.2.2.1 b ⟨hlt, he.symm⟩
    rw [show (γ.store b e cs o a v).w.cell? ⟨g, o', none⟩ = γ.w.cell? ⟨g, o', none⟩ from World.cell?_of_block (w := γ.w) (store_heap hne)]
    exact h.1
  blk := fun b' e' g c ⟨y, h1, h2, h3⟩ => by
    by_cases hbb : b' = b
    · subst hbb
      rw [hb] at h1
      cases h1
      exact ⟨.cells e (cs.set o a), by simp [Ghost.store, (List.getElem?_eq_some_iff.1 hb).1], h2, h3⟩
    · exact ⟨y, by simp only [Ghost.store]; rw [List.getElem?_set_ne (Ne.symm hbb)]; exact h1, h2, h3⟩
  tip := fun _ _ _ _ h => tip_of (γ := γ) (γ' := γ.store b e cs o a v) rfl rfl rfl (fun _ _ => own_store) h
  own := fun _ _ _ => own_store
  frame := fun k _ ho => .inl (store_heap fun he => ho (.inl ⟨b, (List.getElem?_eq_some_iff.1 hb).1, he.symm⟩))
  owns := fun k h => by
    rcases h with ⟨b', hb'⟩ | h
    · exact .inl (.inl ⟨b', store_blkOwns.1 hb'⟩)
    · exact .inl (.inr h)

theorem rl_store (hr : Rl γ) (hb : γ.S.H[b]? = some (.cells e cs)) (hv : VR γ.cx a v) (h1 : v.oneCell' = true) : Rl (γ.store b e cs o a v) where
  lo := by simpa [Ghost.store] using hr.lo
  bad := hr.bad
  objs := fun b' x hb' => by
    have hlt : b < γ.S.H.length := (List.getElem?_eq_some_iff.1 hb).1
    have hb'' : (γ.S.H.set b (.cells e (cs.set o a)))[b']? = some x := hb'
    by_cases hbb : b' = b
    · subst hbb
      rw [List.getElem?_set_self hlt] at hb''
      cases hb''
      obtain ⟨arr, ty, k1, k2, k3, k4, k5⟩ := hr.cells b' e cs hb
      refine ⟨_, heap_setCell_same γ.w _ o arr ty v k1, arr.setIfInBounds o v, ty, rfl, by simpa using k2, by rw [Array.size_setIfInBounds]; exact k3, fun j hj => ?_, fun j hj => ?_, hr.zs b' e cs hb⟩
      · have hj' : j < cs.length := by simpa using hj
        refine VR.ext (ext_store hb) ?_
        by_cases he : o = j
        · subst he
          have : o < arr.size := by omega
          simp [Array.getD, this]; exact hv
        · have := k4 j hj'
          simp only [Array.getD_eq_getD_getElem?, Array.getElem?_setIfInBounds_ne he, List.getElem_set_ne he] at this ⊢
          exact this
      · have hj' : j < cs.length := by simpa using hj
        by_cases he : o = j
        · subst he
          have : o < arr.size := by omega
          simp [Array.getD, this]; exact h1
        · have := k5 j hj'
          simp only [Array.getD_eq_getD_getElem?, Array.getElem?_setIfInBounds_ne he] at this ⊢
          exact this
    · rw [List.getElem?_set_ne (Ne.symm hbb)] at hb''
      obtain ⟨q, k1, k2⟩ := hr.objs b' x hb''
      exact ⟨q, (store_heap (hr.ne hb hb'' hbb)).trans k1, k2.mono (ext_store hb).le⟩
  its := fun b' mb left cur hb' => by
    have hlt : b < γ.S.H.length := (List.getElem?_eq_some_iff.1 hb).1
    have hb'' : (γ.S.H.set b (.cells e (cs.set o a)))[b']? = some (.iter mb left cur) := hb'
    have hbb : b' ≠ b := fun h => by subst h; rw [List.getElem?_set_self hlt] at hb''; cases hb''
    rw [List.getElem?_set_ne (Ne.symm hbb)] at hb''
    obtain ⟨es, en, clk, since, seen, c0, g1, g2, g3, g4⟩ := hr.its b' mb left cur hb''
    have hmb : mb ≠ b := fun h => by subst h; rw [hb] at g1; cases g1
    exact ⟨es, en, clk, since, seen, c0, by show (γ.S.H.set b _)[mb]? = _; rw [List.getElem?_set_ne (Ne.symm hmb)]; exact g1, (store_heap (hr.ne hb hb'' hbb)).trans g2, (store_heap (hr.ne hb g1 hmb)).trans g3, g4.mono (ext_store hb).le⟩
  toks := fun t g ht => by
    have hlt : b < γ.S.H.length := (List.getElem?_eq_some_iff.1 hb).1
    obtain ⟨arr, lo, hi, tp, sz, k1, k2⟩ := hr.toks t g ht
    exact ⟨arr, lo, hi, tp, sz, by rw [store_heap fun he => hr.ht b t g ⟨hlt, he.symm⟩ ht]; exact k1, k2⟩
  own := fun g hg => by
    have : γ.owns g := by
      rcases hg with ⟨b', hb'⟩ | h
      · exact .inl ⟨b', store_blkOwns.1 hb'⟩
      · exact .inr h
    simpa [Ghost.store] using hr.own g this
  hh := fun x y g h h' => hr.hh x y g (store_blkOwns.1 h) (store_blkOwns.1 h')
  ht := fun x t g h ht => hr.ht x t g (store_blkOwns.1 h) ht
  tt := hr.tt

end store

theorem run_store_at {P : Program} {w : World} {g o : Nat} {arr : Array Value} {ty : TypeId} {v : Value} (hg : w.heap[g]? = some (.cells arr ty (0, 0))) (ho : o < arr.size) (h1 : v.oneCell' = true) :
    (Go.store ⟨g, o, none⟩ v).run P w = .ok () (w.setCell ⟨g, o, none⟩ v) := by
  rw [run_store P w _ v _ h1, cell_of_row w g o arr ty (0, 0) hg, Array.getElem?_eq_getElem ho]
  simp [frozen_of_row w g o arr ty hg]

/-- Cells stored one behind the other. -/
theorem run_stores {P : Program} : ∀ (vs : List Value) (as : List AVal) (γ : Ghost) (b e o i : Nat) (cs : List AVal), Rl γ → γ.S.H[b]? = some (.cells e cs) → as.length = vs.length → o + i + as.length ≤ cs.length →
    (∀ (j : Nat) (h : j < as.length), VR γ.cx (as[j]) (vs.getD j undef)) → (∀ j, j < as.length → (vs.getD j undef).oneCell' = true) →
    ∃ γ' : Ghost, (storeCells ⟨γ.ι.h b, o, none⟩ vs i).run P γ.w = .ok () γ'.w ∧ Ext γ γ' ∧ Rl γ' ∧ γ'.S = { γ.S with H := γ.S.H.set b (.cells e (setMany cs (o + i) as)) }
  | [], as, γ, b, e, o, i, cs, hr, hb, hl, _, _, _ => by
    cases as with
    | cons => simp at hl
    | nil =>
      refine ⟨γ, rfl, Ext.refl γ, hr, ?_⟩
      have hlt : b < γ.S.H.length := (List.getElem?_eq_some_iff.1 hb).1
      have : γ.S.H.set b (.cells e cs) = γ.S.H := by
        apply List.ext_getElem?
        intro j
        by_cases hj : b = j
        · subst hj; rw [List.getElem?_set_self hlt, hb]
        · rw [List.getElem?_set_ne hj]
      simp only [setMany, this]
  | v :: vs, [], γ, b, e, o, i, cs, _, _, hl, _, _, _ => by simp at hl
  | v :: vs, a :: as, γ, b, e, o, i, cs, hr, hb, hl, hle, hv, h1 => by
    obtain ⟨arr, ty, k1, k2, k3, k4, k5⟩ := hr.cells b e cs hb
    have hv0 : VR γ.cx a v := hv 0 (Nat.zero_lt_succ _)
    have h10 : v.oneCell' = true := h1 0 (Nat.zero_lt_succ _)
    simp only [List.length_cons] at hle hl
    have hs := run_store_at (P := P) (o := o + i) k1 (by omega) h10
    have hr' := rl_store (o := o + i) hr hb hv0 h10
    have he' := ext_store (γ := γ) (o := o + i) (a := a) (v := v) hb
    have hlt : b < γ.S.H.length := (List.getElem?_eq_some_iff.1 hb).1
    obtain ⟨γ', e1, e2, e3, e4⟩ := run_stores (P := P) vs as (γ.store b e cs (o + i) a v) b e o (i + 1) (cs.set (o + i) a) hr' (by simp [Ghost.store, hlt]) (by omega) (by simp; omega)
      (fun j hj => (hv (j + 1) (Nat.succ_lt_succ hj)).ext he') (fun j hj => h1 (j + 1) (Nat.succ_lt_succ hj))
    refine ⟨γ', ?_, he'.trans e2, e3, ?_⟩
    · simp only [storeCells, Sem.run_bind, Addr.add_lit, hs, Result.andThen_ok]
      exact e1
    · rw [e4]
      simp [Ghost.store, setMany, Nat.add_assoc]

end Go.Hk
