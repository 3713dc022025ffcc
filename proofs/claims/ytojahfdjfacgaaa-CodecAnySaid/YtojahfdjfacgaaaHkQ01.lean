/- The abstract values of the general walk, what they say of a machine's value, and how the world may go on. -/
import Derived.Below
import Derived.Orders
import Derived.Laws.Cells
import Derived.Laws.Rows
import Derived.Laws.StructEq
import Derived.Laws.Append
import Derived.Tactics
namespace Go.Hk
open Go.RowKit

/-- What may be appended to a slice: nothing is known; its capacity is its length; it bears the token t; it is nil. -/
inductive Rt where
  | no | full | tok (t : Nat) | nil
  deriving DecidableEq

inductive AVal where
  | dead
  | undef
  | bool (b : Bool)
  | int (k : IntKind) (n : Int)
  | str (s : List UInt8)
  | nilp
  | ptr (b e o : Nat)
  | ipt (cs : List AVal) (o : Nat)
  | sl (r : Rt) (n : Nat) (cs : List AVal)
  | msl (b e o n k : Nat)
  | nilm
  | map (b : Nat)
  | fn (f : FuncId) (first caps : List AVal)
  | nilf
  | ifc (t : TypeId) (v : AVal)
  | nili
  | agg (cs : List AVal)
  | tup (a : AVal) (vs : List AVal)
  | dpt (t : TypeId) (cs : List AVal)
  | tpt (t : TypeId) (b n : Nat)
  | yld (b : Nat)

/-- A block of memory that may be written. -/
inductive ABlk where
  | cells (e : Nat) (cs : List AVal)
  | amap (es : List (AVal × AVal))
  | iter (mb : Nat) (left : List (AVal × AVal)) (cur : Option (AVal × AVal))
  | loop (st : LoopState) (pend : Option Code) (ps : Array Tmp) (asg body : Code) (env : List (Nat × AVal)) (n : Nat)

/-- What the values' meaning leans on. -/
structure Cx where
  cell : Nat → Nat → Value → Prop
  blk : Nat → Nat → Nat → Nat → Prop
  tip : Nat → Nat → Option Nat → Nat → Prop
  own : Nat → TypeId → Nat → Prop

def rtOK (κ : Cx) (r : Rt) (n len : Nat) (base : Option Nat) (k cap : Nat) : Prop :=
  match r with
  | .no => True
  | .full => cap = n
  | .nil => base = none ∧ cap = n
  | .tok t => κ.tip t len base cap ∧ (k = 0 ∨ cap = 0)

inductive VR (κ : Cx) : AVal → Value → Prop where
  | dead (v : Value) : VR κ .dead v
  | undef : VR κ .undef (.tuple #[])
  | bool (b : Bool) : VR κ (.bool b) (.bool b)
  | int (k : IntKind) (n : Int) : VR κ (.int k n) (.int k n)
  | str (s : List UInt8) : VR κ (.str s) (.string ⟨s.toArray⟩)
  | nilp : VR κ .nilp (.pointer none)
  | ptr (b e o g c : Nat) (h : κ.blk b e g c) : VR κ (.ptr b e o) (.pointer (some ⟨g, o, none⟩))
  | ipt (cs : List AVal) (o g k : Nat) (f : Nat → Value) (hc : ∀ j, j < cs.length → κ.cell g (k + j) (f j)) (hv : ∀ (j : Nat) (h : j < cs.length), VR κ (cs[j]) (f j)) :
      VR κ (.ipt cs o) (.pointer (some ⟨g, k + o, none⟩))
  | slnil (r : Rt) (hr : rtOK κ r 0 0 none 0 0) : VR κ (.sl r 0 []) (.slice none 0 0)
  | slz (a : Addr) (cap : Nat) : VR κ (.sl .no 0 []) (.slice (some a) 0 cap)
  | sl (r : Rt) (n : Nat) (cs : List AVal) (g k cap : Nat) (f : Nat → Value) (hn : n ≤ cap) (hc : ∀ j, j < cs.length → κ.cell g (k + j) (f j))
      (hv : ∀ (j : Nat) (h : j < cs.length), VR κ (cs[j]) (f j)) (hr : rtOK κ r n cs.length (some g) k cap) :
      VR κ (.sl r n cs) (.slice (some ⟨g, k, none⟩) n cap)
  | msl (b e o n k g c cap : Nat) (h : κ.blk b e g c) (hn : n ≤ cap) (ho : o = 0 → cap = c) : VR κ (.msl b e o n k) (.slice (some ⟨g, o, none⟩) n cap)
  | nilm : VR κ .nilm (.map none)
  | map (b g c : Nat) (h : κ.blk b 0 g c) : VR κ (.map b) (.map (some g))
  | fn (f : FuncId) (first caps : List AVal) (xs ys : Array Value) (h1 : xs.size = first.length) (h2 : ys.size = caps.length)
      (hx : ∀ (j : Nat) (h : j < first.length), VR κ (first[j]) (xs.getD j undef)) (hy : ∀ (j : Nat) (h : j < caps.length), VR κ (caps[j]) (ys.getD j undef)) :
      VR κ (.fn f first caps) (.func (.func f) xs ys)
  | nilf : VR κ .nilf .nilFunc
  | ifc (t : TypeId) (a : AVal) (v : Value) (h : VR κ a v) : VR κ (.ifc t a) (.iface t v)
  | nili : VR κ .nili .nilIface
  | agg (cs : List AVal) (vs : Array Value) (hs : vs.size = cs.length) (hv : ∀ (j : Nat) (h : j < cs.length), VR κ (cs[j]) (vs.getD j undef)) (ho : ∀ j, j < cs.length → (vs.getD j undef).oneCell' = true) : VR κ (.agg cs) (.agg vs)
  | tup (a : AVal) (cs : List AVal) (vs : Array Value) (hs : vs.size = (a :: cs).length) (hv : ∀ (j : Nat) (h : j < (a :: cs).length), VR κ ((a :: cs)[j]) (vs.getD j undef)) : VR κ (.tup a cs) (.tuple vs)
  | dpz (t : TypeId) (p : Option Addr) : VR κ (.dpt t []) (.pointer p)
  | dpt (t : TypeId) (cs : List AVal) (g : Nat) (f : Nat → Value) (hc : ∀ j, j < cs.length → κ.cell g j (f j)) (hv : ∀ (j : Nat) (h : j < cs.length), VR κ (cs[j]) (f j)) (ho : κ.own g t 0) : VR κ (.dpt t cs) (.pointer (some ⟨g, 0, none⟩))
  | tpt (t : TypeId) (b n g c : Nat) (h : κ.blk b 0 g c) (ho : κ.own g t n) : VR κ (.tpt t b n) (.pointer (some ⟨g, 0, none⟩))
  | yld (b g c : Nat) (h : κ.blk b 0 g c) : VR κ (.yld b) (.func (.yield g) #[] #[])

structure Cx.le (κ κ' : Cx) : Prop where
  cell : ∀ g o v, κ.cell g o v → κ'.cell g o v
  blk : ∀ b e g c, κ.blk b e g c → κ'.blk b e g c
  tip : ∀ t len base cap, κ.tip t len base cap → κ'.tip t len base cap
  own : ∀ g t n, κ.own g t n → κ'.own g t n

theorem Cx.le.refl (κ : Cx) : κ.le κ := ⟨fun _ _ _ h => h, fun _ _ _ _ h => h, fun _ _ _ _ h => h, fun _ _ _ h => h⟩
theorem Cx.le.trans {a b c : Cx} (h : a.le b) (k : b.le c) : a.le c :=
  ⟨fun _ _ _ x => k.cell _ _ _ (h.cell _ _ _ x), fun _ _ _ _ x => k.blk _ _ _ _ (h.blk _ _ _ _ x), fun _ _ _ _ x => k.tip _ _ _ _ (h.tip _ _ _ _ x), fun _ _ _ x => k.own _ _ _ (h.own _ _ _ x)⟩

theorem rtOK.mono {κ κ' : Cx} (h : κ.le κ') {r : Rt} {n len : Nat} {base : Option Nat} {k cap : Nat} (hr : rtOK κ r n len base k cap) : rtOK κ' r n len base k cap := by
  cases r with
  | no => trivial
  | full => exact hr
  | nil => exact hr
  | tok t => exact ⟨h.tip _ _ _ _ hr.1, hr.2⟩

theorem VR.mono {κ κ' : Cx} (h : κ.le κ') {a : AVal} {v : Value} (hv : VR κ a v) : VR κ' a v := by
  induction hv with
  | dead v => exact .dead v
  | undef => exact .undef
  | bool b => exact .bool b
  | int k n => exact .int k n
  | str s => exact .str s
  | nilp => exact .nilp
  | ptr b e o g c hb => exact .ptr b e o g c (h.blk _ _ _ _ hb)
  | ipt cs o g k f hc _ ih => exact .ipt cs o g k f (fun j hj => h.cell _ _ _ (hc j hj)) ih
  | slnil r hr => exact .slnil r (hr.mono h)
  | slz a cap => exact .slz a cap
  | sl r n cs g k cap f hn hc _ hr ih => exact .sl r n cs g k cap f hn (fun j hj => h.cell _ _ _ (hc j hj)) ih (hr.mono h)
  | msl b e o n k g c cap hb hn ho => exact .msl b e o n k g c cap (h.blk _ _ _ _ hb) hn ho
  | nilm => exact .nilm
  | map b g c hb => exact .map b g c (h.blk _ _ _ _ hb)
  | fn f first caps xs ys h1 h2 _ _ ih1 ih2 => exact .fn f first caps xs ys h1 h2 ih1 ih2
  | nilf => exact .nilf
  | ifc t a v _ ih => exact .ifc t a v ih
  | nili => exact .nili
  | agg cs vs hs _ ho ih => exact .agg cs vs hs ih ho
  | tup a cs vs hs _ ih => exact .tup a cs vs hs ih
  | dpz t p => exact .dpz t p
  | dpt t cs g f hc _ ho ih => exact .dpt t cs g f (fun j hj => h.cell _ _ _ (hc j hj)) ih (h.own _ _ _ ho)
  | tpt t b n g c hb ho => exact .tpt t b n g c (h.blk _ _ _ _ hb) (h.own _ _ _ ho)
  | yld b g c hb => exact .yld b g c (h.blk _ _ _ _ hb)

/-- The environment: what the temporaries hold, the youngest first. -/
def lk : List (Nat × AVal) → Nat → AVal
  | [], _ => .dead
  | (k, v) :: r, t => if k = t then v else lk r t

def ER (κ : Cx) (env : List (Nat × AVal)) (tmps : Array Value) : Prop := ∀ t, VR κ (lk env t) (tmps.getD t undef)

theorem ER.mono {κ κ' : Cx} (h : κ.le κ') {env : List (Nat × AVal)} {tmps : Array Value} (he : ER κ env tmps) : ER κ' env tmps := fun t => (he t).mono h

/-- Entries, one by one. -/
def AL (κ : Cx) (es : List (AVal × AVal)) (l : List MapEntry) : Prop := l.length = es.length ∧ ∀ (j : Nat) (h : j < es.length) (h' : j < l.length), VR κ es[j].1 l[j].key ∧ VR κ es[j].2 l[j].val
theorem AL.mono {κ κ' : Cx} (h : κ.le κ') {es : List (AVal × AVal)} {l : List MapEntry} (ha : AL κ es l) : AL κ' es l := ⟨ha.1, fun j hj hj' => ⟨(ha.2 j hj hj').1.mono h, (ha.2 j hj hj').2.mono h⟩⟩

/-- A map's entries are these, in whatever order. -/
structure MR (κ : Cx) (es : List (AVal × AVal)) (en : Array MapEntry) (clk : Nat) : Prop where
  born : (en.toList.map (·.born)).Nodup
  lt : ∀ x ∈ en.toList, x.born < clk
  perm : ∃ l : List MapEntry, l.Perm en.toList ∧ AL κ es l
theorem MR.mono {κ κ' : Cx} (h : κ.le κ') {es : List (AVal × AVal)} {en : Array MapEntry} {clk : Nat} (hm : MR κ es en clk) : MR κ' es en clk :=
  ⟨hm.born, hm.lt, let ⟨l, h1, h2⟩ := hm.perm; ⟨l, h1, h2.mono h⟩⟩
theorem MR.size {κ : Cx} {es : List (AVal × AVal)} {en : Array MapEntry} {clk : Nat} (hm : MR κ es en clk) : en.size = es.length := by
  obtain ⟨l, h1, h2⟩ := hm.perm
  have := h1.length_eq
  rw [h2.1] at this
  simpa using this.symm

/-- An iterator over a map: what is still to come, and what came last. -/
structure IR (κ : Cx) (left : List (AVal × AVal)) (cur : Option (AVal × AVal)) (en : Array MapEntry) (clk since : Nat) (seen : Array Nat) (c0 : Nat) : Prop where
  old : ∀ x ∈ en.toList, x.born < since
  sc : since ≤ c0
  sk : since ≤ clk
  left : ∃ l : List MapEntry, l.Perm (en.toList.filter fun x => !seen.contains x.born) ∧ AL κ left l
  cur : match cur with
    | none => True
    | some p => ∃ x ∈ en.toList, ∃ seen0 : Array Nat, seen = seen0.push x.born ∧ c0 = clk ∧ VR κ p.1 x.key ∧ VR κ p.2 x.val
theorem IR.mono {κ κ' : Cx} (h : κ.le κ') {left : List (AVal × AVal)} {cur : Option (AVal × AVal)} {en : Array MapEntry} {clk since : Nat} {seen : Array Nat} {c0 : Nat} (hm : IR κ left cur en clk since seen c0) : IR κ' left cur en clk since seen c0 :=
  ⟨hm.old, hm.sc, hm.sk, let ⟨l, h1, h2⟩ := hm.left; ⟨l, h1, h2.mono h⟩, by
    have := hm.cur
    cases cur with
    | none => trivial
    | some p => obtain ⟨x, a, s, b, c, d, e⟩ := this; exact ⟨x, a, s, b, c, d.mono h, e.mono h⟩⟩

/-- What a block says of an object. -/
def BR (κ : Cx) (c z : Nat) : ABlk → Obj → Prop
  | .cells e cs, o => ∃ arr ty, o = .cells arr ty (0, 0) ∧ cs.length ≤ arr.size ∧ c * z ≤ arr.size ∧ (∀ (j : Nat) (h : j < cs.length), VR κ (cs[j]) (arr.getD j undef)) ∧ (∀ j, j < cs.length → (arr.getD j undef).oneCell' = true) ∧ (e % 64 = 0 ∨ e % 64 = z)
  | .amap es, o => ∃ en clk, o = .map en clk ∧ MR κ es en clk
  | .iter _ _ _, o => ∃ m s a q, o = .mapIter m s a q
  | .loop st pend ps asg body env n, o => ∃ r : Loop, o = .loop r ∧ r.state = st ∧ r.pending = pend ∧ r.params = ps ∧ r.assign = asg ∧ r.body = body ∧ ER κ env r.tmps ∧ r.tmps.size = n
theorem BR.mono {κ κ' : Cx} (h : κ.le κ') {c z : Nat} {x : ABlk} {o : Obj} (hb : BR κ c z x o) : BR κ' c z x o := by
  cases x with
  | cells e cs => obtain ⟨arr, ty, h1, h2, h3, h4, h5⟩ := hb; exact ⟨arr, ty, h1, h2, h3, fun j hj => (h4 j hj).mono h, h5⟩
  | amap es => obtain ⟨en, clk, h1, h2⟩ := hb; exact ⟨en, clk, h1, h2.mono h⟩
  | iter mb l q => exact hb
  | loop st pend ps asg body env n => obtain ⟨r, h1, h2, h3, h4, h5, h6, h7, h8⟩ := hb; exact ⟨r, h1, h2, h3, h4, h5, h6, h7.mono h, h8⟩

/-- The abstract memory: blocks that may be written, and how long what may be appended to is (in cells, with an element's size). -/
structure AMem where
  H : List ABlk
  T : List (Nat × (Nat × Nat))

/-- Where the abstract memory lies. -/
structure Inj where
  h : Nat → Nat
  c : Nat → Nat
  z : Nat → Nat
  tb : Nat → Option Nat
  tc : Nat → Nat

structure Ghost where
  bad : Nat → Nat → Prop
  lo : Nat
  S : AMem
  ι : Inj
  w : World

/-- A token's own room: behind its tip. -/
def Ghost.tokOwns (γ : Ghost) (t g : Nat) : Prop := ∃ tp sz, γ.S.T[t]? = some (tp, sz) ∧ γ.ι.tb t = some g ∧ tp < γ.ι.tc t * sz.1

def Ghost.blkOwns (γ : Ghost) (b g : Nat) : Prop := b < γ.S.H.length ∧ γ.ι.h b = g

def Ghost.owns (γ : Ghost) (g : Nat) : Prop := (∃ b, γ.blkOwns b g) ∨ ∃ t, γ.tokOwns t g

def Ghost.cell (γ : Ghost) (g o : Nat) (v : Value) : Prop :=
  γ.w.cell? ⟨g, o, none⟩ = some v ∧ v.oneCell' = true ∧ ¬ γ.bad g o ∧ (∀ b, ¬ γ.blkOwns b g) ∧ ∀ t, γ.tokOwns t g → ∃ tp sz, γ.S.T[t]? = some (tp, sz) ∧ o < tp

def ABlk.ep : ABlk → Nat
  | .cells e _ => e
  | _ => 0

/-- A row of cells of this type, laid since the walk began. -/
def Ghost.own (γ : Ghost) (g : Nat) (t : TypeId) (n : Nat) : Prop := γ.lo ≤ g ∧ ∃ arr fz, γ.w.heap[g]? = some (.cells arr t fz) ∧ n ≤ arr.size

def Ghost.cx (γ : Ghost) : Cx where
  cell := γ.cell
  blk b e g c := ∃ x, γ.S.H[b]? = some x ∧ (e ≤ x.ep ∧ (e = 0 → x.ep = 0)) ∧ (e = x.ep → γ.ι.h b = g ∧ γ.ι.c b = c)
  tip t len base cap := ∃ tp sz, γ.S.T[t]? = some (tp, sz) ∧ len ≤ tp ∧ (len = tp → γ.ι.tb t = base ∧ γ.ι.tc t = cap) ∧ (0 < len → ∀ g, base = some g → γ.own g sz.2 0)
  own := γ.own

/-- The abstract memory is what lies in the world. -/
structure Rl (γ : Ghost) : Prop where
  lo : γ.lo ≤ γ.w.heap.size
  bad : ∀ g o, γ.bad g o → g < γ.lo
  objs : ∀ (b : Nat) (x : ABlk), γ.S.H[b]? = some x → ∃ o, γ.w.heap[γ.ι.h b]? = some o ∧ BR γ.cx (γ.ι.c b) (γ.ι.z b) x o
  its : ∀ (b mb : Nat) (left : List (AVal × AVal)) (cur : Option (AVal × AVal)), γ.S.H[b]? = some (.iter mb left cur) → ∃ es en clk since seen c0, γ.S.H[mb]? = some (.amap es) ∧ γ.w.heap[γ.ι.h b]? = some (.mapIter (some (γ.ι.h mb)) since seen c0) ∧
    γ.w.heap[γ.ι.h mb]? = some (.map en clk) ∧ IR γ.cx left cur en clk since seen c0
  toks : ∀ (t g : Nat), γ.tokOwns t g → ∃ arr lo hi tp sz, γ.w.heap[g]? = some (.cells arr sz.2 (lo, hi)) ∧ γ.S.T[t]? = some (tp, sz) ∧ γ.ι.tc t * sz.1 ≤ arr.size ∧ hi ≤ tp
  own : ∀ g, γ.owns g → γ.lo ≤ g ∧ g < γ.w.heap.size
  hh : ∀ b b' g, γ.blkOwns b g → γ.blkOwns b' g → b = b'
  ht : ∀ b t g, γ.blkOwns b g → γ.tokOwns t g → False
  tt : ∀ t t' g, γ.tokOwns t g → γ.tokOwns t' g → t = t'
theorem Rl.cells {γ : Ghost} (hr : Rl γ) (b e : Nat) (cs : List AVal) (hb : γ.S.H[b]? = some (.cells e cs)) : ∃ arr ty, γ.w.heap[γ.ι.h b]? = some (.cells arr ty (0, 0)) ∧ cs.length ≤ arr.size ∧ γ.ι.c b * γ.ι.z b ≤ arr.size ∧
    (∀ (j : Nat) (h : j < cs.length), VR γ.cx (cs[j]) (arr.getD j undef)) ∧ ∀ j, j < cs.length → (arr.getD j undef).oneCell' = true := by
  obtain ⟨o, h1, arr, ty, rfl, h2, h3, h4, h5, _⟩ := hr.objs b _ hb
  exact ⟨arr, ty, h1, h2, h3, h4, h5⟩
theorem Rl.zs {γ : Ghost} (hr : Rl γ) (b e : Nat) (cs : List AVal) (hb : γ.S.H[b]? = some (.cells e cs)) : e % 64 = 0 ∨ e % 64 = γ.ι.z b := by
  obtain ⟨o, h1, arr, ty, rfl, h2, h3, h4, h5, h6⟩ := hr.objs b _ hb
  exact h6
theorem Rl.maps {γ : Ghost} (hr : Rl γ) (b : Nat) (es : List (AVal × AVal)) (hb : γ.S.H[b]? = some (.amap es)) : ∃ en clk, γ.w.heap[γ.ι.h b]? = some (.map en clk) ∧ MR γ.cx es en clk := by
  obtain ⟨o, h1, en, clk, rfl, h2⟩ := hr.objs b _ hb
  exact ⟨en, clk, h1, h2⟩
/-- What is not owned stays, but for what is frozen in it. -/
def Keeps (lo : Nat) (w w' : World) (k : Nat) : Prop := w'.heap[k]? = w.heap[k]? ∨ (lo ≤ k ∧ ∃ arr ty f f', w.heap[k]? = some (.cells arr ty f) ∧ w'.heap[k]? = some (.cells arr ty f'))
theorem Keeps.trans {lo : Nat} {a b c : World} {k : Nat} (h : Keeps lo a b k) (g : Keeps lo b c k) : Keeps lo a c k := by
  rcases h with h | ⟨hl, arr, ty, f, f', h1, h2⟩ <;> rcases g with g | ⟨gl, arr', ty', f2, f2', g1, g2⟩
  · exact .inl (g.trans h)
  · exact .inr ⟨gl, arr', ty', f2, f2', by rw [← h]; exact g1, g2⟩
  · exact .inr ⟨hl, arr, ty, f, f', h1, by rw [g]; exact h2⟩
  · rw [h2] at g1
    cases g1
    exact .inr ⟨hl, arr, ty, f, f2', h1, g2⟩
theorem Keeps.same {lo : Nat} {w w' : World} {k : Nat} (h : w'.heap[k]? = w.heap[k]?) : Keeps lo w w' k := .inl h

/-- The world goes on. -/
structure Ext (γ γ' : Ghost) : Prop where
  bad : γ'.bad = γ.bad
  lo : γ'.lo = γ.lo
  size : γ.w.heap.size ≤ γ'.w.heap.size
  os : γ'.w.os = γ.w.os
  tape : γ'.w.tape = γ.w.tape
  output : γ'.w.output = γ.w.output
  cell : ∀ g o v, γ.cell g o v → γ'.cell g o v
  blk : ∀ b e g c, γ.cx.blk b e g c → γ'.cx.blk b e g c
  tip : ∀ t len base cap, γ.cx.tip t len base cap → γ'.cx.tip t len base cap
  own : ∀ g t n, γ.own g t n → γ'.own g t n
  frame : ∀ k, k < γ.w.heap.size → ¬ γ.owns k → Keeps γ.lo γ.w γ'.w k
  owns : ∀ k, γ'.owns k → γ.owns k ∨ γ.w.heap.size ≤ k

theorem Ext.le {γ γ' : Ghost} (h : Ext γ γ') : γ.cx.le γ'.cx := ⟨h.cell, h.blk, h.tip, h.own⟩

theorem Ext.refl (γ : Ghost) : Ext γ γ :=
  ⟨rfl, rfl, Nat.le_refl _, rfl, rfl, rfl, fun _ _ _ h => h, fun _ _ _ _ h => h, fun _ _ _ _ h => h, fun _ _ _ h => h, fun _ _ _ => .inl rfl, fun _ h => .inl h⟩

theorem Ext.trans {a b c : Ghost} (h : Ext a b) (k : Ext b c) : Ext a c where
  bad := k.bad.trans h.bad
  lo := k.lo.trans h.lo
  size := Nat.le_trans h.size k.size
  os := k.os.trans h.os
  tape := k.tape.trans h.tape
  output := k.output.trans h.output
  cell := fun _ _ _ x => k.cell _ _ _ (h.cell _ _ _ x)
  blk := fun _ _ _ _ x => k.blk _ _ _ _ (h.blk _ _ _ _ x)
  tip := fun _ _ _ _ x => k.tip _ _ _ _ (h.tip _ _ _ _ x)
  own := fun _ _ _ x => k.own _ _ _ (h.own _ _ _ x)
  frame := fun i hi ho => by
    have h2 := k.frame i (Nat.lt_of_lt_of_le hi h.size) (fun hb => by rcases h.owns i hb with h1 | h1; exact ho h1; omega)
    rw [h.lo] at h2
    exact (h.frame i hi ho).trans h2
  owns := fun i hi => by
    rcases k.owns i hi with h1 | h1
    · exact h.owns i h1
    · exact .inr (Nat.le_trans h.size h1)

/-- The same, where no more than the first blocks and tokens still count. -/
structure ExtN (hk tk : Nat) (γ γ' : Ghost) : Prop where
  bad : γ'.bad = γ.bad
  lo : γ'.lo = γ.lo
  size : γ.w.heap.size ≤ γ'.w.heap.size
  os : γ'.w.os = γ.w.os
  tape : γ'.w.tape = γ.w.tape
  output : γ'.w.output = γ.w.output
  cell : ∀ g o v, γ.cell g o v → γ'.cell g o v
  blk : ∀ b e g c, b < hk → γ.cx.blk b e g c → γ'.cx.blk b e g c
  tip : ∀ t len base cap, t < tk → γ.cx.tip t len base cap → γ'.cx.tip t len base cap
  own : ∀ g t n, γ.own g t n → γ'.own g t n
  frame : ∀ k, k < γ.w.heap.size → ¬ γ.owns k → Keeps γ.lo γ.w γ'.w k
  owns : ∀ k, γ'.owns k → γ.owns k ∨ γ.w.heap.size ≤ k

theorem Ext.toN {γ γ' : Ghost} (h : Ext γ γ') {hk tk : Nat} : ExtN hk tk γ γ' :=
  ⟨h.bad, h.lo, h.size, h.os, h.tape, h.output, h.cell, fun _ _ _ _ _ x => h.blk _ _ _ _ x, fun _ _ _ _ _ x => h.tip _ _ _ _ x, h.own, h.frame, h.owns⟩
theorem ExtN.refl {hk tk : Nat} (γ : Ghost) : ExtN hk tk γ γ := (Ext.refl γ).toN
theorem ExtN.trans {hk tk : Nat} {a b c : Ghost} (h : ExtN hk tk a b) (k : ExtN hk tk b c) : ExtN hk tk a c where
  bad := k.bad.trans h.bad
  lo := k.lo.trans h.lo
  size := Nat.le_trans h.size k.size
  os := k.os.trans h.os
  tape := k.tape.trans h.tape
  output := k.output.trans h.output
  cell := fun _ _ _ x => k.cell _ _ _ (h.cell _ _ _ x)
  blk := fun _ _ _ _ hb x => k.blk _ _ _ _ hb (h.blk _ _ _ _ hb x)
  tip := fun _ _ _ _ ht x => k.tip _ _ _ _ ht (h.tip _ _ _ _ ht x)
  own := fun _ _ _ x => k.own _ _ _ (h.own _ _ _ x)
  frame := fun i hi ho => by
    have h2 := k.frame i (Nat.lt_of_lt_of_le hi h.size) (fun hb => by rcases h.owns i hb with h1 | h1; exact ho h1; omega)
    rw [h.lo] at h2
    exact (h.frame i hi ho).trans h2
  owns := fun i hi => by
    rcases k.owns i hi with h1 | h1
    · exact h.owns i h1
    · exact .inr (Nat.le_trans h.size h1)
theorem ExtN.full {γ γ' : Ghost} (h : ExtN γ.S.H.length γ.S.T.length γ γ') : Ext γ γ' :=
  ⟨h.bad, h.lo, h.size, h.os, h.tape, h.output, h.cell,
    fun b e g c x => h.blk b e g c (by obtain ⟨y, hy, _⟩ := x; exact (List.getElem?_eq_some_iff.1 hy).1) x,
    fun t len base cap x => h.tip t len base cap (by obtain ⟨tp, sz, hy, _⟩ := x; exact (List.getElem?_eq_some_iff.1 hy).1) x, h.own, h.frame, h.owns⟩

theorem VR.ext {γ γ' : Ghost} (h : Ext γ γ') {a : AVal} {v : Value} (hv : VR γ.cx a v) : VR γ'.cx a v := hv.mono h.le

structure St where
  env : List (Nat × AVal)
  m : AMem

theorem ER.put {κ : Cx} {env : List (Nat × AVal)} {tmps : Array Value} (he : ER κ env tmps) {d : Nat} (hd : d < tmps.size) {a : AVal} {v : Value} (hv : VR κ a v) : ER κ ((d, a) :: env) (tmps.setIfInBounds d v) := by
  intro t
  simp only [lk]
  by_cases h : d = t
  · subst h
    rw [if_pos rfl]
    simpa [Array.getD, hd] using hv
  · rw [if_neg h]
    have := he t
    simp only [Array.getD_eq_getD_getElem?, Array.getElem?_setIfInBounds_ne h] at this ⊢
    exact this

end Go.Hk
