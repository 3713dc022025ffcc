import Derived.Below
import Derived.Orders
import Derived.Laws.Cells
import Derived.Laws.Rows
import Derived.Laws.StructEq
import Derived.Laws.Append
import Derived.Tactics
import Derived.Laws.Small
import Derived.Laws.Strings
namespace Go.Hk
open Go.RowKit

inductive Rt where
  | no | full | tok (t : Nat) | nil
  deriving DecidableEq

inductive AVal where
  | dead
  | undef
  | bool (b : Bool)
  | int (k : IntKind) (n : Int)
  | str (s : List UInt8)
  | nilp
  | ptr (b e o : Nat)
  | ipt (cs : List AVal) (o : Nat)
  | sl (r : Rt) (n : Nat) (cs : List AVal)
  | msl (b e o n k : Nat)
  | nilm
  | map (b : Nat)
  | fn (f : FuncId) (first caps : List AVal)
  | nilf
  | ifc (t : TypeId) (v : AVal)
  | nili
  | agg (cs : List AVal)
  | tup (a : AVal) (vs : List AVal)
  | dpt (t : TypeId) (cs : List AVal)
  | tpt (t : TypeId) (b n : Nat)
  | yld (b : Nat)

inductive ABlk where
  | cells (e : Nat) (cs : List AVal)
  | amap (es : List (AVal × AVal))
  | iter (mb : Nat) (left : List (AVal × AVal)) (cur : Option (AVal × AVal))
  | loop (st : LoopState) (pend : Option Code) (ps : Array Tmp) (asg body : Code) (env : List (Nat × AVal)) (n : Nat)

structure Cx where
  cell : Nat → Nat → Value → Prop
  blk : Nat → Nat → Nat → Nat → Prop
  tip : Nat → Nat → Option Nat → Nat → Prop
  own : Nat → TypeId → Nat → Prop

def rtOK (κ : Cx) (r : Rt) (n len : Nat) (base : Option Nat) (k cap : Nat) : Prop :=
  match r with
  | .no => True
  | .full => cap = n
  | .nil => base = none ∧ cap = n
  | .tok t => κ.tip t len base cap ∧ (k = 0 ∨ cap = 0)

inductive VR (κ : Cx) : AVal → Value → Prop where
  | dead (v : Value) : VR κ .dead v
  | undef : VR κ .undef (.tuple #[])
  | bool (b : Bool) : VR κ (.bool b) (.bool b)
  | int (k : IntKind) (n : Int) : VR κ (.int k n) (.int k n)
  | str (s : List UInt8) : VR κ (.str s) (.string ⟨s.toArray⟩)
  | nilp : VR κ .nilp (.pointer none)
  | ptr (b e o g c : Nat) (h : κ.blk b e g c) : VR κ (.ptr b e o) (.pointer (some ⟨g, o, none⟩))
  | ipt (cs : List AVal) (o g k : Nat) (f : Nat → Value) (hc : ∀ j, j < cs.length → κ.cell g (k + j) (f j)) (hv : ∀ (j : Nat) (h : j < cs.length), VR κ (cs[j]) (f j)) :
      VR κ (.ipt cs o) (.pointer (some ⟨g, k + o, none⟩))
  | slnil (r : Rt) (hr : rtOK κ r 0 0 none 0 0) : VR κ (.sl r 0 []) (.slice none 0 0)
  | slz (a : Addr) (cap : Nat) : VR κ (.sl .no 0 []) (.slice (some a) 0 cap)
  | sl (r : Rt) (n : Nat) (cs : List AVal) (g k cap : Nat) (f : Nat → Value) (hn : n ≤ cap) (hc : ∀ j, j < cs.length → κ.cell g (k + j) (f j))
      (hv : ∀ (j : Nat) (h : j < cs.length), VR κ (cs[j]) (f j)) (hr : rtOK κ r n cs.length (some g) k cap) :
      VR κ (.sl r n cs) (.slice (some ⟨g, k, none⟩) n cap)
  | msl (b e o n k g c cap : Nat) (h : κ.blk b e g c) (hn : n ≤ cap) (ho : o = 0 → cap = c) : VR κ (.msl b e o n k) (.slice (some ⟨g, o, none⟩) n cap)
  | nilm : VR κ .nilm (.map none)
  | map (b g c : Nat) (h : κ.blk b 0 g c) : VR κ (.map b) (.map (some g))
  | fn (f : FuncId) (first caps : List AVal) (xs ys : Array Value) (h1 : xs.size = first.length) (h2 : ys.size = caps.length)
      (hx : ∀ (j : Nat) (h : j < first.length), VR κ (first[j]) (xs.getD j undef)) (hy : ∀ (j : Nat) (h : j < caps.length), VR κ (caps[j]) (ys.getD j undef)) :
      VR κ (.fn f first caps) (.func (.func f) xs ys)
  | nilf : VR κ .nilf .nilFunc
  | ifc (t : TypeId) (a : AVal) (v : Value) (h : VR κ a v) : VR κ (.ifc t a) (.iface t v)
  | nili : VR κ .nili .nilIface
  | agg (cs : List AVal) (vs : Array Value) (hs : vs.size = cs.length) (hv : ∀ (j : Nat) (h : j < cs.length), VR κ (cs[j]) (vs.getD j undef)) (ho : ∀ j, j < cs.length → (vs.getD j undef).oneCell' = true) : VR κ (.agg cs) (.agg vs)
  | tup (a : AVal) (cs : List AVal) (vs : Array Value) (hs : vs.size = (a :: cs).length) (hv : ∀ (j : Nat) (h : j < (a :: cs).length), VR κ ((a :: cs)[j]) (vs.getD j undef)) : VR κ (.tup a cs) (.tuple vs)
  | dpz (t : TypeId) (p : Option Addr) : VR κ (.dpt t []) (.pointer p)
  | dpt (t : TypeId) (cs : List AVal) (g : Nat) (f : Nat → Value) (hc : ∀ j, j < cs.length → κ.cell g j (f j)) (hv : ∀ (j : Nat) (h : j < cs.length), VR κ (cs[j]) (f j)) (ho : κ.own g t 0) : VR κ (.dpt t cs) (.pointer (some ⟨g, 0, none⟩))
  | tpt (t : TypeId) (b n g c : Nat) (h : κ.blk b 0 g c) (ho : κ.own g t n) : VR κ (.tpt t b n) (.pointer (some ⟨g, 0, none⟩))
  | yld (b g c : Nat) (h : κ.blk b 0 g c) : VR κ (.yld b) (.func (.yield g) #[] #[])

structure Cx.le (κ κ' : Cx) : Prop where
  cell : ∀ g o v, κ.cell g o v → κ'.cell g o v
  blk : ∀ b e g c, κ.blk b e g c → κ'.blk b e g c
  tip : ∀ t len base cap, κ.tip t len base cap → κ'.tip t len base cap
  own : ∀ g t n, κ.own g t n → κ'.own g t n

theorem Cx.le.refl (κ : Cx) : κ.le κ := ⟨fun _ _ _ h => h, fun _ _ _ _ h => h, fun _ _ _ _ h => h, fun _ _ _ h => h⟩
theorem Cx.le.trans {a b c : Cx} (h : a.le b) (k : b.le c) : a.le c :=
  ⟨fun _ _ _ x => k.cell _ _ _ (h.cell _ _ _ x), fun _ _ _ _ x => k.blk _ _ _ _ (h.blk _ _ _ _ x), fun _ _ _ _ x => k.tip _ _ _ _ (h.tip _ _ _ _ x), fun _ _ _ x => k.own _ _ _ (h.own _ _ _ x)⟩

theorem rtOK.mono {κ κ' : Cx} (h : κ.le κ') {r : Rt} {n len : Nat} {base : Option Nat} {k cap : Nat} (hr : rtOK κ r n len base k cap) : rtOK κ' r n len base k cap := by
  cases r with
  | no => trivial
  | full => exact hr
  | nil => exact hr
  | tok t => exact ⟨h.tip _ _ _ _ hr.1, hr.2⟩

theorem VR.mono {κ κ' : Cx} (h : κ.le κ') {a : AVal} {v : Value} (hv : VR κ a v) : VR κ' a v := by
  induction hv with
  | dead v => exact .dead v
  | undef => exact .undef
  | bool b => exact .bool b
  | int k n => exact .int k n
  | str s => exact .str s
  | nilp => exact .nilp
  | ptr b e o g c hb => exact .ptr b e o g c (h.blk _ _ _ _ hb)
  | ipt cs o g k f hc _ ih => exact .ipt cs o g k f (fun j hj => h.cell _ _ _ (hc j hj)) ih
  | slnil r hr => exact .slnil r (hr.mono h)
  | slz a cap => exact .slz a cap
  | sl r n cs g k cap f hn hc _ hr ih => exact .sl r n cs g k cap f hn (fun j hj => h.cell _ _ _ (hc j hj)) ih (hr.mono h)
  | msl b e o n k g c cap hb hn ho => exact .msl b e o n k g c cap (h.blk _ _ _ _ hb) hn ho
  | nilm => exact .nilm
  | map b g c hb => exact .map b g c (h.blk _ _ _ _ hb)
  | fn f first caps xs ys h1 h2 _ _ ih1 ih2 => exact .fn f first caps xs ys h1 h2 ih1 ih2
  | nilf => exact .nilf
  | ifc t a v _ ih => exact .ifc t a v ih
  | nili => exact .nili
  | agg cs vs hs _ ho ih => exact .agg cs vs hs ih ho
  | tup a cs vs hs _ ih => exact .tup a cs vs hs ih
  | dpz t p => exact .dpz t p
  | dpt t cs g f hc _ ho ih => exact .dpt t cs g f (fun j hj => h.cell _ _ _ (hc j hj)) ih (h.own _ _ _ ho)
  | tpt t b n g c hb ho => exact .tpt t b n g c (h.blk _ _ _ _ hb) (h.own _ _ _ ho)
  | yld b g c hb => exact .yld b g c (h.blk _ _ _ _ hb)

def lk : List (Nat × AVal) → Nat → AVal
  | [], _ => .dead
  | (k, v) :: r, t => if k = t then v else lk r t

def ER (κ : Cx) (env : List (Nat × AVal)) (tmps : Array Value) : Prop := ∀ t, VR κ (lk env t) (tmps.getD t undef)

theorem ER.mono {κ κ' : Cx} (h : κ.le κ') {env : List (Nat × AVal)} {tmps : Array Value} (he : ER κ env tmps) : ER κ' env tmps := fun t => (he t).mono h

def AL (κ : Cx) (es : List (AVal × AVal)) (l : List MapEntry) : Prop := l.length = es.length ∧ ∀ (j : Nat) (h : j < es.length) (h' : j < l.length), VR κ es[j].1 l[j].key ∧ VR κ es[j].2 l[j].val
theorem AL.mono {κ κ' : Cx} (h : κ.le κ') {es : List (AVal × AVal)} {l : List MapEntry} (ha : AL κ es l) : AL κ' es l := ⟨ha.1, fun j hj hj' => ⟨(ha.2 j hj hj').1.mono h, (ha.2 j hj hj').2.mono h⟩⟩

structure MR (κ : Cx) (es : List (AVal × AVal)) (en : Array MapEntry) (clk : Nat) : Prop where
  born : (en.toList.map (·.born)).Nodup
  lt : ∀ x ∈ en.toList, x.born < clk
  perm : ∃ l : List MapEntry, l.Perm en.toList ∧ AL κ es l
theorem MR.mono {κ κ' : Cx} (h : κ.le κ') {es : List (AVal × AVal)} {en : Array MapEntry} {clk : Nat} (hm : MR κ es en clk) : MR κ' es en clk :=
  ⟨hm.born, hm.lt, let ⟨l, h1, h2⟩ := hm.perm; ⟨l, h1, h2.mono h⟩⟩
theorem MR.size {κ : Cx} {es : List (AVal × AVal)} {en : Array MapEntry} {clk : Nat} (hm : MR κ es en clk) : en.size = es.length := by
  obtain ⟨l, h1, h2⟩ := hm.perm
  have := h1.length_eq
  rw [h2.1] at this
  simpa using this.symm

structure IR (κ : Cx) (left : List (AVal × AVal)) (cur : Option (AVal × AVal)) (en : Array MapEntry) (clk since : Nat) (seen : Array Nat) (c0 : Nat) : Prop where
  old : ∀ x ∈ en.toList, x.born < since
  sc : since ≤ c0
  sk : since ≤ clk
  left : ∃ l : List MapEntry, l.Perm (en.toList.filter fun x => !seen.contains x.born) ∧ AL κ left l
  cur : match cur with
    | none => True
    | some p => ∃ x ∈ en.toList, ∃ seen0 : Array Nat, seen = seen0.push x.born ∧ c0 = clk ∧ VR κ p.1 x.key ∧ VR κ p.2 x.val
theorem IR.mono {κ κ' : Cx} (h : κ.le κ') {left : List (AVal × AVal)} {cur : Option (AVal × AVal)} {en : Array MapEntry} {clk since : Nat} {seen : Array Nat} {c0 : Nat} (hm : IR κ left cur en clk since seen c0) : IR κ' left cur en clk since seen c0 :=
  ⟨hm.old, hm.sc, hm.sk, let ⟨l, h1, h2⟩ := hm.left; ⟨l, h1, h2.mono h⟩, by
    have := hm.cur
    cases cur with
    | none => trivial
    | some p => obtain ⟨x, a, s, b, c, d, e⟩ := this; exact ⟨x, a, s, b, c, d.mono h, e.mono h⟩⟩

def BR (κ : Cx) (c z : Nat) : ABlk → Obj → Prop
  | .cells e cs, o => ∃ arr ty, o = .cells arr ty (0, 0) ∧ cs.length ≤ arr.size ∧ c * z ≤ arr.size ∧ (∀ (j : Nat) (h : j < cs.length), VR κ (cs[j]) (arr.getD j undef)) ∧ (∀ j, j < cs.length → (arr.getD j undef).oneCell' = true) ∧ (e % 64 = 0 ∨ e % 64 = z)
  | .amap es, o => ∃ en clk, o = .map en clk ∧ MR κ es en clk
  | .iter _ _ _, o => ∃ m s a q, o = .mapIter m s a q
  | .loop st pend ps asg body env n, o => ∃ r : Loop, o = .loop r ∧ r.state = st ∧ r.pending = pend ∧ r.params = ps ∧ r.assign = asg ∧ r.body = body ∧ ER κ env r.tmps ∧ r.tmps.size = n
theorem BR.mono {κ κ' : Cx} (h : κ.le κ') {c z : Nat} {x : ABlk} {o : Obj} (hb : BR κ c z x o) : BR κ' c z x o := by
  cases x with
  | cells e cs => obtain ⟨arr, ty, h1, h2, h3, h4, h5⟩ := hb; exact ⟨arr, ty, h1, h2, h3, fun j hj => (h4 j hj).mono h, h5⟩
  | amap es => obtain ⟨en, clk, h1, h2⟩ := hb; exact ⟨en, clk, h1, h2.mono h⟩
  | iter mb l q => exact hb
  | loop st pend ps asg body env n => obtain ⟨r, h1, h2, h3, h4, h5, h6, h7, h8⟩ := hb; exact ⟨r, h1, h2, h3, h4, h5, h6, h7.mono h, h8⟩

structure AMem where
  H : List ABlk
  T : List (Nat × (Nat × Nat))

structure Inj where
  h : Nat → Nat
  c : Nat → Nat
  z : Nat → Nat
  tb : Nat → Option Nat
  tc : Nat → Nat

structure Ghost where
  bad : Nat → Nat → Prop
  lo : Nat
  S : AMem
  ι : Inj
  w : World

def Ghost.tokOwns (γ : Ghost) (t g : Nat) : Prop := ∃ tp sz, γ.S.T[t]? = some (tp, sz) ∧ γ.ι.tb t = some g ∧ tp < γ.ι.tc t * sz.1

def Ghost.blkOwns (γ : Ghost) (b g : Nat) : Prop := b < γ.S.H.length ∧ γ.ι.h b = g

def Ghost.owns (γ : Ghost) (g : Nat) : Prop := (∃ b, γ.blkOwns b g) ∨ ∃ t, γ.tokOwns t g

def Ghost.cell (γ : Ghost) (g o : Nat) (v : Value) : Prop :=
  γ.w.cell? ⟨g, o, none⟩ = some v ∧ v.oneCell' = true ∧ ¬ γ.bad g o ∧ (∀ b, ¬ γ.blkOwns b g) ∧ ∀ t, γ.tokOwns t g → ∃ tp sz, γ.S.T[t]? = some (tp, sz) ∧ o < tp

def ABlk.ep : ABlk → Nat
  | .cells e _ => e
  | _ => 0

def Ghost.own (γ : Ghost) (g : Nat) (t : TypeId) (n : Nat) : Prop := γ.lo ≤ g ∧ ∃ arr fz, γ.w.heap[g]? = some (.cells arr t fz) ∧ n ≤ arr.size

def Ghost.cx (γ : Ghost) : Cx where
  cell := γ.cell
  blk b e g c := ∃ x, γ.S.H[b]? = some x ∧ (e ≤ x.ep ∧ (e = 0 → x.ep = 0)) ∧ (e = x.ep → γ.ι.h b = g ∧ γ.ι.c b = c)
  tip t len base cap := ∃ tp sz, γ.S.T[t]? = some (tp, sz) ∧ len ≤ tp ∧ (len = tp → γ.ι.tb t = base ∧ γ.ι.tc t = cap) ∧ (0 < len → ∀ g, base = some g → γ.own g sz.2 0)
  own := γ.own

structure Rl (γ : Ghost) : Prop where
  lo : γ.lo ≤ γ.w.heap.size
  bad : ∀ g o, γ.bad g o → g < γ.lo
  objs : ∀ (b : Nat) (x : ABlk), γ.S.H[b]? = some x → ∃ o, γ.w.heap[γ.ι.h b]? = some o ∧ BR γ.cx (γ.ι.c b) (γ.ι.z b) x o
  its : ∀ (b mb : Nat) (left : List (AVal × AVal)) (cur : Option (AVal × AVal)), γ.S.H[b]? = some (.iter mb left cur) → ∃ es en clk since seen c0, γ.S.H[mb]? = some (.amap es) ∧ γ.w.heap[γ.ι.h b]? = some (.mapIter (some (γ.ι.h mb)) since seen c0) ∧
    γ.w.heap[γ.ι.h mb]? = some (.map en clk) ∧ IR γ.cx left cur en clk since seen c0
  toks : ∀ (t g : Nat), γ.tokOwns t g → ∃ arr lo hi tp sz, γ.w.heap[g]? = some (.cells arr sz.2 (lo, hi)) ∧ γ.S.T[t]? = some (tp, sz) ∧ γ.ι.tc t * sz.1 ≤ arr.size ∧ hi ≤ tp
  own : ∀ g, γ.owns g → γ.lo ≤ g ∧ g < γ.w.heap.size
  hh : ∀ b b' g, γ.blkOwns b g → γ.blkOwns b' g → b = b'
  ht : ∀ b t g, γ.blkOwns b g → γ.tokOwns t g → False
  tt : ∀ t t' g, γ.tokOwns t g → γ.tokOwns t' g → t = t'
theorem Rl.cells {γ : Ghost} (hr : Rl γ) (b e : Nat) (cs : List AVal) (hb : γ.S.H[b]? = some (.cells e cs)) : ∃ arr ty, γ.w.heap[γ.ι.h b]? = some (.cells arr ty (0, 0)) ∧ cs.length ≤ arr.size ∧ γ.ι.c b * γ.ι.z b ≤ arr.size ∧
    (∀ (j : Nat) (h : j < cs.length), VR γ.cx (cs[j]) (arr.getD j undef)) ∧ ∀ j, j < cs.length → (arr.getD j undef).oneCell' = true := by
  obtain ⟨o, h1, arr, ty, rfl, h2, h3, h4, h5, _⟩ := hr.objs b _ hb
  exact ⟨arr, ty, h1, h2, h3, h4, h5⟩
theorem Rl.zs {γ : Ghost} (hr : Rl γ) (b e : Nat) (cs : List AVal) (hb : γ.S.H[b]? = some (.cells e cs)) : e % 64 = 0 ∨ e % 64 = γ.ι.z b := by
  obtain ⟨o, h1, arr, ty, rfl, h2, h3, h4, h5, h6⟩ := hr.objs b _ hb
  exact h6
theorem Rl.maps {γ : Ghost} (hr : Rl γ) (b : Nat) (es : List (AVal × AVal)) (hb : γ.S.H[b]? = some (.amap es)) : ∃ en clk, γ.w.heap[γ.ι.h b]? = some (.map en clk) ∧ MR γ.cx es en clk := by
  obtain ⟨o, h1, en, clk, rfl, h2⟩ := hr.objs b _ hb
  exact ⟨en, clk, h1, h2⟩
def Keeps (lo : Nat) (w w' : World) (k : Nat) : Prop := w'.heap[k]? = w.heap[k]? ∨ (lo ≤ k ∧ ∃ arr ty f f', w.heap[k]? = some (.cells arr ty f) ∧ w'.heap[k]? = some (.cells arr ty f'))
theorem Keeps.trans {lo : Nat} {a b c : World} {k : Nat} (h : Keeps lo a b k) (g : Keeps lo b c k) : Keeps lo a c k := by
  rcases h with h | ⟨hl, arr, ty, f, f', h1, h2⟩ <;> rcases g with g | ⟨gl, arr', ty', f2, f2', g1, g2⟩
  · exact .inl (g.trans h)
  · exact .inr ⟨gl, arr', ty', f2, f2', by rw [← h]; exact g1, g2⟩
  · exact .inr ⟨hl, arr, ty, f, f', h1, by rw [g]; exact h2⟩
  · rw [h2] at g1
    cases g1
    exact .inr ⟨hl, arr, ty, f, f2', h1, g2⟩
theorem Keeps.same {lo : Nat} {w w' : World} {k : Nat} (h : w'.heap[k]? = w.heap[k]?) : Keeps lo w w' k := .inl h

structure Ext (γ γ' : Ghost) : Prop where
  bad : γ'.bad = γ.bad
  lo : γ'.lo = γ.lo
  size : γ.w.heap.size ≤ γ'.w.heap.size
  os : γ'.w.os = γ.w.os
  tape : γ'.w.tape = γ.w.tape
  output : γ'.w.output = γ.w.output
  cell : ∀ g o v, γ.cell g o v → γ'.cell g o v
  blk : ∀ b e g c, γ.cx.blk b e g c → γ'.cx.blk b e g c
  tip : ∀ t len base cap, γ.cx.tip t len base cap → γ'.cx.tip t len base cap
  own : ∀ g t n, γ.own g t n → γ'.own g t n
  frame : ∀ k, k < γ.w.heap.size → ¬ γ.owns k → Keeps γ.lo γ.w γ'.w k
  owns : ∀ k, γ'.owns k → γ.owns k ∨ γ.w.heap.size ≤ k

theorem Ext.le {γ γ' : Ghost} (h : Ext γ γ') : γ.cx.le γ'.cx := ⟨h.cell, h.blk, h.tip, h.own⟩

theorem Ext.refl (γ : Ghost) : Ext γ γ :=
  ⟨rfl, rfl, Nat.le_refl _, rfl, rfl, rfl, fun _ _ _ h => h, fun _ _ _ _ h => h, fun _ _ _ _ h => h, fun _ _ _ h => h, fun _ _ _ => .inl rfl, fun _ h => .inl h⟩

theorem Ext.trans {a b c : Ghost} (h : Ext a b) (k : Ext b c) : Ext a c where
  bad := k.bad.trans h.bad
  lo := k.lo.trans h.lo
  size := Nat.le_trans h.size k.size
  os := k.os.trans h.os
  tape := k.tape.trans h.tape
  output := k.output.trans h.output
  cell := fun _ _ _ x => k.cell _ _ _ (h.cell _ _ _ x)
  blk := fun _ _ _ _ x => k.blk _ _ _ _ (h.blk _ _ _ _ x)
  tip := fun _ _ _ _ x => k.tip _ _ _ _ (h.tip _ _ _ _ x)
  own := fun _ _ _ x => k.own _ _ _ (h.own _ _ _ x)
  frame := fun i hi ho => by
    have h2 := k.frame i (Nat.lt_of_lt_of_le hi h.size) (fun hb => by rcases h.owns i hb with h1 | h1; exact ho h1; omega)
    rw [h.lo] at h2
    exact (h.frame i hi ho).trans h2
  owns := fun i hi => by
    rcases k.owns i hi with h1 | h1
    · exact h.owns i h1
    · exact .inr (Nat.le_trans h.size h1)

structure ExtN (hk tk : Nat) (γ γ' : Ghost) : Prop where
  bad : γ'.bad = γ.bad
  lo : γ'.lo = γ.lo
  size : γ.w.heap.size ≤ γ'.w.heap.size
  os : γ'.w.os = γ.w.os
  tape : γ'.w.tape = γ.w.tape
  output : γ'.w.output = γ.w.output
  cell : ∀ g o v, γ.cell g o v → γ'.cell g o v
  blk : ∀ b e g c, b < hk → γ.cx.blk b e g c → γ'.cx.blk b e g c
  tip : ∀ t len base cap, t < tk → γ.cx.tip t len base cap → γ'.cx.tip t len base cap
  own : ∀ g t n, γ.own g t n → γ'.own g t n
  frame : ∀ k, k < γ.w.heap.size → ¬ γ.owns k → Keeps γ.lo γ.w γ'.w k
  owns : ∀ k, γ'.owns k → γ.owns k ∨ γ.w.heap.size ≤ k

theorem Ext.toN {γ γ' : Ghost} (h : Ext γ γ') {hk tk : Nat} : ExtN hk tk γ γ' :=
  ⟨h.bad, h.lo, h.size, h.os, h.tape, h.output, h.cell, fun _ _ _ _ _ x => h.blk _ _ _ _ x, fun _ _ _ _ _ x => h.tip _ _ _ _ x, h.own, h.frame, h.owns⟩
theorem ExtN.refl {hk tk : Nat} (γ : Ghost) : ExtN hk tk γ γ := (Ext.refl γ).toN
theorem ExtN.trans {hk tk : Nat} {a b c : Ghost} (h : ExtN hk tk a b) (k : ExtN hk tk b c) : ExtN hk tk a c where
  bad := k.bad.trans h.bad
  lo := k.lo.trans h.lo
  size := Nat.le_trans h.size k.size
  os := k.os.trans h.os
  tape := k.tape.trans h.tape
  output := k.output.trans h.output
  cell := fun _ _ _ x => k.cell _ _ _ (h.cell _ _ _ x)
  blk := fun _ _ _ _ hb x => k.blk _ _ _ _ hb (h.blk _ _ _ _ hb x)
  tip := fun _ _ _ _ ht x => k.tip _ _ _ _ ht (h.tip _ _ _ _ ht x)
  own := fun _ _ _ x => k.own _ _ _ (h.own _ _ _ x)
  frame := fun i hi ho => by
    have h2 := k.frame i (Nat.lt_of_lt_of_le hi h.size) (fun hb => by rcases h.owns i hb with h1 | h1; exact ho h1; omega)
    rw [h.lo] at h2
    exact (h.frame i hi ho).trans h2
  owns := fun i hi => by
    rcases k.owns i hi with h1 | h1
    · exact h.owns i h1
    · exact .inr (Nat.le_trans h.size h1)
theorem ExtN.full {γ γ' : Ghost} (h : ExtN γ.S.H.length γ.S.T.length γ γ') : Ext γ γ' :=
  ⟨h.bad, h.lo, h.size, h.os, h.tape, h.output, h.cell,
    fun b e g c x => h.blk b e g c (by obtain ⟨y, hy, _⟩ := x; exact (List.getElem?_eq_some_iff.1 hy).1) x,
    fun t len base cap x => h.tip t len base cap (by obtain ⟨tp, sz, hy, _⟩ := x; exact (List.getElem?_eq_some_iff.1 hy).1) x, h.own, h.frame, h.owns⟩

theorem VR.ext {γ γ' : Ghost} (h : Ext γ γ') {a : AVal} {v : Value} (hv : VR γ.cx a v) : VR γ'.cx a v := hv.mono h.le

structure St where
  env : List (Nat × AVal)
  m : AMem

theorem ER.put {κ : Cx} {env : List (Nat × AVal)} {tmps : Array Value} (he : ER κ env tmps) {d : Nat} (hd : d < tmps.size) {a : AVal} {v : Value} (hv : VR κ a v) : ER κ ((d, a) :: env) (tmps.setIfInBounds d v) := by
  intro t
  simp only [lk]
  by_cases h : d = t
  · subst h
    rw [if_pos rfl]
    simpa [Array.getD, hd] using hv
  · rw [if_neg h]
    have := he t
    simp only [Array.getD_eq_getD_getElem?, Array.getElem?_setIfInBounds_ne h] at this ⊢
    exact this

end Go.Hk
namespace Go.Hk

def ofVal1 : Value → AVal
  | .bool b => .bool b
  | .int k n => .int k n
  | .string s => .str s.data.toList
  | .pointer none => .nilp
  | .slice none 0 0 => .sl .nil 0 []
  | .map none => .nilm
  | .nilFunc => .nilf
  | .nilIface => .nili
  | _ => .dead

def ofVal : Value → AVal
  | .agg cs => if cs.toList.all (·.oneCell') then .agg (cs.toList.map ofVal1) else .dead
  | .tuple vs => if vs.isEmpty then .undef else .dead
  | v => ofVal1 v

theorem VR.ofVal1 (κ : Cx) (v : Value) : VR κ (ofVal1 v) v := by
  cases v with
  | bool b => exact .bool b
  | int k n => exact .int k n
  | string s => exact .str s.data.toList
  | pointer a => cases a with
    | none => exact .nilp
    | some a => exact .dead _
  | slice a l c =>
    cases a with
    | some a => exact .dead _
    | none =>
      cases l with
      | succ l => exact .dead _
      | zero => cases c with
        | succ c => exact .dead _
        | zero => exact .slnil .nil ⟨rfl, rfl⟩
  | map r => cases r with
    | none => exact .nilm
    | some a => exact .dead _
  | nilFunc => exact .nilf
  | nilIface => exact .nili
  | _ => exact .dead _

theorem VR.ofVal (κ : Cx) (v : Value) : VR κ (Hk.ofVal v) v := by
  cases v with
  | agg cs =>
    simp only [Hk.ofVal]
    split
    · rename_i hall
      refine .agg _ _ (by simp) (fun j h => ?_) (fun j h => ?_)
      · simp only [List.length_map, Array.length_toList] at h
        simp only [List.getElem_map, Array.getElem_toList, Array.getD, h, dif_pos]
        exact VR.ofVal1 κ _
      · simp only [List.length_map, Array.length_toList] at h
        simp only [Array.getD, h, dif_pos]
        exact List.all_eq_true.1 hall _ (by simp)
    · exact .dead _
  | tuple vs =>
    simp only [Hk.ofVal]
    split
    · rename_i h
      have : vs = #[] := by simpa using h
      subst this
      exact .undef
    · exact .dead _
  | bool b => exact VR.ofVal1 κ (.bool b)
  | int k n => exact VR.ofVal1 κ (.int k n)
  | string s => exact VR.ofVal1 κ (.string s)
  | pointer a => exact VR.ofVal1 κ (.pointer a)
  | slice a l c => exact VR.ofVal1 κ (.slice a l c)
  | map r => exact VR.ofVal1 κ (.map r)
  | nilFunc => exact VR.ofVal1 κ .nilFunc
  | nilIface => exact VR.ofVal1 κ .nilIface
  | _ => exact .dead _

def ev (env : List (Nat × AVal)) : Operand → AVal
  | .tmp t => lk env t
  | .const v => ofVal v
  | .global _ => .dead
  | .func f => .fn f [] []

theorem ER.ev {κ : Cx} {env : List (Nat × AVal)} {a : Act} (he : ER κ env a.tmps) (x : Operand) : VR κ (Hk.ev env x) (a.eval x) := by
  cases x with
  | tmp t => exact he t
  | const v => exact VR.ofVal κ v
  | global g => exact .dead _
  | func f => exact .fn f [] [] #[] #[] rfl rfl (fun j h => absurd h (Nat.not_lt_zero j)) (fun j h => absurd h (Nat.not_lt_zero j))


inductive TK where
  | int (k : IntKind)
  | bool
  | str
  | slice (e : TypeId)
  | arr (n : Nat) (e : TypeId)
  | struct (fs : List (Bool × TypeId × Nat))
  | map (k e : TypeId)
  | ptr (e : TypeId)
  | func
  | iface
  | other

structure TI where
  size : Nat
  bytes : Nat
  zero : Option AVal
  k : TK

def tkOf : TypeDesc → TK
  | .int k => .int k
  | .bool => .bool
  | .string => .str
  | .slice e => .slice e
  | .array n e => .arr n e
  | .struct fs => .struct (fs.toList.map fun f => (f.name != "_", f.type, f.offset))
  | .map k e => .map k e
  | .pointer e => .ptr e
  | .func _ _ _ => .func
  | .interface _ => .iface
  | _ => .other

def tiOf (P : Program) (t : TypeId) : Option TI :=
  match P.info? t, P.underlying t with
  | some i, some d => some { size := i.size, bytes := i.bytes, zero := i.zero.map ofVal, k := tkOf d }
  | _, _ => none

structure TIs (P : Program) (t : TypeId) (I : TI) (i : TypeInfo) (d : TypeDesc) : Prop where
  info : P.info? t = some i
  under : P.underlying t = some d
  size : I.size = i.size
  bytes : I.bytes = i.bytes
  zero : I.zero = i.zero.map ofVal
  k : I.k = tkOf d

theorem tiOf_spec {P : Program} {t : TypeId} {I : TI} (h : tiOf P t = some I) : ∃ i d, TIs P t I i d := by
  unfold tiOf at h
  split at h
  · rename_i i d h1 h2
    simp only [Option.some.injEq] at h
    subst h
    exact ⟨i, d, h1, h2, rfl, rfl, rfl, rfl⟩
  · cases h

theorem tk_int {d : TypeDesc} {k : IntKind} (h : TK.int k = tkOf d) : d = .int k := by cases d <;> simp_all [tkOf]
theorem tk_bool {d : TypeDesc} (h : TK.bool = tkOf d) : d = .bool := by cases d <;> simp_all [tkOf]
theorem tk_str {d : TypeDesc} (h : TK.str = tkOf d) : d = .string := by cases d <;> simp_all [tkOf]
theorem tk_slice {d : TypeDesc} {e : TypeId} (h : TK.slice e = tkOf d) : d = .slice e := by cases d <;> simp_all [tkOf]
theorem tk_arr {d : TypeDesc} {n : Nat} {e : TypeId} (h : TK.arr n e = tkOf d) : d = .array n e := by cases d <;> simp_all [tkOf]
theorem tk_map {d : TypeDesc} {k e : TypeId} (h : TK.map k e = tkOf d) : d = .map k e := by cases d <;> simp_all [tkOf]
theorem tk_ptr {d : TypeDesc} {e : TypeId} (h : TK.ptr e = tkOf d) : d = .pointer e := by cases d <;> simp_all [tkOf]
theorem tk_struct {d : TypeDesc} {fs : List (Bool × TypeId × Nat)} (h : TK.struct fs = tkOf d) : ∃ gs, d = .struct gs ∧ fs = gs.toList.map fun f => (f.name != "_", f.type, f.offset) := by
  cases d <;> simp_all [tkOf]

def TK.agg : TK → Bool
  | .arr _ _ | .struct _ => true
  | _ => false

theorem tk_agg (d : TypeDesc) : (tkOf d).agg = (match d with | .struct _ | .array _ _ => true | _ => false) := by cases d <;> rfl

section
variable {P : Program} {t : TypeId} {I : TI} {i : TypeInfo} {d : TypeDesc} (w : World)
theorem TIs.run_under (h : TIs P t I i d) : (underlying t).run P w = .ok d w := run_underlying h.under w
theorem TIs.run_size (h : TIs P t I i d) : (sizeOf t).run P w = .ok I.size w := by simp [sizeOf, typeInfo, h.info, h.size]
theorem TIs.run_info (h : TIs P t I i d) : (typeInfo t).run P w = .ok i w := by simp [typeInfo, h.info]
theorem TIs.run_agg (h : TIs P t I i d) : (isAgg t).run P w = .ok I.k.agg w := by
  unfold isAgg
  rw [Sem.run_bind, h.run_under w, h.k, tk_agg]
  cases d <;> rfl
theorem TIs.run_zero (h : TIs P t I i d) {z : AVal} (hz : I.zero = some z) : ∃ v, (zeroValue t).run P w = .ok v w ∧ i.zero = some v ∧ z = ofVal v := by
  rw [h.zero] at hz
  cases hv : i.zero with
  | none => simp [hv] at hz
  | some v =>
    simp only [hv, Option.map_some, Option.some.injEq] at hz
    exact ⟨v, by simp [zeroValue, typeInfo, h.info, hv], rfl, hz.symm⟩
end


def andL : List (Option Bool) → Option Bool
  | [] => some true
  | some b :: r => match andL r with
    | some c => some (b && c)
    | none => none
  | none :: _ => none

def apart (P : Program) (t : TypeId) (cs : List AVal) (off : Nat) : Option AVal :=
  match tiOf P t with
  | some I => if I.k.agg then (if off + I.size ≤ cs.length then some (.agg ((cs.drop off).take I.size)) else none) else cs[off]?
  | none => none

def aeq (P : Program) : Nat → TypeId → AVal → AVal → Option Bool
  | 0, _, _, _ => none
  | d + 1, t, x, y =>
    match tiOf P t with
    | none => none
    | some I =>
      match I.k, x, y with
      | .bool, .bool a, .bool b => some (a == b)
      | .int _, .int k a, .int k' b => if k = k' then some (a == b) else none
      | .str, .str a, .str b => some (a == b)
      | .ptr _, .nilp, .nilp => some true
      | .ptr _, .nilp, .ptr _ _ _ => some false
      | .ptr _, .ptr _ _ _, .nilp => some false
      | .ptr _, .nilp, .ipt _ _ => some false
      | .ptr _, .ipt _ _, .nilp => some false
      | .map _ _, .nilm, .nilm => some true
      | .map _ _, .map _, .nilm => some false
      | .map _ _, .nilm, .map _ => some false
      | .func, .nilf, .nilf => some true
      | .func, .fn _ _ _, .nilf => some false
      | .func, .nilf, .fn _ _ _ => some false
      | .struct fs, .agg xs, .agg ys =>
        if P.stoodInHeld t then none else
        andL (fs.map fun f => if f.1 then (match apart P f.2.1 xs f.2.2, apart P f.2.1 ys f.2.2 with
          | some a, some b => aeq P d f.2.1 a b
          | _, _ => none) else some true)
      | .arr n e, .agg xs, .agg ys =>
        match tiOf P e with
        | some E => andL ((List.range n).map fun i => match apart P e xs (i * E.size), apart P e ys (i * E.size) with
          | some a, some b => aeq P d e a b
          | _, _ => none)
        | none => none
      | _, _, _ => none

theorem getD_extract (vs : Array Value) (a n j : Nat) (h : j < n) (ha : a + n ≤ vs.size) : (vs.extract a (a + n)).getD j undef = vs.getD (a + j) undef := by
  simp only [Array.getD_eq_getD_getElem?]
  congr 1
  rw [Array.getElem?_extract]
  simp only [show min (a + n) vs.size = a + n by omega]
  rw [if_pos (by omega)]

theorem apart_sound {P : Program} {κ : Cx} {t : TypeId} {cs : List AVal} {vs : Array Value} {off : Nat} {x : AVal} (w : World) (h : apart P t cs off = some x) (hs : vs.size = cs.length)
    (hv : ∀ (j : Nat) (h : j < cs.length), VR κ (cs[j]) (vs.getD j undef)) (ho : ∀ j, j < cs.length → (vs.getD j undef).oneCell' = true) : ∃ v, (part t vs off).run P w = .ok v w ∧ VR κ x v := by
  unfold apart at h
  cases hI : tiOf P t with
  | none => simp [hI] at h
  | some I =>
    simp only [hI] at h
    obtain ⟨i, d, hi⟩ := tiOf_spec hI
    cases hk : I.k.agg with
    | true =>
      simp only [hk, if_true] at h
      split at h
      · rename_i hle
        simp only [Option.some.injEq] at h
        subst h
        refine ⟨.agg (vs.extract off (off + I.size)), by simp [part, hi.run_agg, hi.run_size, hk], .agg _ _ (by simp; omega) (fun j hj => ?_) (fun j hj => ?_)⟩
        · simp only [List.length_take, List.length_drop] at hj
          rw [getD_extract _ _ _ _ (by omega) (by omega)]
          simp only [List.getElem_take, List.getElem_drop]
          exact hv _ (by omega)
        · simp only [List.length_take, List.length_drop] at hj
          rw [getD_extract _ _ _ _ (by omega) (by omega)]
          exact ho _ (by omega)
      · cases h
    | false =>
      simp only [hk, Bool.false_eq_true, if_false] at h
      obtain ⟨hlt, rfl⟩ := List.getElem?_eq_some_iff.1 h
      have hlt' : off < vs.size := by omega
      refine ⟨vs[off], by simp [part, hi.run_agg, hk, hlt'], ?_⟩
      have := hv off hlt
      simpa [Array.getD, hlt'] using this

theorem andL_cons {x : Option Bool} {r : List (Option Bool)} {b : Bool} (h : andL (x :: r) = some b) : ∃ c e, x = some c ∧ andL r = some e ∧ b = (c && e) := by
  cases x with
  | none => simp [andL] at h
  | some c =>
    cases hr : andL r with
    | none => simp [andL, hr] at h
    | some e => simp [andL, hr] at h; exact ⟨c, e, rfl, rfl, h.symm⟩

theorem run_fields {P : Program} {w : World} (d : Nat) (xs ys : Array Value) (F : Bool × TypeId × Nat → Option Bool)
    (hF : ∀ f b, F f = some b → f.1 = true → ∃ a c, (part f.2.1 xs f.2.2).run P w = .ok a w ∧ (part f.2.1 ys f.2.2).run P w = .ok c w ∧ (Op.equalIn d f.2.1 a c).run P w = .ok b w)
    (hF' : ∀ f b, F f = some b → f.1 = false → b = true) :
    ∀ (l : List Field) (b : Bool), andL (l.map fun f => F (f.name != "_", f.type, f.offset)) = some b → (Op.eqFields d xs ys l).run P w = .ok b w
  | [], b, h => by simp [andL] at h; simp [Op.eqFields, ← h]
  | f :: l, b, h => by
    obtain ⟨c, e, h1, h2, rfl⟩ := andL_cons (by simpa using h)
    have ih := run_fields d xs ys F hF hF' l e (by simpa using h2)
    simp only [Op.eqFields]
    by_cases hn : f.name = "_"
    · have := hF' _ _ h1 (by simp [hn])
      subst this
      simp [hn, ih]
    · obtain ⟨u, v, e1, e2, e3⟩ := hF _ _ h1 (by simp [hn])
      simp only at e1 e2 e3
      simp only [if_pos hn, Sem.run_bind, e1, e2, e3, Result.andThen_ok, ne_eq]
      cases c with
      | false => simp
      | true => simpa using ih

theorem run_equalIn_arr {P : Program} {w : World} {D : Nat} {t e : TypeId} {n sz : Nat} {us vs : Array Value} (ht : P.underlying t = some (.array n e)) (he : (sizeOf e).run P w = .ok sz w) (F : Nat → Option Bool)
    (hF : ∀ i b, F i = some b → ∃ a c, (part e us (i * sz)).run P w = .ok a w ∧ (part e vs (i * sz)).run P w = .ok c w ∧ (Op.equalIn D e a c).run P w = .ok b w)
    {b : Bool} (h : andL ((List.range n).map F) = some b) : (Op.equalIn (D + 1) t (.agg us) (.agg vs)).run P w = .ok b w := by
  simp only [Op.equalIn, Sem.run_bind, run_underlying ht, Result.andThen_ok, he]
  have key : ∀ (l : List Nat) (b : Bool), andL (l.map F) = some b → ∀ (G : Nat → Sem (ForInStep (Option Bool × Unit))), (∀ i, G i = do
        let a ← part e us (i * sz)
        let c ← part e vs (i * sz)
        let q ← Op.equalIn D e a c
        if (!q) = true then pure (ForInStep.done (some false, ())) else pure (ForInStep.yield (none, ()))) →
      ∃ r : Option Bool × Unit, (forIn (m := Sem) l ((none, ()) : Option Bool × Unit) fun i _ => G i).run P w = .ok r w ∧ r.1 = (if b then none else some false) := by
    intro l
    induction l with
    | nil => intro b h G _; exact ⟨(none, ()), rfl, by simp [andL] at h; simp [← h]⟩
    | cons i l ih =>
      intro b h G hG
      obtain ⟨c, f, h1, h2, rfl⟩ := andL_cons (by simpa using h)
      obtain ⟨u, v, e1, e2, e3⟩ := hF i c h1
      simp only [List.forIn_cons, Sem.run_bind, hG i, e1, e2, e3, Result.andThen_ok]
      cases c with
      | false => exact ⟨(some false, ()), by simp, by simp⟩
      | true =>
        obtain ⟨r, hr, hr'⟩ := ih f h2 G hG
        exact ⟨r, by simpa using hr, by simpa using hr'⟩
  obtain ⟨r, hr, hr'⟩ := key (List.range n) b h _ (fun i => rfl)
  have hrg : (forIn (m := Sem) [:n] ((none, ()) : Option Bool × Unit) fun i _ => do
        let a ← part e us (i * sz)
        let c ← part e vs (i * sz)
        let q ← Op.equalIn D e a c
        if (!q) = true then pure (ForInStep.done (some false, ())) else pure (ForInStep.yield (none, ()))).run P w = .ok r w := by
    simp only [Std.Legacy.Range.forIn_eq_forIn_range', Std.Legacy.Range.size, Nat.sub_zero, Nat.add_sub_cancel, Nat.div_one]
    rw [← List.range_eq_range']
    exact hr
  rw [hrg]
  obtain ⟨r1, r2⟩ := r
  simp only at hr'
  subst hr'
  cases b <;> rfl

theorem aeq_sound {P : Program} {κ : Cx} (w : World) : ∀ (d : Nat) (t : TypeId) (x y : AVal) (b : Bool) (u v : Value), aeq P d t x y = some b → VR κ x u → VR κ y v →
    ∀ D, d ≤ D → (Op.equalIn D t u v).run P w = .ok b w := by
  intro d
  induction d with
  | zero => intro t x y b u v h; simp [aeq] at h
  | succ d ih =>
    intro t x y b u v h hu hv D hD
    obtain ⟨D, rfl⟩ : ∃ m, D = m + 1 := ⟨D - 1, by omega⟩
    have hD' : d ≤ D := by omega
    unfold aeq at h
    cases hI : tiOf P t with
    | none => simp [hI] at h
    | some I =>
      simp only [hI] at h
      obtain ⟨i, ds, hi⟩ := tiOf_spec hI
      have hk := hi.k
      cases hkk : I.k with
      | bool =>
        rw [hkk] at hk h
        have := tk_bool hk; subst this
        cases hu <;> cases hv <;> simp only [Option.some.injEq, reduceCtorEq] at h
        subst h
        exact run_equalIn_bool w D t _ _ hi.under
      | int kk =>
        rw [hkk] at hk h
        have := tk_int hk; subst this
        cases hu <;> cases hv <;> simp only [reduceCtorEq] at h
        split at h
        · rename_i e; subst e
          simp only [Option.some.injEq] at h; subst h
          exact run_equalIn_int w D t _ _ _ _ hi.under
        · cases h
      | str =>
        rw [hkk] at hk h
        have := tk_str hk; subst this
        cases hu <;> cases hv <;> simp only [Option.some.injEq, reduceCtorEq] at h
        subst h
        rename_i s1 s2
        have := run_equalIn_string (P := P) w D t ⟨s1.toArray⟩ ⟨s2.toArray⟩ hi.under
        simpa using this
      | ptr e =>
        rw [hkk] at hk h
        have := tk_ptr hk; subst this
        cases hu <;> cases hv <;> simp only [Option.some.injEq, reduceCtorEq] at h <;> subst h <;> simp [Op.equalIn, hi.run_under w]
      | map a e =>
        rw [hkk] at hk h
        have := tk_map hk; subst this
        cases hu <;> cases hv <;> simp only [Option.some.injEq, reduceCtorEq] at h <;> subst h <;> simp [Op.equalIn, hi.run_under w]
      | func =>
        rw [hkk] at hk h
        cases ds <;> simp only [tkOf, reduceCtorEq] at hk
        cases hu <;> cases hv <;> simp only [Option.some.injEq, reduceCtorEq] at h <;> subst h <;> simp [Op.equalIn, hi.run_under w]
      | struct fs =>
        rw [hkk] at hk h
        obtain ⟨gs, rfl, rfl⟩ := tk_struct hk
        cases hu <;> cases hv <;> simp only [reduceCtorEq] at h
        rename_i xs us hus huv huo ys vs hvs hvv hvo
        split at h
        · cases h
        · rename_i hst
          have hf : P.fieldsOf t = gs := by simp [Program.fieldsOf, hi.under]
          rw [run_equalIn_struct w D t us vs (by rw [hf]; exact hi.under) (by simpa using hst), hf]
          rw [List.map_map] at h
          refine run_fields D us vs (fun f => if f.1 = true then (match apart P f.2.1 xs f.2.2, apart P f.2.1 ys f.2.2 with
            | some a, some b => aeq P d f.2.1 a b
            | _, _ => none) else some true) (fun f b hb hf1 => ?_) (fun f b hb hf1 => ?_) gs.toList b h
          · simp only [hf1, if_true] at hb
            split at hb
            · rename_i a c ha hc
              obtain ⟨a', ra, va⟩ := apart_sound w ha hus huv huo
              obtain ⟨c', rc, vc⟩ := apart_sound w hc hvs hvv hvo
              exact ⟨a', c', ra, rc, ih _ _ _ _ _ _ hb va vc D hD'⟩
            · cases hb
          · simp only [hf1, Bool.false_eq_true, if_false, Option.some.injEq] at hb
            exact hb.symm
      | arr n e =>
        rw [hkk] at hk h
        have := tk_arr hk; subst this
        cases hu <;> cases hv <;> simp only [reduceCtorEq] at h
        rename_i xs us hus huv huo ys vs hvs hvv hvo
        cases hE : tiOf P e with
        | none => simp [hE] at h
        | some E =>
          simp only [hE] at h
          obtain ⟨i', d', hi'⟩ := tiOf_spec hE
          refine run_equalIn_arr hi.under (hi'.run_size w) _ (fun i b hb => ?_) h
          split at hb
          · rename_i a c ha hc
            obtain ⟨a', ra, va⟩ := apart_sound w ha hus huv huo
            obtain ⟨c', rc, vc⟩ := apart_sound w hc hvs hvv hvo
            exact ⟨a', c', ra, rc, ih _ _ _ _ _ _ hb va vc D hD'⟩
          · cases hb
      | _ => rw [hkk] at h; simp at h

end Go.Hk
