import Derived.Test.YtojahfdjfacgaaaHkQ12
import Derived.Laws.Externs
import Derived.Lib.MakeNoZero
import Derived.Test.YtojahfdjfacgaaaHkQ24
import Derived.Test.YtojahfdjfacgaaaHkQ26
/- Two functions of the library that the model runs in one step: NoEscape, MakeNoZero. -/
set_option linter.unusedSimpArgs false
set_option linter.unusedVariables false
namespace Go.Hk
open Go.RowKit
theorem vals_one {vals : Array Value} (h : vals.size = 1) : vals = #[vals.getD 0 undef] := by
  match vals, h with
  | ⟨[x]⟩, _ => rfl
theorem ecall_same {P : Program} {f : FuncId} {fn : Func} (hf : P.funcs[f]? = some fn) (hname : (fn.name == "runtime.NumGoroutine") = false) (hb : fn.body.isNone = true) (hn : Extern.findNext fn = none)
    (he : Extern.find fn = some Extern.AbiNoEscape.same) (x : AVal) (T : List (Nat × (Nat × Nat))) : ECall P f [x] T x T := by
  intro γ vals hr hT hv
  obtain ⟨hs, hv⟩ := hv
  refine ⟨vals.getD 0 undef, γ, ?_, Ext.refl γ, hr, ?_, hv 0 (by simp)⟩
  · rw [run_callFunc_extern hf hname hb hn he]
    have hvals := vals_one (vals := vals) (by simpa using hs)
    generalize vals.getD 0 undef = x' at *
    subst hvals
    rfl
  · rw [← hT]
end Go.Hk
/- strings.Builder: what its methods do to the row of bytes behind it. -/
namespace Go.Hk
theorem cU_len (c : UInt8) : (cU c).length = 1 := rfl
theorem cU_strip (c : UInt8) : stripL (cU c) = some (cU c) := rfl
theorem fl_cU_map (s : List UInt8) : fl cU s = s.map fun c => .int .u8 c.toNat := by
  induction s with
  | nil => rfl
  | cons c s ih => rw [fl_cons, ih]; rfl
theorem bytesOf_cU (s : List UInt8) : bytesOf (fl cU s) = some s := by rw [fl_cU_map, bytesOf_map]
theorem l_s_cU {s : List UInt8} : stripL (fl cU s) = some (fl cU s) := fl_strip cU_strip s
theorem l_n_cU {s : List UInt8} : (fl cU s).length = s.length := by rw [fl_len cU_len, Nat.mul_one]
theorem alist_str {m : AMem} {s : List UInt8} : alist m (.str s) = some (s.length, fl cU s) := by rw [fl_cU_map]; rfl
/-- What is written behind the bytes of a Builder. -/
def bldR (B e : TypeId) (v : AVal) (b : Nat) (H : List ABlk) (T : List (Nat × (Nat × Nat))) (s' : List UInt8) (x : Option ABlk) : Option (AVal × AMem) :=
  match x with
  | some (.cells 0 [.nilp, .sl .nil 0 []]) => if s'.length < 1000000000 then some (v, ⟨H.set b (.cells 0 [.tpt B b 2, .sl (.tok T.length) s'.length (fl cU s')]), T ++ [(s'.length, (1, e))]⟩) else none
  | some (.cells 0 [.tpt B' b' k, .sl .nil 0 []]) => if B' = B ∧ b' = b ∧ k = 2 ∧ s'.length < 1000000000 then some (v, ⟨H.set b (.cells 0 [.tpt B b 2, .sl (.tok T.length) s'.length (fl cU s')]), T ++ [(s'.length, (1, e))]⟩) else none
  | some (.cells 0 [.tpt B' b' k, .sl (.tok t) n cs]) => (match bytesOf cs with
    | some s => if B' = B ∧ b' = b ∧ k = 2 ∧ n = s.length ∧ okR T (.tok t) s.length (1, e) = true ∧ s.length + s'.length < 1000000000 then
        some (v, ⟨H.set b (.cells 0 [.tpt B b 2, .sl (.tok t) (s ++ s').length (fl cU (s ++ s'))]), T.set t ((s ++ s').length, (1, e))⟩) else none
    | none => none)
  | _ => none
def iWB (B e : TypeId) (xs : List AVal) (m : AMem) : Option (AVal × AMem) :=
  match xs with
  | [.tpt B' b k, .int .u8 c] => if B' = B ∧ k = 2 ∧ 0 ≤ c ∧ c < 256 then bldR B e .nili b m.H m.T [UInt8.ofNat c.toNat] m.H[b]? else none
  | _ => none
def iWS (B e : TypeId) (xs : List AVal) (m : AMem) : Option (AVal × AMem) :=
  match xs with
  | [.tpt B' b k, .str s] => if B' = B ∧ k = 2 then bldR B e (.tup (.int .i64 s.length) [.nili]) b m.H m.T s m.H[b]? else none
  | _ => none
def iBS (B e : TypeId) (xs : List AVal) (m : AMem) : Option (AVal × AMem) :=
  match xs with
  | [.tpt B' b k] => if B' = B ∧ k = 2 then (match m.H[b]? with
    | some (.cells 0 [_, .sl .nil 0 []]) => some (.str [], m)
    | some (.cells 0 [_, .sl (.tok t) n cs]) => (match bytesOf cs with
      | some s => if okR m.T (.tok t) s.length (1, e) = true ∧ n = s.length ∧ 0 < s.length ∧ s.length < 1000000000 then some (.str s, m) else none
      | none => none)
    | _ => none) else none
  | _ => none
def iCC (B : TypeId) (xs : List AVal) (m : AMem) : Option (AVal × AMem) :=
  match xs with
  | [.tpt B' b k] => if B' = B ∧ k = 2 then (match m.H[b]? with
    | some (.cells 0 [.nilp, x]) => some (.undef, ⟨m.H.set b (.cells 0 [.tpt B b 2, x]), m.T⟩)
    | some (.cells 0 [.tpt B' b' k', x]) => if B' = B ∧ b' = b ∧ k' = 2 then some (.undef, m) else none
    | _ => none) else none
  | _ => none
/-- NoEscape and MakeNoZero. -/
def iNE (xs : List AVal) (T : List (Nat × (Nat × Nat))) : Option (AVal × List (Nat × (Nat × Nat))) :=
  match xs with
  | [x] => some (x, T)
  | _ => none
section
variable {B e : TypeId} {v x : AVal} {b t : Nat} {H : List ABlk} {T : List (Nat × (Nat × Nat))} {s s' : List UInt8} {n c : Int}
theorem iNE_eq : iNE [x] T = some (x, T) := rfl
theorem iWB_eq (h : 0 ≤ c) (h' : c < 256) : iWB B e [.tpt B b 2, .int .u8 c] ⟨H, T⟩ = bldR B e .nili b H T [UInt8.ofNat c.toNat] H[b]? := by simp [iWB, h, h']
theorem iWS_eq : iWS B e [.tpt B b 2, .str s] ⟨H, T⟩ = bldR B e (.tup (.int .i64 s.length) [.nili]) b H T s H[b]? := by simp [iWS]
theorem bld_new (h : s'.length < 1000000000) : bldR B e v b H T s' (some (.cells 0 [.nilp, .sl .nil 0 []])) = some (v, ⟨H.set b (.cells 0 [.tpt B b 2, .sl (.tok T.length) s'.length (fl cU s')]), T ++ [(s'.length, (1, e))]⟩) := by simp [bldR, h]
theorem bld_nil (h : s'.length < 1000000000) : bldR B e v b H T s' (some (.cells 0 [.tpt B b 2, .sl .nil 0 []])) = some (v, ⟨H.set b (.cells 0 [.tpt B b 2, .sl (.tok T.length) s'.length (fl cU s')]), T ++ [(s'.length, (1, e))]⟩) := by simp [bldR, h]
theorem bld_on {k : Nat} (ho : okR T (.tok t) k (1, e) = true) (hk : k = s.length) (h : s.length + s'.length < 1000000000) : bldR B e v b H T s' (some (.cells 0 [.tpt B b 2, .sl (.tok t) k (fl cU s)])) =
    some (v, ⟨H.set b (.cells 0 [.tpt B b 2, .sl (.tok t) (s ++ s').length (fl cU (s ++ s'))]), T.set t ((s ++ s').length, (1, e))⟩) := by subst hk; simp only [bldR, bytesOf_cU, ho, h, and_self, if_true]
theorem bld_on0 (ho : okR T (.tok t) 0 (1, e) = true) (h : s'.length < 1000000000) : bldR B e v b H T s' (some (.cells 0 [.tpt B b 2, .sl (.tok t) 0 []])) =
    some (v, ⟨H.set b (.cells 0 [.tpt B b 2, .sl (.tok t) s'.length (fl cU s')]), T.set t (s'.length, (1, e))⟩) := by
  have := bld_on (B := B) (v := v) (b := b) (H := H) (s := []) (s' := s') ho rfl (by simpa using h)
  simpa [fl] using this
/-- What a Builder's text is. -/
def bstR (m : AMem) (e : TypeId) (x : Option ABlk) : Option (AVal × AMem) :=
  match x with
  | some (.cells 0 [_, .sl .nil 0 []]) => some (.str [], m)
  | some (.cells 0 [_, .sl (.tok t) n cs]) => (match bytesOf cs with
    | some s => if okR m.T (.tok t) s.length (1, e) = true ∧ n = s.length ∧ 0 < s.length ∧ s.length < 1000000000 then some (.str s, m) else none
    | none => none)
  | _ => none
theorem iBS_eq : iBS B e [.tpt B b 2] ⟨H, T⟩ = bstR ⟨H, T⟩ e H[b]? := by simp [iBS, bstR]
theorem bst_on {k : Nat} (ho : okR T (.tok t) k (1, e) = true) (hk : k = s.length) (h : 0 < s.length) (h' : s.length < 1000000000) : bstR ⟨H, T⟩ e (some (.cells 0 [x, .sl (.tok t) k (fl cU s)])) = some (.str s, ⟨H, T⟩) := by subst hk; simp only [bstR, bytesOf_cU, ho, h, h', and_self, if_true]
theorem bst_nil : bstR ⟨H, T⟩ e (some (.cells 0 [x, .sl .nil 0 []])) = some (.str [], ⟨H, T⟩) := rfl
def ccR (B : TypeId) (b : Nat) (H : List ABlk) (T : List (Nat × (Nat × Nat))) (x : Option ABlk) : Option (AVal × AMem) :=
  match x with
  | some (.cells 0 [.nilp, x]) => some (.undef, ⟨H.set b (.cells 0 [.tpt B b 2, x]), T⟩)
  | some (.cells 0 [.tpt B' b' k', x]) => if B' = B ∧ b' = b ∧ k' = 2 then some (.undef, ⟨H, T⟩) else none
  | _ => none
theorem iCC_eq : iCC B [.tpt B b 2] ⟨H, T⟩ = ccR B b H T H[b]? := by simp [iCC, ccR]
theorem cc_new : ccR B b H T (some (.cells 0 [.nilp, x])) = some (.undef, ⟨H.set b (.cells 0 [.tpt B b 2, x]), T⟩) := rfl
theorem cc_on : ccR B b H T (some (.cells 0 [.tpt B b 2, x])) = some (.undef, ⟨H, T⟩) := by simp [ccR]
theorem bld_cases {r : AVal} {m' : AMem} {x : Option ABlk} (h : bldR B e v b H T s' x = some (r, m')) : r = v ∧
    ((s'.length < 1000000000 ∧ (x = some (.cells 0 [.nilp, .sl .nil 0 []]) ∨ x = some (.cells 0 [.tpt B b 2, .sl .nil 0 []])) ∧ m' = ⟨H.set b (.cells 0 [.tpt B b 2, .sl (.tok T.length) s'.length (fl cU s')]), T ++ [(s'.length, (1, e))]⟩) ∨
    ∃ t s, x = some (.cells 0 [.tpt B b 2, .sl (.tok t) s.length (fl cU s)]) ∧ okR T (.tok t) s.length (1, e) = true ∧ s.length + s'.length < 1000000000 ∧ m' = ⟨H.set b (.cells 0 [.tpt B b 2, .sl (.tok t) (s ++ s').length (fl cU (s ++ s'))]), T.set t ((s ++ s').length, (1, e))⟩) := by
  unfold bldR at h
  split at h
  · split at h
    · rename_i hl
      cases h
      exact ⟨rfl, .inl ⟨hl, .inl rfl, rfl⟩⟩
    · cases h
  · split at h
    · rename_i hc
      obtain ⟨rfl, rfl, rfl, hl⟩ := hc
      cases h
      exact ⟨rfl, .inl ⟨hl, .inr rfl, rfl⟩⟩
    · cases h
  · split at h
    · rename_i s hb
      split at h
      · rename_i hc
        obtain ⟨rfl, rfl, rfl, rfl, ho, hl⟩ := hc
        cases h
        have := bytesOf_spec _ _ hb
        rw [← fl_cU_map] at this
        subst this
        exact ⟨rfl, .inr ⟨_, _, rfl, ho, hl, rfl⟩⟩
      · cases h
    · cases h
  · cases h
theorem u8_of {c : Int} (h : 0 ≤ c) (h' : c < 256) : c = ((UInt8.ofNat c.toNat).toNat : Nat) := by
  rw [UInt8.toNat_ofNat']
  omega
theorem app_str {P : Program} {t t2 : TypeId} {r : Rt} {l : List UInt8} (hA : appT P t t2 = some ⟨e, 1, 1⟩) (hr : okR T r l.length (1, e) = true) (hf : r = .full → l.length = 0 ∨ 0 < s.length) (hn : l.length + s.length < 1000000000) :
    aappend P t t2 ⟨H, T⟩ (.sl r l.length (fl cU l)) (.str s) = some (.sl (nxR T r) (l ++ s).length (fl cU (l ++ s)), ⟨H, nxT T r (l ++ s).length (1, e)⟩) := by
  have h := app_gen (H := H) (n := l.length) (cs := fl cU l) (x := .str s) hA (by decide) alist_str (by rw [l_n_cU, Nat.mul_one]) (by rwa [l_n_cU]) hf (by rw [l_n_cU, Nat.mul_one]) hn
  rw [h]
  simp only [l_n_cU, List.length_append, fl_append]
theorem set_at {x : ABlk} (h : b < H.length) : (H.set b x)[b]? = some x := List.getElem?_set_self h
end
end Go.Hk
/- Ranges over functions and over maps, ars rules of a walk; a round that writes into a Builder. -/
namespace Go.Hk
section
variable {P : Program} {Γ : Gam} {mu : Bool} {n hk tk : Nat} {Q : Exit → St → Prop} {e : List (Nat × AVal)} {m : AMem}
theorem e_w_regionx2 {k k2 : Nat} {t t2 : OT} {L : List (FuncId × Con)} {l : List Oper} {id : Nat} {d : Bool} (h : ¬ id = k) (h2 : ¬ id = k2) : W P (gamx [(k, t), (k2, t2)] L) mu hk tk (.region id l.toArray d) Q ⟨e, m⟩ = regW (opsO P (gamx [(k, t), (k2, t2)] L) mu (prep l l) (some ⟨e, m⟩)) Q := e_w_region0 (by
  have h1 : (k == id) = false := beq_eq_false_iff_ne.2 fun h' => h h'.symm
  have h3 : (k2 == id) = false := beq_eq_false_iff_ne.2 fun h' => h2 h'.symm
  simp only [gamx, List.find?, h1, h3]; rfl) rfl
attribute [go_sem] e_w_regionx2
theorem YCall.of_w {b : Nat} {args : List AVal} {m' : AMem} {r : AVal} {pend : Option Code} {ps : Array Tmp} {asg body : Code} {env : List (Nat × AVal)} (hΓ : Sound P Γ) (hm : P.follows .mixedOrders = true)
    (hb : m.H[b]? = some (.loop .ready pend ps asg body env n)) (hps : args.length = ps.size) (hpn : ps.toList.all (decide <| · < n) = true) (ha : rf asg = false) (hbd : rf body = false) (hH : m.H.length ≤ m'.H.length) (hT : m.T.length ≤ m'.T.length)
    (ok1 : codeOKx Γ mu n asg = true) (ok2 : codeOKx Γ mu n body = true)
    (h : W P Γ mu m.H.length m.T.length asg (fun x s1 => x = .normal ∧ s1.m.H[b]? = some (.loop .ready pend ps asg body env n) ∧
      W P Γ mu m.H.length m.T.length body (roundQ b ps asg body env n r m') ⟨s1.env, { s1.m with H := s1.m.H.set b (.loop .busy pend ps asg body env n) }⟩) ⟨bindP ps.toList args env, m⟩) : YCall P b args m r m' :=
  YCall.of_body hb hps hpn ha hbd hH hT (AWp.w hΓ hm asg _ _ ok1 (h.mono fun x s1 h' => ⟨h'.1, h'.2.1, AWp.w hΓ hm body _ _ ok2 h'.2.2⟩))
end
end Go.Hk
namespace Go.Hk
end Go.Hk
/- Memory that came in, with blocks of one's own behind it. -/
namespace Go.Hk
section
variable {G l : List ABlk} {b k t : Nat} {x y : ABlk}
theorem m_own0 : (G ++ l)[G.length]? = l[0]? := by rw [List.getElem?_append_right (Nat.le_refl _), Nat.sub_self]
theorem m_own : (G ++ l)[G.length + k]? = l[k]? := by rw [List.getElem?_append_right (Nat.le_add_right _ _), Nat.add_sub_cancel_left]
theorem m_own0S {c : Nat} : (G.set c x ++ l)[G.length]? = l[0]? := by
  have := m_own0 (G := G.set c x) (l := l); rwa [List.length_set] at this
theorem m_ownS {c : Nat} : (G.set c x ++ l)[G.length + k]? = l[k]? := by
  have := m_own (G := G.set c x) (l := l) (k := k); rwa [List.length_set] at this
theorem m_put0 : (G ++ l).set G.length y = G ++ l.set 0 y := by rw [List.set_append_right _ _ (Nat.le_refl _), Nat.sub_self]
theorem m_put : (G ++ l).set (G.length + k) y = G ++ l.set k y := by rw [List.set_append_right _ _ (Nat.le_add_right _ _), Nat.add_sub_cancel_left]
theorem m_put0S {c : Nat} : (G.set c x ++ l).set G.length y = G.set c x ++ l.set 0 y := by
  have := m_put0 (G := G.set c x) (l := l) (y := y); rwa [List.length_set] at this
theorem m_putS {c : Nat} : (G.set c x ++ l).set (G.length + k) y = G.set c x ++ l.set k y := by
  have := m_put (G := G.set c x) (l := l) (k := k) (y := y); rwa [List.length_set] at this
theorem m_more {l' : List ABlk} : G ++ l ++ l' = G ++ (l ++ l') := List.append_assoc _ _ _
end
/-! ### Closedness grows -/
/-- Nothing in these names anything outside. -/
def shut (m : AMem) : Bool := m.H.all (cloB m.H.length m.T.length)
theorem shut_set {G : List ABlk} {T : List (Nat × (Nat × Nat))} {b : Nat} {x : ABlk} (hG : shut ⟨G, T⟩ = true) (hx : cloB G.length T.length x = true) : shut ⟨G.set b x, T⟩ = true := by
  simp only [shut, List.length_set] at hG ⊢
  rw [List.all_eq_true] at hG ⊢
  intro y hy
  rcases List.mem_or_eq_of_mem_set hy with h | rfl
  · exact hG y h
  · exact hx
/-- What a function leaves behind it: blocks of its own, that nobody names. -/
theorem left_app {r : AVal} {G l : List ABlk} {T : List (Nat × (Nat × Nat))} (hG : shut ⟨G, T⟩ = true) (hr : clo G.length T.length r = true) : Left r ⟨G, T⟩ ⟨G ++ l, T⟩ := .inr ⟨⟨l, [], by simp⟩, hG, hr⟩
theorem leftM_one {G l : List ABlk} {T : List (Nat × (Nat × Nat))} (hG : shut ⟨G, T⟩ = true) : LeftM ⟨G, T⟩ ⟨G ++ l, T⟩ := .inr ⟨⟨l, [], by simp⟩, hG⟩
attribute [go_sem] m_own0 m_own m_own0S m_ownS m_put0 m_put m_put0S m_putS m_more List.length_append List.length_set
end Go.Hk
/- strings.Join: the plain law. -/
namespace Go.Hk
def cS (s : List UInt8) : List AVal := [.str s]
theorem cS_len (s : List UInt8) : (cS s).length = 1 := rfl
theorem cS_strip (s : List UInt8) : stripL (cS s) = some (cS s) := rfl
theorem l_s_cS {l : List (List UInt8)} : stripL (fl cS l) = some (fl cS l) := fl_strip cS_strip l
theorem l_n_cS {l : List (List UInt8)} : (fl cS l).length = l.length := by rw [fl_len cS_len, Nat.mul_one]
theorem c_flS {h t : Nat} {l : List (List UInt8)} : cloL h t (fl cS l) = true := cloL_strip _ _ l_s_cS
attribute [go_sem] l_s_cS l_n_cS c_flS l_s_cU l_n_cU
/-- What stands behind the first one. -/
def jt (sep : List UInt8) : List (List UInt8) → List UInt8
  | [] => []
  | y :: l => sep ++ (y ++ jt sep l)
def joinS (sep : List UInt8) : List (List UInt8) → List UInt8
  | [] => []
  | x :: l => x ++ jt sep l
end Go.Hk
/- Layer 3, the plain law: the text of a pattern. -/
namespace Go.Hk
def plain (n : Int) : Bool := decide (97 ≤ n) && decide (n ≤ 122) || decide (65 ≤ n) && decide (n ≤ 90) || decide (48 ≤ n) && decide (n ≤ 57)
def hexs : List UInt8 := [48, 49, 50, 51, 52, 53, 54, 55, 56, 57, 97, 98, 99, 100, 101, 102]
def hexd (k : Nat) : UInt8 := hexs.getD k 0
def charT (n : Nat) : List UInt8 := if plain n then [UInt8.ofNat n] else [92, 120, hexd (n / 16), hexd (n % 16)]
end Go.Hk
namespace Go.Hk
/-! ### Texts of sets -/
def charI (n : Int) : List UInt8 := charT n.toNat
def runT (r : Int × Int) : List UInt8 := if r.1 < r.2 then charI r.1 ++ ([45] ++ charI r.2) else charI r.1
def rT : List (Int × Int) → List UInt8
  | [] => []
  | r :: l => runT r ++ rT l
/-- A set's text. -/
def btext (A : Nat) : List UInt8 := if (runsN A 256).length = 1 ∧ ((runsN A 256).getD 0 (0, 0)).1 = ((runsN A 256).getD 0 (0, 0)).2 then charI ((runsN A 256).getD 0 (0, 0)).1 else [91] ++ rT (runsN A 256) ++ [93]
/-! ### Texts of numbers -/
def itoa (n : Int) : List UInt8 := if n < 10 then [UInt8.ofNat (48 + n.toNat)] else [UInt8.ofNat (48 + n.toNat / 10), UInt8.ofNat (48 + n.toNat % 10)]
end Go.Hk
namespace Go.Hk
/-! ### Texts of patterns -/
def par (b : Bool) (t : List UInt8) : List UInt8 := if b then [40] ++ t ++ [41] else t
def pk (k j : Int) : Bool := if k = 5 then decide (3 ≤ j) else if k = 3 then decide (j = 4) else false
def tail5 (lo hi : Int) : List UInt8 := [123] ++ itoa lo ++ [44] ++ (if 0 ≤ hi then itoa hi else []) ++ [125]
def sepK (k : Int) : List UInt8 := if k = 4 then [124] else []
mutual
def text : Rx → List UInt8
  | .mk k s lo hi l => if k = 2 then btext s else if k = 5 then joinS [] (texts k l) ++ tail5 lo hi else if k = 3 ∨ k = 4 then joinS (sepK k) (texts k l) else [40, 41]
def texts : Int → List Rx → List (List UInt8)
  | _, [] => []
  | k, y :: l => par (pk k y.k) (text y) :: texts k l
end
end Go.Hk
namespace Go.Hk
end Go.Hk
/- Layer 3, the plain law: patterns by numbers. -/
namespace Go.Hk
end Go.Hk
namespace Go.Hk
/-! ### What is made may be -/
end Go.Hk
namespace Go.Hk
end Go.Hk
/- The Maker of patterns: what its methods do to it. -/
namespace Go.Hk
section
variable {b : Nat} {n : Int} {H : List ABlk} {T : List (Nat × (Nat × Nat))} {k a p : Nat} {L : List UInt8}
end
section
variable {ok : List UInt8 → Nat → Prop} [∀ L a, Decidable (ok L a)] {F : List UInt8 → Nat → AVal × Nat} {b : Nat} {H : List ABlk} {T : List (Nat × (Nat × Nat))} {k a : Nat} {L : List UInt8}
end
end Go.Hk
namespace Go.Hk
theorem l_s_cR2 {x y : Rx} : stripL (cR x ++ cR y) = some (cR x ++ cR y) := s_append (cR_strip x) (cR_strip y)
attribute [go_sem] l_s_cR2
theorem cR_strip' {x : Rx} : stripL (cR x) = some (cR x) := cR_strip x
attribute [go_sem] cR_strip'
end Go.Hk
