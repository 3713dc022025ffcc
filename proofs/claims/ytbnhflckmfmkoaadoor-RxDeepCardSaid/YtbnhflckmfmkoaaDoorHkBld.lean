/- strings.Builder: what its methods do to the row of bytes behind it. -/
import Derived.Test.YtbnhflckmfmkoaaDoorHkPc
import Derived.Test.YtbnhflckmfmkoaaDoorHkEv
set_option linter.unusedSimpArgs false
set_option linter.unusedVariables false
namespace Go.Hk
theorem cU_len (c : UInt8) : (cU c).length = 1 := rfl
theorem cU_strip (c : UInt8) : stripL (cU c) = some (cU c) := rfl
theorem cU_inj {a b : UInt8} (h : cU a = cU b) : a = b := by
  simp only [cU, List.cons.injEq, AVal.int.injEq, and_true, true_and, Int.natCast_inj] at h
  exact UInt8.toNat.inj h
theorem fl_cU_map (s : List UInt8) : fl cU s = s.map fun c => .int .u8 c.toNat := by
  induction s with
  | nil => rfl
  | cons c s ih => rw [fl_cons, ih]; rfl
theorem bytesOf_cU (s : List UInt8) : bytesOf (fl cU s) = some s := by rw [fl_cU_map, bytesOf_map]
theorem l_s_cU {s : List UInt8} : stripL (fl cU s) = some (fl cU s) := fl_strip cU_strip s
theorem l_n_cU {s : List UInt8} : (fl cU s).length = s.length := by rw [fl_len cU_len, Nat.mul_one]
theorem alist_str {m : AMem} {s : List UInt8} : alist m (.str s) = some (s.length, fl cU s) := by rw [fl_cU_map]; rfl
theorem okR_set {T : List (Nat × (Nat × Nat))} {t n k : Nat} {z : Nat × Nat} (h : okR T (.tok t) n z = true) : okR (T.set t (k, z)) (.tok t) k z = true := by
  simp only [okR, beq_iff_eq] at h ⊢
  have := (List.getElem?_eq_some_iff.1 h).1
  rw [List.getElem?_set_self this]
/-- What is written behind the bytes of a Builder. -/
def bldR (B e : TypeId) (v : AVal) (b : Nat) (H : List ABlk) (T : List (Nat × (Nat × Nat))) (s' : List UInt8) (x : Option ABlk) : Option (AVal × AMem) :=
  match x with
  | some (.cells 0 [.nilp, .sl .nil 0 []]) => if s'.length < 1000000000 then some (v, ⟨H.set b (.cells 0 [.tpt B b 2, .sl (.tok T.length) s'.length (fl cU s')]), T ++ [(s'.length, (1, e))]⟩) else none
  | some (.cells 0 [.tpt B' b' k, .sl .nil 0 []]) => if B' = B ∧ b' = b ∧ k = 2 ∧ s'.length < 1000000000 then some (v, ⟨H.set b (.cells 0 [.tpt B b 2, .sl (.tok T.length) s'.length (fl cU s')]), T ++ [(s'.length, (1, e))]⟩) else none
  | some (.cells 0 [.tpt B' b' k, .sl (.tok t) n cs]) => (match bytesOf cs with
    | some s => if B' = B ∧ b' = b ∧ k = 2 ∧ n = s.length ∧ okR T (.tok t) s.length (1, e) = true ∧ s.length + s'.length < 1000000000 then
        some (v, ⟨H.set b (.cells 0 [.tpt B b 2, .sl (.tok t) (s ++ s').length (fl cU (s ++ s'))]), T.set t ((s ++ s').length, (1, e))⟩) else none
    | none => none)
  | _ => none
def iWB (B e : TypeId) (xs : List AVal) (m : AMem) : Option (AVal × AMem) :=
  match xs with
  | [.tpt B' b k, .int .u8 c] => if B' = B ∧ k = 2 ∧ 0 ≤ c ∧ c < 256 then bldR B e .nili b m.H m.T [UInt8.ofNat c.toNat] m.H[b]? else none
  | _ => none
def iWS (B e : TypeId) (xs : List AVal) (m : AMem) : Option (AVal × AMem) :=
  match xs with
  | [.tpt B' b k, .str s] => if B' = B ∧ k = 2 then bldR B e (.tup (.int .i64 s.length) [.nili]) b m.H m.T s m.H[b]? else none
  | _ => none
def iBS (B e : TypeId) (xs : List AVal) (m : AMem) : Option (AVal × AMem) :=
  match xs with
  | [.tpt B' b k] => if B' = B ∧ k = 2 then (match m.H[b]? with
    | some (.cells 0 [_, .sl .nil 0 []]) => some (.str [], m)
    | some (.cells 0 [_, .sl (.tok t) n cs]) => (match bytesOf cs with
      | some s => if okR m.T (.tok t) s.length (1, e) = true ∧ n = s.length ∧ 0 < s.length ∧ s.length < 1000000000 then some (.str s, m) else none
      | none => none)
    | _ => none) else none
  | _ => none
def iCC (B : TypeId) (xs : List AVal) (m : AMem) : Option (AVal × AMem) :=
  match xs with
  | [.tpt B' b k] => if B' = B ∧ k = 2 then (match m.H[b]? with
    | some (.cells 0 [.nilp, x]) => some (.undef, ⟨m.H.set b (.cells 0 [.tpt B b 2, x]), m.T⟩)
    | some (.cells 0 [.tpt B' b' k', x]) => if B' = B ∧ b' = b ∧ k' = 2 then some (.undef, m) else none
    | _ => none) else none
  | _ => none
/-- Room in a fresh Builder. -/
def iGr (B e : TypeId) (xs : List AVal) (m : AMem) : Option (AVal × AMem) :=
  match xs with
  | [.tpt B' b k, .int .i64 n] => if B' = B ∧ k = 2 ∧ 0 ≤ n ∧ n ≤ 281474976710656 then (match m.H[b]? with
    | some (.cells 0 [.nilp, .sl .nil 0 []]) =>
      if n = 0 then some (.undef, ⟨m.H.set b (.cells 0 [.tpt B b 2, .sl .nil 0 []]), m.T⟩)
      else some (.undef, ⟨m.H.set b (.cells 0 [.tpt B b 2, .sl (.tok m.T.length) 0 []]), m.T ++ [(0, (1, e))]⟩)
    | _ => none) else none
  | _ => none
def gwR (e : TypeId) (b : Nat) (H : List ABlk) (T : List (Nat × (Nat × Nat))) (x : Option ABlk) : Option (AVal × AMem) :=
  match x with
  | some (.cells 0 [p, .sl .nil 0 []]) => some (.undef, ⟨H.set b (.cells 0 [p, .sl (.tok T.length) 0 []]), T ++ [(0, (1, e))]⟩)
  | _ => none
def iGw (B e : TypeId) (xs : List AVal) (m : AMem) : Option (AVal × AMem) :=
  match xs with
  | [.tpt B' b k, .int .i64 n] => if B' = B ∧ k = 2 ∧ 0 < n ∧ n ≤ 281474976710656 then gwR e b m.H m.T m.H[b]? else none
  | _ => none
/-- NoEscape and MakeNoZero. -/
def iNE (xs : List AVal) (T : List (Nat × (Nat × Nat))) : Option (AVal × List (Nat × (Nat × Nat))) :=
  match xs with
  | [x] => some (x, T)
  | _ => none
def iMZ (e : TypeId) (xs : List AVal) (T : List (Nat × (Nat × Nat))) : Option (AVal × List (Nat × (Nat × Nat))) :=
  match xs with
  | [.int .i64 n] => if 0 ≤ n ∧ n ≤ 281474976710656 then some (.sl (.tok T.length) n.toNat [], T ++ [(0, (1, e))]) else none
  | _ => none
section
variable {B e : TypeId} {v x : AVal} {b t : Nat} {H : List ABlk} {T : List (Nat × (Nat × Nat))} {s s' : List UInt8} {n c : Int}
theorem iNE_eq : iNE [x] T = some (x, T) := rfl
theorem iMZ_eq (h : 0 ≤ n) (h' : n ≤ 281474976710656) : iMZ e [.int .i64 n] T = some (.sl (.tok T.length) n.toNat [], T ++ [(0, (1, e))]) := by simp [iMZ, h, h']
theorem iWB_eq (h : 0 ≤ c) (h' : c < 256) : iWB B e [.tpt B b 2, .int .u8 c] ⟨H, T⟩ = bldR B e .nili b H T [UInt8.ofNat c.toNat] H[b]? := by simp [iWB, h, h']
theorem iWS_eq : iWS B e [.tpt B b 2, .str s] ⟨H, T⟩ = bldR B e (.tup (.int .i64 s.length) [.nili]) b H T s H[b]? := by simp [iWS]
theorem bld_new (h : s'.length < 1000000000) : bldR B e v b H T s' (some (.cells 0 [.nilp, .sl .nil 0 []])) = some (v, ⟨H.set b (.cells 0 [.tpt B b 2, .sl (.tok T.length) s'.length (fl cU s')]), T ++ [(s'.length, (1, e))]⟩) := by simp [bldR, h]
theorem bld_nil (h : s'.length < 1000000000) : bldR B e v b H T s' (some (.cells 0 [.tpt B b 2, .sl .nil 0 []])) = some (v, ⟨H.set b (.cells 0 [.tpt B b 2, .sl (.tok T.length) s'.length (fl cU s')]), T ++ [(s'.length, (1, e))]⟩) := by simp [bldR, h]
theorem bld_on {k : Nat} (ho : okR T (.tok t) k (1, e) = true) (hk : k = s.length) (h : s.length + s'.length < 1000000000) : bldR B e v b H T s' (some (.cells 0 [.tpt B b 2, .sl (.tok t) k (fl cU s)])) =
    some (v, ⟨H.set b (.cells 0 [.tpt B b 2, .sl (.tok t) (s ++ s').length (fl cU (s ++ s'))]), T.set t ((s ++ s').length, (1, e))⟩) := by subst hk; simp only [bldR, bytesOf_cU, ho, h, and_self, if_true]
theorem bld_on0 (ho : okR T (.tok t) 0 (1, e) = true) (h : s'.length < 1000000000) : bldR B e v b H T s' (some (.cells 0 [.tpt B b 2, .sl (.tok t) 0 []])) =
    some (v, ⟨H.set b (.cells 0 [.tpt B b 2, .sl (.tok t) s'.length (fl cU s')]), T.set t (s'.length, (1, e))⟩) := by
  have := bld_on (B := B) (v := v) (b := b) (H := H) (s := []) (s' := s') ho rfl (by simpa using h)
  simpa [fl] using this
/-- What a Builder's text is. -/
def bstR (m : AMem) (e : TypeId) (x : Option ABlk) : Option (AVal × AMem) :=
  match x with
  | some (.cells 0 [_, .sl .nil 0 []]) => some (.str [], m)
  | some (.cells 0 [_, .sl (.tok t) n cs]) => (match bytesOf cs with
    | some s => if okR m.T (.tok t) s.length (1, e) = true ∧ n = s.length ∧ 0 < s.length ∧ s.length < 1000000000 then some (.str s, m) else none
    | none => none)
  | _ => none
theorem iBS_eq : iBS B e [.tpt B b 2] ⟨H, T⟩ = bstR ⟨H, T⟩ e H[b]? := by simp [iBS, bstR]
theorem bst_on {k : Nat} (ho : okR T (.tok t) k (1, e) = true) (hk : k = s.length) (h : 0 < s.length) (h' : s.length < 1000000000) : bstR ⟨H, T⟩ e (some (.cells 0 [x, .sl (.tok t) k (fl cU s)])) = some (.str s, ⟨H, T⟩) := by subst hk; simp only [bstR, bytesOf_cU, ho, h, h', and_self, if_true]
theorem bst_nil : bstR ⟨H, T⟩ e (some (.cells 0 [x, .sl .nil 0 []])) = some (.str [], ⟨H, T⟩) := rfl
def ccR (B : TypeId) (b : Nat) (H : List ABlk) (T : List (Nat × (Nat × Nat))) (x : Option ABlk) : Option (AVal × AMem) :=
  match x with
  | some (.cells 0 [.nilp, x]) => some (.undef, ⟨H.set b (.cells 0 [.tpt B b 2, x]), T⟩)
  | some (.cells 0 [.tpt B' b' k', x]) => if B' = B ∧ b' = b ∧ k' = 2 then some (.undef, ⟨H, T⟩) else none
  | _ => none
theorem iCC_eq : iCC B [.tpt B b 2] ⟨H, T⟩ = ccR B b H T H[b]? := by simp [iCC, ccR]
theorem cc_new : ccR B b H T (some (.cells 0 [.nilp, x])) = some (.undef, ⟨H.set b (.cells 0 [.tpt B b 2, x]), T⟩) := rfl
theorem cc_on : ccR B b H T (some (.cells 0 [.tpt B b 2, x])) = some (.undef, ⟨H, T⟩) := by simp [ccR]
def grR (B e : TypeId) (b : Nat) (n : Int) (H : List ABlk) (T : List (Nat × (Nat × Nat))) (x : Option ABlk) : Option (AVal × AMem) :=
  match x with
  | some (.cells 0 [.nilp, .sl .nil 0 []]) =>
      if n = 0 then some (.undef, ⟨H.set b (.cells 0 [.tpt B b 2, .sl .nil 0 []]), T⟩)
      else some (.undef, ⟨H.set b (.cells 0 [.tpt B b 2, .sl (.tok T.length) 0 []]), T ++ [(0, (1, e))]⟩)
  | _ => none
theorem iGr_eq (h : 0 ≤ n) (h' : n ≤ 281474976710656) : iGr B e [.tpt B b 2, .int .i64 n] ⟨H, T⟩ = grR B e b n H T H[b]? := by simp [iGr, grR, h, h']
theorem iGw_eq (h : 0 < n) (h' : n ≤ 281474976710656) : iGw B e [.tpt B b 2, .int .i64 n] ⟨H, T⟩ = gwR e b H T H[b]? := by simp [iGw, h, h']
theorem gw_on : gwR e b H T (some (.cells 0 [x, .sl .nil 0 []])) = some (.undef, ⟨H.set b (.cells 0 [x, .sl (.tok T.length) 0 []]), T ++ [(0, (1, e))]⟩) := rfl
theorem gr_0 : grR B e b 0 H T (some (.cells 0 [.nilp, .sl .nil 0 []])) = some (.undef, ⟨H.set b (.cells 0 [.tpt B b 2, .sl .nil 0 []]), T⟩) := rfl
theorem gr_on (h : 0 < n) : grR B e b n H T (some (.cells 0 [.nilp, .sl .nil 0 []])) = some (.undef, ⟨H.set b (.cells 0 [.tpt B b 2, .sl (.tok T.length) 0 []]), T ++ [(0, (1, e))]⟩) := by
  have : n ≠ 0 := by omega
  simp [grR, this]
theorem bld_cases {r : AVal} {m' : AMem} {x : Option ABlk} (h : bldR B e v b H T s' x = some (r, m')) : r = v ∧
    ((s'.length < 1000000000 ∧ (x = some (.cells 0 [.nilp, .sl .nil 0 []]) ∨ x = some (.cells 0 [.tpt B b 2, .sl .nil 0 []])) ∧ m' = ⟨H.set b (.cells 0 [.tpt B b 2, .sl (.tok T.length) s'.length (fl cU s')]), T ++ [(s'.length, (1, e))]⟩) ∨
    ∃ t s, x = some (.cells 0 [.tpt B b 2, .sl (.tok t) s.length (fl cU s)]) ∧ okR T (.tok t) s.length (1, e) = true ∧ s.length + s'.length < 1000000000 ∧ m' = ⟨H.set b (.cells 0 [.tpt B b 2, .sl (.tok t) (s ++ s').length (fl cU (s ++ s'))]), T.set t ((s ++ s').length, (1, e))⟩) := by
  unfold bldR at h
  split at h
  · split at h
    · rename_i hl
      cases h
      exact ⟨rfl, .inl ⟨hl, .inl rfl, rfl⟩⟩
    · cases h
  · split at h
    · rename_i hc
      obtain ⟨rfl, rfl, rfl, hl⟩ := hc
      cases h
      exact ⟨rfl, .inl ⟨hl, .inr rfl, rfl⟩⟩
    · cases h
  · split at h
    · rename_i s hb
      split at h
      · rename_i hc
        obtain ⟨rfl, rfl, rfl, rfl, ho, hl⟩ := hc
        cases h
        have := bytesOf_spec _ _ hb
        rw [← fl_cU_map] at this
        subst this
        exact ⟨rfl, .inr ⟨_, _, rfl, ho, hl, rfl⟩⟩
      · cases h
    · cases h
  · cases h
theorem cU_fold {c : UInt8} : [AVal.int .u8 (c.toNat : Nat)] = cU c := rfl
theorem u8_of {c : Int} (h : 0 ≤ c) (h' : c < 256) : c = ((UInt8.ofNat c.toNat).toNat : Nat) := by
  rw [UInt8.toNat_ofNat']
  omega
theorem app_str {P : Program} {t t2 : TypeId} {r : Rt} {l : List UInt8} (hA : appT P t t2 = some ⟨e, 1, 1⟩) (hr : okR T r l.length (1, e) = true) (hf : r = .full → l.length = 0 ∨ 0 < s.length) (hn : l.length + s.length < 1000000000) :
    aappend P t t2 ⟨H, T⟩ (.sl r l.length (fl cU l)) (.str s) = some (.sl (nxR T r) (l ++ s).length (fl cU (l ++ s)), ⟨H, nxT T r (l ++ s).length (1, e)⟩) := by
  have h := app_gen (H := H) (n := l.length) (cs := fl cU l) (x := .str s) hA (by decide) alist_str (by rw [l_n_cU, Nat.mul_one]) (by rwa [l_n_cU]) hf (by rw [l_n_cU, Nat.mul_one]) hn
  rw [h]
  simp only [l_n_cU, List.length_append, fl_append]
theorem set_at {x : ABlk} (h : b < H.length) : (H.set b x)[b]? = some x := List.getElem?_set_self h
end
end Go.Hk
