/- The Maker of patterns: what its methods do to it. -/
import Derived.Test.YtbnhflckmfmkoaaHkMem
import Derived.Test.YtbnhflckmfmkoaaHkMk
set_option linter.unusedSimpArgs false
set_option linter.unusedVariables false
namespace Go.Hk
/-- Numbers out of a Maker's bytes. -/
def pkR (b : Nat) (n : Int) (H : List ABlk) (T : List (Nat × (Nat × Nat))) (x : Option ABlk) : Option (AVal × AMem) :=
  match x with
  | some (.cells 0 [.sl .no k cs, .int .i64 a]) => (match bytesOf cs with
    | some L => if k = L.length ∧ L.length < 1000000 ∧ 0 ≤ a ∧ a < 1000000 ∧ 0 < n ∧ n < 1000000 then some (.int .i64 (pickV L a.toNat n.toNat : Nat), ⟨H.set b (.cells 0 [.sl .no k cs, .int .i64 (a + 1)]), T⟩) else none
    | none => none)
  | _ => none
def iPk (xs : List AVal) (m : AMem) : Option (AVal × AMem) :=
  match xs with
  | [.ptr b 0 0, .int .i64 n] => pkR b n m.H m.T m.H[b]?
  | _ => none
section
variable {b : Nat} {n : Int} {H : List ABlk} {T : List (Nat × (Nat × Nat))} {k a p : Nat} {L : List UInt8}
theorem iPk_eq : iPk [.ptr b 0 0, .int .i64 n] ⟨H, T⟩ = pkR b n H T H[b]? := rfl
theorem pk_on (hk : k = L.length) (hL : L.length < 1000000) (ha2 : a < 1000000) (hn : 0 < n) (hn2 : n < 1000000) : pkR b n H T (some (.cells 0 [.sl .no k (fl cU L), .int .i64 (a : Nat)])) =
    some (.int .i64 (pickV L a n.toNat : Nat), ⟨H.set b (.cells 0 [.sl .no k (fl cU L), .int .i64 ((a + 1 : Nat) : Int)]), T⟩) := by
  have h0 : (0 : Int) ≤ a := by omega
  have h1 : (a : Int) < 1000000 := by omega
  simp only [pkR, bytesOf_cU, hk, hL, hn, hn2, h0, h1, and_self, if_true, Int.toNat_natCast]
  rfl
end
/-- A Maker's cells. -/
def mkC (k : Nat) (L : List UInt8) (a : Int) : ABlk := .cells 0 [.sl .no k (fl cU L), .int .i64 a]
theorem mkC_clo {h t k : Nat} {L : List UInt8} {a : Int} : cloB h t (mkC k L a) = true := by
  simp only [mkC, cloB, cloL, clo, cloR, cloL_strip _ _ l_s_cU, Bool.and_self]
/-- A method that draws numbers: what it hands back, and how far it comes. -/
def mkR (ok : List UInt8 → Nat → Prop) [∀ L a, Decidable (ok L a)] (F : List UInt8 → Nat → AVal × Nat) (b : Nat) (H : List ABlk) (T : List (Nat × (Nat × Nat))) (x : Option ABlk) : Option (AVal × AMem) :=
  match x with
  | some (.cells 0 [.sl .no k cs, .int .i64 a]) => (match bytesOf cs with
    | some L => if k = L.length ∧ L.length < 1000000 ∧ 0 ≤ a ∧ ok L a.toNat ∧ shut ⟨H, T⟩ = true then some ((F L a.toNat).1, ⟨H.set b (mkC k L (F L a.toNat).2), T⟩) else none
    | none => none)
  | _ => none
section
variable {ok : List UInt8 → Nat → Prop} [∀ L a, Decidable (ok L a)] {F : List UInt8 → Nat → AVal × Nat} {b : Nat} {H : List ABlk} {T : List (Nat × (Nat × Nat))} {k a : Nat} {L : List UInt8}
theorem mk_on (hk : k = L.length) (hL : L.length < 1000000) (ho : ok L a) (hs : shut ⟨H, T⟩ = true) : mkR ok F b H T (some (.cells 0 [.sl .no k (fl cU L), .int .i64 (a : Nat)])) =
    some ((F L a).1, ⟨H.set b (.cells 0 [.sl .no k (fl cU L), .int .i64 ((F L a).2 : Nat)]), T⟩) := by
  have h0 : (0 : Int) ≤ a := by omega
  simp only [mkR, bytesOf_cU, hk, hL, h0, hs, Int.toNat_natCast, ho, and_self, if_true, mkC]
theorem mk_on0 (hk : k = L.length) (hL : L.length < 1000000) (ho : ok L 0) (hs : shut ⟨H, T⟩ = true) : mkR ok F b H T (some (.cells 0 [.sl .no k (fl cU L), .int .i64 0])) =
    some ((F L 0).1, ⟨H.set b (.cells 0 [.sl .no k (fl cU L), .int .i64 ((F L 0).2 : Nat)]), T⟩) := mk_on (a := 0) hk hL ho hs
theorem mk_cases {r : AVal} {m' : AMem} {x : Option ABlk} (h : mkR ok F b H T x = some (r, m')) : ∃ L a, x = some (mkC L.length L ((a : Nat) : Int)) ∧ L.length < 1000000 ∧ ok L a ∧ shut ⟨H, T⟩ = true ∧ r = (F L a).1 ∧ m' = ⟨H.set b (mkC L.length L (F L a).2), T⟩ := by
  unfold mkR at h
  split at h
  · split at h
    · rename_i a L hb
      split at h
      · rename_i hc
        obtain ⟨rfl, hL, h0, ho, hs⟩ := hc
        obtain ⟨a, rfl⟩ := Int.eq_ofNat_of_zero_le h0
        have := bytesOf_spec _ _ hb
        rw [← fl_cU_map] at this
        subst this
        cases h
        exact ⟨L, a, rfl, hL, ho, hs, rfl, rfl⟩
      · cases h
    · cases h
  · cases h
end
def iLf (xs : List AVal) (m : AMem) : Option (AVal × AMem) :=
  match xs with
  | [.ptr b 0 0] => mkR (fun _ a => a < 900000) (fun L a => (rV (leafM L a).1, (leafM L a).2)) b m.H m.T m.H[b]?
  | _ => none
theorem iLf_eq {b : Nat} {H : List ABlk} {T : List (Nat × (Nat × Nat))} : iLf [.ptr b 0 0] ⟨H, T⟩ = mkR (fun _ a => a < 900000) (fun L a => (rV (leafM L a).1, (leafM L a).2)) b H T H[b]? := rfl
end Go.Hk
namespace Go.Hk
/-- Patterns of less than so much depth. -/
def iRxn (n : Nat) (xs : List AVal) (m : AMem) : Option (AVal × AMem) :=
  match xs with
  | [.ptr b 0 0, .int .i64 d] => if d.toNat < n ∧ -2 ≤ d then mkR (fun _ a => d.toNat ≤ 10 ∧ a + 8 * 2 ^ d.toNat ≤ 100000) (fun L a => (rV (rxM L d.toNat a).1, (rxM L d.toNat a).2)) b m.H m.T m.H[b]? else none
  | _ => none
theorem iRxn_eq {n b : Nat} {d : Int} {H : List ABlk} {T : List (Nat × (Nat × Nat))} (h : d.toNat < n ∧ -2 ≤ d) : iRxn n [.ptr b 0 0, .int .i64 d] ⟨H, T⟩ = mkR (fun _ a => d.toNat ≤ 10 ∧ a + 8 * 2 ^ d.toNat ≤ 100000) (fun L a => (rV (rxM L d.toNat a).1, (rxM L d.toNat a).2)) b H T H[b]? := if_pos h
def iRx (xs : List AVal) (m : AMem) : Option (AVal × AMem) := iRxn 11 xs m
theorem iRx_eq {b : Nat} {d : Int} {H : List ABlk} {T : List (Nat × (Nat × Nat))} (h : d.toNat < 11 ∧ -2 ≤ d) : iRx [.ptr b 0 0, .int .i64 d] ⟨H, T⟩ = mkR (fun _ a => d.toNat ≤ 10 ∧ a + 8 * 2 ^ d.toNat ≤ 100000) (fun L a => (rV (rxM L d.toNat a).1, (rxM L d.toNat a).2)) b H T H[b]? := if_pos h
theorem l_s_cR2 {x y : Rx} : stripL (cR x ++ cR y) = some (cR x ++ cR y) := s_append (cR_strip x) (cR_strip y)
attribute [go_sem] l_s_cR2
theorem cR_strip' {x : Rx} : stripL (cR x) = some (cR x) := cR_strip x
attribute [go_sem] cR_strip'
theorem good_join {k : Int} {x y : Rx} {d e : Int} {n m : Nat} (hx : Good x d n) (hy : Good y e m) (h : n + m < 1000000) : (∀ z ∈ [x, y], okX z) ∧ [x, y].length < 1000000 ∧ (flatK k [x, y]).length < 1000000 := by
  refine ⟨fun z hz => ?_, by simp, ?_⟩
  · simp only [List.mem_cons, List.not_mem_nil, or_false] at hz
    rcases hz with rfl | rfl
    · exact hx.ok
    · exact hy.ok
  · have h1 := len_szs (flat1 k x)
    have h2 := len_szs (flat1 k y)
    have h3 := flat1_sz k x
    have h4 := flat1_sz k y
    have h5 := hx.sz
    have h6 := hy.sz
    simp only [flatK, List.flatMap_cons, List.flatMap_nil, List.append_nil, List.length_append]
    omega
end Go.Hk
