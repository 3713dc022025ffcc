/- Layer 6: what draws rules from a Maker. -/
import Derived.Test.YtpbepclmcjmlbaaGreatDoorHkSp9
import Derived.Test.YtpbepclmcjmlbaaGreatDoorHkMkr
set_option linter.unusedSimpArgs false
set_option linter.unusedVariables false
namespace Go.Hk
def iSmA (xs : List AVal) (m : AMem) : Option (AVal × AMem) :=
  match xs with
  | [.ptr b 0 0] => mkR (fun _ a => a ≤ 50000) (fun L a => (rV (smallM L a).1, (smallM L a).2)) b m.H m.T m.H[b]?
  | _ => none
theorem iSmA_eq {b : Nat} {H : List ABlk} {T : List (Nat × (Nat × Nat))} : iSmA [.ptr b 0 0] ⟨H, T⟩ = mkR (fun _ a => a ≤ 50000) (fun L a => (rV (smallM L a).1, (smallM L a).2)) b H T H[b]? := rfl
def iRuA (xs : List AVal) (m : AMem) : Option (AVal × AMem) :=
  match xs with
  | [.ptr b 0 0, .int .i64 n, .bool p] => if 1 ≤ n ∧ n ≤ 8 then mkR (fun _ a => a ≤ 10000) (fun L a => (ruV (ruM L n.toNat p a).1, (ruM L n.toNat p a).2)) b m.H m.T m.H[b]? else none
  | _ => none
theorem iRuA_eq {b : Nat} {n : Int} {p : Bool} {H : List ABlk} {T : List (Nat × (Nat × Nat))} (h : 1 ≤ n ∧ n ≤ 8) : iRuA [.ptr b 0 0, .int .i64 n, .bool p] ⟨H, T⟩ = mkR (fun _ a => a ≤ 10000) (fun L a => (ruV (ruM L n.toNat p a).1, (ruM L n.toNat p a).2)) b H T H[b]? := if_pos h
/-- Tokens of a list that grows from nothing, behind others. -/
def gwR0 (T : List (Nat × (Nat × Nat))) (n : Nat) : Rt := if n = 0 then .nil else .tok T.length
def gwT0 (T : List (Nat × (Nat × Nat))) (z : Nat × Nat) (n : Nat) : List (Nat × (Nat × Nat)) := if n = 0 then T else T ++ [(n, z)]
theorem gw_ok {T : List (Nat × (Nat × Nat))} {z : Nat × Nat} {n : Nat} : okR (gwT0 T z n) (gwR0 T n) n z = true := by
  unfold gwT0 gwR0
  split
  · rfl
  · simp [okR]
theorem gw_next {T : List (Nat × (Nat × Nat))} {z : Nat × Nat} {n k : Nat} (hk : k = n + 1) : nxR (gwT0 T z n) (gwR0 T n) = gwR0 T k ∧ nxT (gwT0 T z n) (gwR0 T n) k z = gwT0 T z k := by
  subst hk
  unfold gwT0 gwR0
  by_cases h : n = 0
  · simp [h, nxR, nxT]
  · simp [h, nxR, nxT]
end Go.Hk
namespace Go.Hk
theorem gw_len {T : List (Nat × (Nat × Nat))} {z : Nat × Nat} {n : Nat} : T.length ≤ (gwT0 T z n).length := by unfold gwT0; split <;> simp
theorem gw_clo {T : List (Nat × (Nat × Nat))} {z : Nat × Nat} {n : Nat} : cloR (gwT0 T z n).length (gwR0 T n) = true := by
  unfold gwT0 gwR0
  split
  · rfl
  · simp [cloR]
theorem gw_app {T : List (Nat × (Nat × Nat))} {z : Nat × Nat} {n : Nat} : ∃ X, gwT0 T z n = T ++ X := by
  unfold gwT0
  split
  · exact ⟨[], by simp⟩
  · exact ⟨_, rfl⟩
theorem left_gw {G l : List ABlk} {T : List (Nat × (Nat × Nat))} {z : Nat × Nat} {n : Nat} (h : shut ⟨G, T⟩ = true) : LeftM ⟨G, T⟩ ⟨G ++ l, gwT0 T z n⟩ := by
  obtain ⟨X, e⟩ := gw_app (T := T) (z := z) (n := n)
  rw [e]
  exact .inr ⟨⟨l, X, rfl⟩, h⟩
end Go.Hk
namespace Go.Hk
section
variable {b : Nat} {n : Int} {H : List ABlk} {T : List (Nat × (Nat × Nat))} {k : Nat} {L : List UInt8}
theorem pk_0 (hk : k = L.length) (hL : L.length < 1000000) (hn : 0 < n) (hn2 : n < 1000000) : pkR b n H T (some (.cells 0 [.sl .no k (fl cU L), .int .i64 0])) = some (.int .i64 (pickV L 0 n.toNat : Nat), ⟨H.set b (.cells 0 [.sl .no k (fl cU L), .int .i64 1]), T⟩) := pk_on (a := 0) hk hL (by omega) hn hn2
theorem pk_1 (hk : k = L.length) (hL : L.length < 1000000) (hn : 0 < n) (hn2 : n < 1000000) : pkR b n H T (some (.cells 0 [.sl .no k (fl cU L), .int .i64 1])) = some (.int .i64 (pickV L 1 n.toNat : Nat), ⟨H.set b (.cells 0 [.sl .no k (fl cU L), .int .i64 2]), T⟩) := pk_on (a := 1) hk hL (by omega) hn hn2
theorem pk_2 (hk : k = L.length) (hL : L.length < 1000000) (hn : 0 < n) (hn2 : n < 1000000) : pkR b n H T (some (.cells 0 [.sl .no k (fl cU L), .int .i64 2])) = some (.int .i64 (pickV L 2 n.toNat : Nat), ⟨H.set b (.cells 0 [.sl .no k (fl cU L), .int .i64 3]), T⟩) := pk_on (a := 2) hk hL (by omega) hn hn2
theorem pk_3 (hk : k = L.length) (hL : L.length < 1000000) (hn : 0 < n) (hn2 : n < 1000000) : pkR b n H T (some (.cells 0 [.sl .no k (fl cU L), .int .i64 3])) = some (.int .i64 (pickV L 3 n.toNat : Nat), ⟨H.set b (.cells 0 [.sl .no k (fl cU L), .int .i64 4]), T⟩) := pk_on (a := 3) hk hL (by omega) hn hn2
end
end Go.Hk
namespace Go.Hk
theorem gw_step {T : List (Nat × (Nat × Nat))} {z : Nat × Nat} {n k : Nat} (hk : k ≠ 0) : nxR (gwT0 T z n) (gwR0 T n) = gwR0 T k ∧ nxT (gwT0 T z n) (gwR0 T n) k z = gwT0 T z k := by
  unfold gwT0 gwR0
  by_cases h : n = 0
  · simp [h, hk, nxR, nxT]
  · simp [h, hk, nxR, nxT]
end Go.Hk
