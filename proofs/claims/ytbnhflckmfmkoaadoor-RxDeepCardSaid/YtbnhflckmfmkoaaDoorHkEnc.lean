/- Values of the model's language as values of Lean, there and back. -/
import Derived.Test.YtbnhflckmfmkoaaDoorHkPd
set_option linter.unusedSimpArgs false
namespace Go.Hk

structure Enc (α : Type) where
  enc : α → AVal
  dec : AVal → Option α
  ok : α → Prop
  de : ∀ x, ok x → dec (enc x) = some x
  ed : ∀ v x, dec v = some x → v = enc x ∧ ok x

section
variable {α β γ δ : Type}

def con1 (E : Enc α) (f : α → AVal) : List AVal → Option AVal
  | [x] => (E.dec x).map f
  | _ => none
def con2 (E : Enc α) (F : Enc β) (f : α → β → AVal) : List AVal → Option AVal
  | [x, y] => (E.dec x).bind fun a => (F.dec y).map (f a)
  | _ => none
def con3 (E : Enc α) (F : Enc β) (G : Enc γ) (f : α → β → γ → AVal) : List AVal → Option AVal
  | [x, y, z] => (E.dec x).bind fun a => (F.dec y).bind fun b => (G.dec z).map (f a b)
  | _ => none

theorem con1_eq {E : Enc α} {f : α → AVal} {a : α} (h : E.ok a) : con1 E f [E.enc a] = some (f a) := by simp [con1, E.de a h]
theorem con2_eq {E : Enc α} {F : Enc β} {f : α → β → AVal} {a : α} {b : β} (h : E.ok a) (k : F.ok b) : con2 E F f [E.enc a, F.enc b] = some (f a b) := by simp [con2, E.de a h, F.de b k]
theorem con3_eq {E : Enc α} {F : Enc β} {G : Enc γ} {f : α → β → γ → AVal} {a : α} {b : β} {c : γ} (h : E.ok a) (k : F.ok b) (l : G.ok c) : con3 E F G f [E.enc a, F.enc b, G.enc c] = some (f a b c) := by
  simp [con3, E.de a h, F.de b k, G.de c l]

variable {P : Program} {fid : FuncId}
theorem con1_call {E : Enc α} {f : α → AVal} (h : ∀ a, E.ok a → PCall P fid [E.enc a] (f a)) : ∀ as v, con1 E f as = some v → PCall P fid as v := by
  intro as v hv
  unfold con1 at hv
  split at hv
  · rename_i x
    simp only [Option.map_eq_some_iff] at hv
    obtain ⟨a, ha, rfl⟩ := hv
    obtain ⟨rfl, h1⟩ := E.ed _ _ ha
    exact h a h1
  · cases hv
theorem con2_call {E : Enc α} {F : Enc β} {f : α → β → AVal} (h : ∀ a b, E.ok a → F.ok b → PCall P fid [E.enc a, F.enc b] (f a b)) : ∀ as v, con2 E F f as = some v → PCall P fid as v := by
  intro as v hv
  unfold con2 at hv
  split at hv
  · rename_i x y
    simp only [Option.bind_eq_some_iff, Option.map_eq_some_iff] at hv
    obtain ⟨a, ha, b, hb, rfl⟩ := hv
    obtain ⟨rfl, h1⟩ := E.ed _ _ ha
    obtain ⟨rfl, h2⟩ := F.ed _ _ hb
    exact h a b h1 h2
  · cases hv
theorem con3_call {E : Enc α} {F : Enc β} {G : Enc γ} {f : α → β → γ → AVal} (h : ∀ a b c, E.ok a → F.ok b → G.ok c → PCall P fid [E.enc a, F.enc b, G.enc c] (f a b c)) : ∀ as v, con3 E F G f as = some v → PCall P fid as v := by
  intro as v hv
  unfold con3 at hv
  split at hv
  · rename_i x y z
    simp only [Option.bind_eq_some_iff, Option.map_eq_some_iff] at hv
    obtain ⟨a, ha, b, hb, c, hc, rfl⟩ := hv
    obtain ⟨rfl, h1⟩ := E.ed _ _ ha
    obtain ⟨rfl, h2⟩ := F.ed _ _ hb
    obtain ⟨rfl, h3⟩ := G.ed _ _ hc
    exact h a b c h1 h2 h3
  · cases hv
end

/-! ### Numbers -/

def decInt (k : IntKind) : AVal → Option Int
  | .int k' n => if k' = k then some n else none
  | _ => none
def eInt (k : IntKind) : Enc Int where
  enc := .int k
  dec := decInt k
  ok _ := True
  de x _ := by simp [decInt]
  ed v x h := by
    cases v <;> simp only [decInt, reduceCtorEq] at h
    split at h
    · rename_i e; cases h; exact ⟨by rw [e], trivial⟩
    · cases h
def decBool : AVal → Option Bool
  | .bool b => some b
  | _ => none
def eBool : Enc Bool where
  enc := .bool
  dec := decBool
  ok _ := True
  de x _ := rfl
  ed v x h := by
    cases v <;> simp only [decBool, reduceCtorEq] at h
    cases h; exact ⟨rfl, trivial⟩
/-- A word. -/
def decWord : AVal → Option Nat
  | .int .u64 n => if 0 ≤ n ∧ n < 18446744073709551616 then some n.toNat else none
  | _ => none
def eWord : Enc Nat where
  enc n := .int .u64 (n : Int)
  dec := decWord
  ok n := n < 18446744073709551616
  de x h := by
    have : (0 : Int) ≤ (x : Int) ∧ (x : Int) < 18446744073709551616 := by omega
    simp [decWord, this]
  ed v x h := by
    unfold decWord at h
    split at h
    · split at h
      · simp only [Option.some.injEq] at h
        subst h
        rename_i n hn
        refine ⟨?_, by omega⟩
        rw [Int.toNat_of_nonneg hn.1]
      · cases h
    · cases h

/-! ### Sets -/
def decSet : AVal → Option Nat
  | .agg [.int .u64 a, .int .u64 b, .int .u64 c, .int .u64 d] =>
    if (0 ≤ a ∧ a < 18446744073709551616) ∧ (0 ≤ b ∧ b < 18446744073709551616) ∧ (0 ≤ c ∧ c < 18446744073709551616) ∧ (0 ≤ d ∧ d < 18446744073709551616) then
      some (a.toNat + 2 ^ 64 * b.toNat + 2 ^ 128 * c.toNat + 2 ^ 192 * d.toNat)
    else none
  | _ => none
theorem wd_sum (a b c d : Nat) (ha : a < 2 ^ 64) (hb : b < 2 ^ 64) (hc : c < 2 ^ 64) (hd : d < 2 ^ 64) :
    wd (a + 2 ^ 64 * b + 2 ^ 128 * c + 2 ^ 192 * d) 0 = a ∧ wd (a + 2 ^ 64 * b + 2 ^ 128 * c + 2 ^ 192 * d) 1 = b ∧ wd (a + 2 ^ 64 * b + 2 ^ 128 * c + 2 ^ 192 * d) 2 = c ∧ wd (a + 2 ^ 64 * b + 2 ^ 128 * c + 2 ^ 192 * d) 3 = d := by
  simp only [wd]
  refine ⟨by omega, by omega, by omega, by omega⟩
theorem sum_wd (A : Nat) (h : A < 2 ^ 256) : wd A 0 + 2 ^ 64 * wd A 1 + 2 ^ 128 * wd A 2 + 2 ^ 192 * wd A 3 = A := by
  simp only [wd]
  omega
def eSet : Enc Nat where
  enc := setV
  dec := decSet
  ok A := A < 2 ^ 256
  de A h := by
    have w (k : Nat) : (0 : Int) ≤ (wd A k : Nat) ∧ ((wd A k : Nat) : Int) < 18446744073709551616 := ⟨Int.natCast_nonneg _, Int.ofNat_lt.mpr (wd_lt A k)⟩
    simp only [setV, setL, decSet, w, and_self, if_true, Int.toNat_natCast]
    rw [sum_wd A h]
  ed v A h := by
    unfold decSet at h
    split at h
    · rename_i a b c d
      split at h
      · rename_i hc
        obtain ⟨ha, hb, hc, hd⟩ := hc
        simp only [Option.some.injEq] at h
        subst h
        obtain ⟨h0, h1, h2, h3⟩ := wd_sum a.toNat b.toNat c.toNat d.toNat (by omega) (by omega) (by omega) (by omega)
        refine ⟨?_, by omega⟩
        simp only [setV, setL, h0, h1, h2, h3, Int.toNat_of_nonneg ha.1, Int.toNat_of_nonneg hb.1, Int.toNat_of_nonneg hc.1, Int.toNat_of_nonneg hd.1]
      · cases h
    · cases h

/-! ### Lists -/
def decL {α : Type} (f : AVal → Option α) : List AVal → Option (List α)
  | [] => some []
  | v :: vs => (f v).bind fun x => (decL f vs).map (x :: ·)
def slV {α : Type} (enc : α → AVal) (l : List α) : AVal := .sl .no l.length (l.map enc)
def decSl {α : Type} (f : AVal → Option α) (b : Nat) : AVal → Option (List α)
  | .sl .no n cs => if n = cs.length ∧ n < b then decL f cs else none
  | _ => none
theorem decL_de {α : Type} (E : Enc α) : ∀ l : List α, (∀ x ∈ l, E.ok x) → decL E.dec (l.map E.enc) = some l
  | [], _ => rfl
  | x :: l, h => by simp [decL, E.de x (h x (by simp)), decL_de E l fun y hy => h y (by simp [hy])]
theorem decL_ed {α : Type} (E : Enc α) : ∀ (cs : List AVal) (l : List α), decL E.dec cs = some l → cs = l.map E.enc ∧ ∀ x ∈ l, E.ok x
  | [], l, h => by simp only [decL, Option.some.injEq] at h; subst h; simp
  | v :: vs, l, h => by
    simp only [decL, Option.bind_eq_some_iff, Option.map_eq_some_iff] at h
    obtain ⟨x, hx, r, hr, rfl⟩ := h
    obtain ⟨rfl, h1⟩ := E.ed _ _ hx
    obtain ⟨rfl, h2⟩ := decL_ed E vs r hr
    exact ⟨rfl, fun y hy => by rcases List.mem_cons.1 hy with rfl | hy; exact h1; exact h2 y hy⟩
/-- A slice of one-cell elements, shorter than so many. -/
def eSl {α : Type} (E : Enc α) (b : Nat) : Enc (List α) where
  enc := slV E.enc
  dec := decSl E.dec b
  ok l := l.length < b ∧ ∀ x ∈ l, E.ok x
  de l h := by simp [decSl, slV, h.1, decL_de E l h.2]
  ed v l h := by
    unfold decSl at h
    split at h
    · rename_i n cs
      split at h
      · rename_i hc
        obtain ⟨rfl, hb⟩ := hc
        obtain ⟨rfl, h1⟩ := decL_ed E cs l h
        exact ⟨by simp [slV], by simpa using hb, h1⟩
      · cases h
    · cases h

/-! ### Sets by their bits -/
def mk (p : Nat → Bool) : Nat → Nat
  | 0 => 0
  | n + 1 => if p n then mk p n ||| 2 ^ n else mk p n
theorem mk_bit (p : Nat → Bool) (n i : Nat) : (mk p n).testBit i = (decide (i < n) && p i) := by
  induction n with
  | zero => simp [mk]
  | succ n ih =>
    simp only [mk]
    by_cases h : n = i
    · subst h
      cases hp : p n <;> simp [hp, Nat.testBit_or, ih, Nat.testBit_two_pow]
    · have e : (i < n + 1) = (i < n) := by apply propext; omega
      cases hp : p n <;> simp [Nat.testBit_or, ih, Nat.testBit_two_pow, h, e]
theorem mk_lt (p : Nat → Bool) (n : Nat) : mk p n < 2 ^ n := by
  induction n with
  | zero => simp [mk]
  | succ n ih =>
    have h1 : 2 ^ n < 2 ^ (n + 1) := Nat.pow_lt_pow_right (by decide) (by omega)
    simp only [mk]
    split
    · exact Nat.or_lt_two_pow (by omega) h1
    · omega
theorem mk_lt256 (p : Nat → Bool) (n : Nat) (h : n ≤ 256) : mk p n < 2 ^ 256 := Nat.lt_of_lt_of_le (mk_lt p n) (Nat.pow_le_pow_right (by decide) h)
theorem set_ext {A B : Nat} (ha : A < 2 ^ 256) (hb : B < 2 ^ 256) (h : ∀ i, i < 256 → A.testBit i = B.testBit i) : A = B := by
  apply Nat.eq_of_testBit_eq
  intro n
  by_cases hn : n < 256
  · exact h n hn
  · rw [Nat.testBit_lt_two_pow (Nat.lt_of_lt_of_le ha (Nat.pow_le_pow_right (by decide) (by omega))), Nat.testBit_lt_two_pow (Nat.lt_of_lt_of_le hb (Nat.pow_le_pow_right (by decide) (by omega)))]

end Go.Hk
namespace Go.Hk

/-! ### Appending one element -/
theorem okR_nx {T : List (Nat × (Nat × Nat))} {r : Rt} {a b : Nat} {sz : Nat × Nat} (h : okR T r a sz = true) : okR (nxT T r b sz) (nxR T r) b sz = true := by
  cases r with
  | no => simp [okR] at h
  | full => simp [nxT, nxR, okR]
  | nil => simp [nxT, nxR, okR]
  | tok t =>
    simp only [okR, beq_iff_eq] at h
    have := (List.getElem?_eq_some_iff.1 h).1
    simp [nxT, nxR, okR, this]
theorem app_one {P : Program} {t t2 : TypeId} {e by_ : Nat} (hA : appT P t t2 = some ⟨e, 1, by_⟩) (hby : by_ ≤ 64) {H : List ABlk} {T : List (Nat × (Nat × Nat))} {r r' : Rt} {n : Nat} {cs : List AVal} {d : AVal}
    (hr : okR T r cs.length (1, e) = true) (h : cs.length = n) (hn : n < 1000000000) : aappend P t t2 ⟨H, T⟩ (.sl r n cs) (.sl r' 1 [d]) = some (.sl (nxR T r) (n + 1) (cs ++ [d]), ⟨H, nxT T r (n + 1) (1, e)⟩) := by
  subst h
  have h1 : (cs.length + 1) * by_ ≤ 140737488355328 := Nat.le_trans (Nat.mul_le_mul (show cs.length + 1 ≤ 1000000001 by omega) hby) (by omega)
  simp only [aappend, hA, alist]
  rw [if_pos ⟨by simp, by simp, h1, by omega, hr, fun _ => .inr (by omega)⟩]
  simp

/-! ### Words and bits -/
theorem wd_ext {R k w : Nat} (h : ∀ j, j < 64 → R.testBit (64 * k + j) = w.testBit j) (hw : w < 18446744073709551616) : wd R k = w := by
  apply Nat.eq_of_testBit_eq
  intro n
  by_cases hn : n < 64
  · rw [wd_bit, h n hn]; simp [hn]
  · rw [wd_bit, Nat.testBit_lt_two_pow (i := n) (Nat.lt_of_lt_of_le hw (by rw [show (18446744073709551616 : Nat) = 2 ^ 64 by rfl]; exact Nat.pow_le_pow_right (by decide) (by omega)))]
    simp [hn]
theorem ones_bit (j : Nat) : (18446744073709551615 : Nat).testBit j = decide (j < 64) := Nat.testBit_two_pow_sub_one 64 j
def notN (A : Nat) : Nat := mk (fun i => !A.testBit i) 256
theorem wd_orN (A B k : Nat) : wd (A ||| B) k = wd A k ||| wd B k :=
  wd_ext (fun j hj => by simp [Nat.testBit_or, wd_bit, hj]) (Nat.or_lt_two_pow (n := 64) (wd_lt A k) (wd_lt B k))
theorem wd_andN (A B k : Nat) : wd (A &&& B) k = wd A k &&& wd B k :=
  wd_ext (fun j hj => by simp [Nat.testBit_and, wd_bit, hj]) (Nat.and_lt_two_pow (n := 64) _ (wd_lt B k))
theorem wd_notN (A k : Nat) (h : k < 4) : wd (notN A) k = 18446744073709551615 ^^^ wd A k :=
  wd_ext (fun j hj => by
    have h2 : 64 * k + j < 256 := by omega
    rw [Nat.testBit_xor, ones_bit, wd_bit, notN, mk_bit]; simp [hj, h2]) (Nat.xor_lt_two_pow (n := 64) (by decide) (wd_lt A k))
theorem mk_none {p : Nat → Bool} : ∀ {n : Nat}, (∀ i, i < n → p i = false) → mk p n = 0
  | 0, _ => rfl
  | n + 1, h => by simp [mk, h n (by omega), mk_none (n := n) fun i hi => h i (by omega)]
theorem mk_step {p : Nat → Bool} {n : Nat} : mk p (n + 1) = if p n then mk p n ||| 2 ^ n else mk p n := rfl
theorem notN_lt (A : Nat) : notN A < 2 ^ 256 := mk_lt _ _

/-! ### Letters -/
def oth (b : Nat) : Nat := if 97 ≤ b ∧ b ≤ 122 then b - 32 else if 65 ≤ b ∧ b ≤ 90 then b + 32 else b
theorem oth_oth (b : Nat) : oth (oth b) = b := by unfold oth; (repeat' split) <;> omega
theorem oth_lt {b : Nat} (h : b < 256) : oth b < 256 := by unfold oth; split <;> (try split) <;> omega
def foldN (A : Nat) : Nat := mk (fun b => A.testBit b || A.testBit (oth b)) 256
theorem foldN_lt (A : Nat) : foldN A < 2 ^ 256 := mk_lt _ _
def facc (A : Nat) : Nat → Nat
  | 0 => A
  | n + 1 => if A.testBit n then facc A n ||| 2 ^ oth n else facc A n
theorem facc_bit (A n b : Nat) : (facc A n).testBit b = (A.testBit b || (decide (oth b < n) && A.testBit (oth b))) := by
  induction n with
  | zero => simp [facc]
  | succ n ih =>
    simp only [facc]
    by_cases h : oth b = n
    · have hb : oth n = b := by rw [← h, oth_oth]
      cases hA : A.testBit n <;> simp [Nat.testBit_or, ih, Nat.testBit_two_pow, h, hb, hA]
    · have hb : ¬ oth n = b := fun he => h (by rw [← he, oth_oth])
      have e : (oth b < n + 1) = (oth b < n) := by apply propext; omega
      cases hA : A.testBit n <;> simp [Nat.testBit_or, ih, Nat.testBit_two_pow, hb, e]
theorem facc_lt {A : Nat} (h : A < 2 ^ 256) : ∀ n, n ≤ 256 → facc A n < 2 ^ 256
  | 0, _ => h
  | n + 1, hn => by
    simp only [facc]
    split
    · exact or_lt (facc_lt h n (by omega)) (oth_lt (by omega))
    · exact facc_lt h n (by omega)
theorem facc_all {A : Nat} (h : A < 2 ^ 256) : facc A 256 = foldN A := by
  refine set_ext (facc_lt h 256 (by omega)) (foldN_lt A) fun i hi => ?_
  rw [facc_bit, foldN, mk_bit]
  simp [hi, oth_lt hi]

/-! ### Lists of what is in a set -/
def lst (A : Nat) : Nat → List Int
  | 0 => []
  | n + 1 => if A.testBit n then lst A n ++ [(n : Int)] else lst A n
theorem lst_len (A n : Nat) : (lst A n).length ≤ n := by
  induction n with
  | zero => simp [lst]
  | succ n ih => simp only [lst]; split <;> (try simp) <;> omega
theorem lst_mem (A n : Nat) : ∀ x ∈ lst A n, 0 ≤ x ∧ x < n := by
  induction n with
  | zero => simp [lst]
  | succ n ih =>
    intro x hx
    have hx : x ∈ if A.testBit n then lst A n ++ [(n : Int)] else lst A n := hx
    split at hx
    · rcases List.mem_append.1 hx with h | h
      · have := ih x h; omega
      · simp at h; omega
    · have := ih x hx; omega
end Go.Hk
namespace Go.Hk
/-! ### Both cases of all letters, word by word -/
theorem all_bit : ∀ j, j < 64 → (134217726 : Nat).testBit j = (decide (1 ≤ j) && decide (j ≤ 26)) := by decide +kernel
theorem and_all (w : Nat) (h : w < 18446744073709551616) : bits .and .u64 (w : Int) 134217726 = ((w &&& 134217726 : Nat) : Int) := bits_and_u64_nat w 134217726 h (by decide)
theorem fold_word {w : Nat} (h : w < 18446744073709551616) : bits .or .u64 (w : Int) (bits .or .u64 (IntKind.u64.wrap (bits .and .u64 (w : Int) 134217726 * 2 ^ 32)) (bits .and .u64 ((w / 2 ^ 32 : Nat) : Int) 134217726)) =
    ((w ||| ((w &&& 134217726) * 2 ^ 32 ||| (w / 2 ^ 32 &&& 134217726)) : Nat) : Int) := by
  have h1 : w &&& 134217726 ≤ 134217726 := Nat.and_le_right
  have h2 : w / 2 ^ 32 &&& 134217726 ≤ 134217726 := Nat.and_le_right
  have h3 : w / 2 ^ 32 < 18446744073709551616 := by omega
  have h4 : (w &&& 134217726) * 2 ^ 32 < 2 ^ 64 := by omega
  rw [and_all w h, and_all _ h3, IntKind.wrap_u64]
  have h5 : ((w &&& 134217726 : Nat) : Int) * 2 ^ 32 % 18446744073709551616 = (((w &&& 134217726) * 2 ^ 32 : Nat) : Int) := by omega
  have h6 : (w &&& 134217726) * 2 ^ 32 ||| (w / 2 ^ 32 &&& 134217726) < 2 ^ 64 := Nat.or_lt_two_pow h4 (by omega)
  rw [h5, bits_or_u64_nat _ _ (by omega) (by omega), bits_or_u64_nat _ _ h (by omega)]
theorem fold_bits (A j : Nat) (hj : j < 64) : (foldN A).testBit (64 * 1 + j) = (wd A 1 ||| ((wd A 1 &&& 134217726) * 2 ^ 32 ||| (wd A 1 / 2 ^ 32 &&& 134217726))).testBit j := by
  have h256 : 64 + j < 256 := by omega
  rw [foldN, mk_bit, Nat.testBit_or, Nat.testBit_or, Nat.testBit_mul_two_pow, Nat.testBit_and, Nat.testBit_and, Nat.testBit_div_two_pow, wd_bit, wd_bit, wd_bit, all_bit j hj, all_bit (j - 32) (by omega)]
  simp only [hj, decide_true, Bool.true_and, Nat.mul_one, h256]
  by_cases h1 : 33 ≤ j ∧ j ≤ 58
  · have ho : oth (64 + j) = 64 + (j - 32) := by unfold oth; (repeat' split) <;> omega
    have e1 : decide (32 ≤ j) = true := by simp; omega
    have e2 : decide (1 ≤ j - 32) = true := by simp; omega
    have e3 : decide (j - 32 ≤ 26) = true := by simp; omega
    have e4 : decide (j ≤ 26) = false := by simp; omega
    have e5 : decide (j - 32 < 64) = true := by simp; omega
    rw [ho, e1, e2, e3, e4, e5]
    simp
  · by_cases h2 : 1 ≤ j ∧ j ≤ 26
    · have ho : oth (64 + j) = 64 + (j + 32) := by unfold oth; (repeat' split) <;> omega
      have e1 : decide (32 ≤ j) = false := by simp; omega
      have e2 : decide (1 ≤ j) = true := by simp; omega
      have e3 : decide (j ≤ 26) = true := by simp; omega
      have e4 : decide (j + 32 < 64) = true := by simp; omega
      simp [ho, e1, e2, e3, e4]
    · have ho : oth (64 + j) = 64 + j := by unfold oth; (repeat' split) <;> omega
      have e1 : (decide (32 ≤ j) && (decide (j - 32 < 64) && A.testBit (64 + (j - 32)) && (decide (1 ≤ j - 32) && decide (j - 32 ≤ 26)))) = false := by
        simp only [Bool.and_eq_false_iff, decide_eq_false_iff_not]
        omega
      have e2 : (decide (1 ≤ j) && decide (j ≤ 26)) = false := by
        simp only [Bool.and_eq_false_iff, decide_eq_false_iff_not]
        omega
      rw [ho, e1, e2]
      simp
theorem fold_rest (A k : Nat) (hk : k < 4) (h1 : k ≠ 1) : wd (foldN A) k = wd A k :=
  wd_ext (fun j hj => by
    have h256 : 64 * k + j < 256 := by omega
    have ho : oth (64 * k + j) = 64 * k + j := by unfold oth; (repeat' split) <;> omega
    rw [foldN, mk_bit, ho, wd_bit]
    simp [h256, hj]) (wd_lt A k)
theorem fold_set (A : Nat) : (setL A).set 1 (.int .u64 (bits .or .u64 (wd A 1 : Nat) (bits .or .u64 (IntKind.u64.wrap (bits .and .u64 (wd A 1 : Nat) 134217726 * 2 ^ 32)) (bits .and .u64 ((wd A 1 / 2 ^ 32 : Nat) : Int) 134217726)))) = setL (foldN A) := by
  have hl := wd_lt A 1
  rw [fold_word hl]
  have hb : wd A 1 ||| ((wd A 1 &&& 134217726) * 2 ^ 32 ||| (wd A 1 / 2 ^ 32 &&& 134217726)) < 2 ^ 64 := by
    have h1 : wd A 1 &&& 134217726 ≤ 134217726 := Nat.and_le_right
    have h2 : wd A 1 / 2 ^ 32 &&& 134217726 ≤ 134217726 := Nat.and_le_right
    exact Nat.or_lt_two_pow (by omega) (Nat.or_lt_two_pow (by omega) (by omega))
  have hw := wd_ext (R := foldN A) (k := 1) (fun j hj => fold_bits A j hj) hb
  simp only [setL, fold_rest A 0 (by omega) (by omega), fold_rest A 2 (by omega) (by omega), fold_rest A 3 (by omega) (by omega), hw]
  rfl
end Go.Hk
namespace Go.Hk
/-! ### What may be written, read at the end -/
theorem view_msl_eq {m : AMem} {k b e o n l : Nat} : view (k + 1) m (.msl b e o n l) = (match m.H[b]? with
    | some (.cells e' cs) => if e = e' ∧ o + l ≤ cs.length then (match optMap (view k m) ((cs.drop o).take l) with | some ds => some (.sl .no n ds) | none => none) else none
    | _ => none) := by simp only [view, strip]; rfl
theorem optMap_strip {f : AVal → Option AVal} : ∀ (cs ds : List AVal), stripL cs = some ds → (∀ v u, strip v = some u → f v = some u) → optMap f cs = some ds
  | [], ds, h, _ => by simpa [optMap, stripL] using h
  | v :: cs, ds, h, hf => by
    simp only [stripL] at h
    split at h
    · rename_i x y hx hy
      cases h
      simp only [optMap, hf _ _ hx, optMap_strip cs y hy hf]
    · cases h
theorem view_msl {m : AMem} {b e n l : Nat} {cs ds : List AVal} (hb : m.H[b]? = some (.cells e cs)) (hl : l = cs.length) (hs : stripL cs = some ds) : viewO none m (.msl b e 0 n l) = some (.sl .no n ds) := by
  subst hl
  have h := optMap_strip (f := view 7 m) cs ds hs fun v u h => v_strip h
  show view (7 + 1) m (.msl b e 0 n cs.length) = _
  rw [view_msl_eq, hb]
  simp [h]
end Go.Hk
