/- Layer 3, the plain law: the text of a pattern. -/
import Derived.Test.YtbnhflckmfmkoaaDoorHkJoin
set_option linter.unusedSimpArgs false
set_option linter.unusedVariables false
namespace Go.Hk
def plain (n : Int) : Bool := decide (97 ≤ n) && decide (n ≤ 122) || decide (65 ≤ n) && decide (n ≤ 90) || decide (48 ≤ n) && decide (n ≤ 57)
def hexs : List UInt8 := [48, 49, 50, 51, 52, 53, 54, 55, 56, 57, 97, 98, 99, 100, 101, 102]
def hexd (k : Nat) : UInt8 := hexs.getD k 0
theorem hexs_at {k : Nat} (h : k < 16) : ([48, 49, 50, 51, 52, 53, 54, 55, 56, 57, 97, 98, 99, 100, 101, 102] : List UInt8)[k]? = some (hexd k) := by
  have hl : k < hexs.length := h
  show hexs[k]? = _
  rw [hexd, List.getD_eq_getElem?_getD, List.getElem?_eq_getElem hl]; rfl
def charT (n : Nat) : List UInt8 := if plain n then [UInt8.ofNat n] else [92, 120, hexd (n / 16), hexd (n % 16)]
theorem and15 {n : Nat} (h : n < 256) : bits .and .u8 ((n : Nat) : Int) 15 = ((n % 16 : Nat) : Int) := by
  have : ∀ k : Fin 256, bits .and .u8 ((k.val : Nat) : Int) 15 = ((k.val % 16 : Nat) : Int) := by decide +kernel
  exact this ⟨n, h⟩
end Go.Hk
namespace Go.Hk
/-! ### Texts of sets -/
def charI (n : Int) : List UInt8 := charT n.toNat
def runT (r : Int × Int) : List UInt8 := if r.1 < r.2 then charI r.1 ++ ([45] ++ charI r.2) else charI r.1
def rT : List (Int × Int) → List UInt8
  | [] => []
  | r :: l => runT r ++ rT l
theorem rT_app : ∀ l r, rT (l ++ r) = rT l ++ rT r
  | [], r => rfl
  | x :: l, r => by simp only [List.cons_append, rT, rT_app l r, List.append_assoc]
theorem rT_next {l : List (Int × Int)} {i : Nat} {r : Int × Int} (h : l[i]? = some r) : rT (l.take (i + 1)) = rT (l.take i) ++ runT r := by
  obtain ⟨hi, rfl⟩ := List.getElem?_eq_some_iff.1 h
  rw [List.take_succ_eq_append_getElem hi, rT_app]
  simp [rT]
theorem charT_len (n : Nat) : 0 < (charT n).length ∧ (charT n).length ≤ 4 := by unfold charT; split <;> simp
theorem charI_len (n : Int) : 0 < (charI n).length ∧ (charI n).length ≤ 4 := charT_len _
theorem runT_len (r : Int × Int) : (runT r).length ≤ 9 := by
  have h1 := charI_len r.1
  have h2 := charI_len r.2
  unfold runT
  split
  · simp only [List.length_append, List.length_cons, List.length_nil]; omega
  · omega
theorem rT_len : ∀ l, (rT l).length ≤ 9 * l.length
  | [] => by simp [rT]
  | r :: l => by
    have h1 := runT_len r
    have h2 := rT_len l
    simp only [rT, List.length_append, List.length_cons]; omega
theorem rT_take_len {A i : Nat} : (rT ((runsN A 256).take i)).length ≤ 2304 := by
  have h1 := rT_len ((runsN A 256).take i)
  have h2 := runsN_len A 256
  rw [List.length_take] at h1
  omega
/-- A set's text. -/
def btext (A : Nat) : List UInt8 := if (runsN A 256).length = 1 ∧ ((runsN A 256).getD 0 (0, 0)).1 = ((runsN A 256).getD 0 (0, 0)).2 then charI ((runsN A 256).getD 0 (0, 0)).1 else [91] ++ rT (runsN A 256) ++ [93]
theorem btext_len (A : Nat) : 0 < (btext A).length ∧ (btext A).length ≤ 2306 := by
  unfold btext
  split
  · have := charI_len ((runsN A 256).getD 0 (0, 0)).1; omega
  · have := rT_take_len (A := A) (i := 256)
    rw [List.take_of_length_le (runsN_len A 256)] at this
    simp only [List.length_append, List.length_cons, List.length_nil]; omega
/-! ### Texts of numbers -/
def itoa (n : Int) : List UInt8 := if n < 10 then [UInt8.ofNat (48 + n.toNat)] else [UInt8.ofNat (48 + n.toNat / 10), UInt8.ofNat (48 + n.toNat % 10)]
end Go.Hk
namespace Go.Hk
theorem itoa_len {n : Int} : 0 < (itoa n).length ∧ (itoa n).length ≤ 2 := by unfold itoa; split <;> simp
/-! ### Texts of patterns -/
def par (b : Bool) (t : List UInt8) : List UInt8 := if b then [40] ++ t ++ [41] else t
def pk (k j : Int) : Bool := if k = 5 then decide (3 ≤ j) else if k = 3 then decide (j = 4) else false
def tail5 (lo hi : Int) : List UInt8 := [123] ++ itoa lo ++ [44] ++ (if 0 ≤ hi then itoa hi else []) ++ [125]
def sepK (k : Int) : List UInt8 := if k = 4 then [124] else []
mutual
def text : Rx → List UInt8
  | .mk k s lo hi l => if k = 2 then btext s else if k = 5 then joinS [] (texts k l) ++ tail5 lo hi else if k = 3 ∨ k = 4 then joinS (sepK k) (texts k l) else [40, 41]
def texts : Int → List Rx → List (List UInt8)
  | _, [] => []
  | k, y :: l => par (pk k y.k) (text y) :: texts k l
end
def kidT (k : Int) (y : Rx) : List UInt8 := par (pk k y.k) (text y)
theorem texts_map (k : Int) : ∀ l, texts k l = l.map (kidT k)
  | [] => by rw [texts]; rfl
  | y :: l => by rw [texts, texts_map k l]; rfl
theorem text_eq (x : Rx) : text x = if x.k = 2 then btext x.s else if x.k = 5 then joinS [] (x.l.map (kidT x.k)) ++ tail5 x.lo x.hi else if x.k = 3 ∨ x.k = 4 then joinS (sepK x.k) (x.l.map (kidT x.k)) else [40, 41] := by
  cases x; rw [text, texts_map]; rfl
theorem par_pos {b : Bool} {t : List UInt8} (h : 0 < t.length) : 0 < (par b t).length := by
  unfold par; split
  · simp
  · exact h
theorem par_len {b : Bool} {t : List UInt8} : t.length ≤ (par b t).length ∧ (par b t).length ≤ t.length + 2 := by
  unfold par; split
  · simp only [List.length_append, List.length_cons, List.length_nil]; omega
  · omega
theorem text_pos (x : Rx) (hr : inR x) : 0 < (text x).length := by
  induction x using Rx.ind with
  | h x ih =>
    rw [text_eq]
    split
    · exact (btext_len _).1
    · split
      · simp only [tail5, List.length_append, List.length_cons, List.length_nil]; omega
      · split
        · rename_i h34
          rcases hr.cases with h | h | h | h
          · omega
          · omega
          · obtain ⟨_, _, hl⟩ := h
            match hx : x.l, hl with
            | y :: l, _ =>
              have := ih y (by rw [hx]; simp) (hr.kid (by rw [hx]; simp))
              simp only [List.map_cons, joinS, List.length_append]
              have := par_pos (b := pk x.k y.k) this
              simp only [kidT]; omega
          · omega
        · simp
theorem joinS_mem {sep : List UInt8} : ∀ {l : List (List UInt8)} {t : List UInt8}, t ∈ l → t.length ≤ (joinS sep l).length
  | x :: l, t, h => by
    have hss : ∀ {l : List (List UInt8)}, t ∈ l → t.length ≤ ssum l := by
      intro l
      induction l with
      | nil => intro h; cases h
      | cons y l ih =>
        intro h
        rw [ssum]
        rcases List.mem_cons.1 h with rfl | h
        · omega
        · have := ih h; omega
    rw [joinS, List.length_append, jt_len]
    rcases List.mem_cons.1 h with rfl | h
    · omega
    · have := hss h; omega
/-- A part's text is no longer. -/
theorem text_kid {x y : Rx} (hr : inR x) (hy : y ∈ x.l) : (text y).length ≤ (text x).length := by
  have h1 := (par_len (b := pk x.k y.k) (t := text y)).1
  have hm : kidT x.k y ∈ x.l.map (kidT x.k) := List.mem_map_of_mem hy
  rw [text_eq x]
  rcases hr.cases with h | h | h | h
  · rw [h.2] at hy; cases hy
  · rw [h.2.2] at hy; cases hy
  · rw [if_neg (by omega), if_neg (by omega), if_pos h.1]
    have := joinS_mem (sep := sepK x.k) hm
    simp only [kidT] at this; omega
  · rw [if_neg (by omega), if_pos h.1, List.length_append]
    have := joinS_mem (sep := []) hm
    simp only [kidT] at this; omega
/-- Patterns in one, and how long its text is. -/
theorem nodes_fold (l : List Rx) (f : Rx → Nat) (hf : ∀ y ∈ l, ∀ m : Int, 0 ≤ m → 0 ≤ nodes y m → (f y : Int) ≤ m - nodes y m) : ∀ m : Int, 0 ≤ l.foldl nstep m → ((l.map f).sum : Int) ≤ m - l.foldl nstep m := by
  induction l with
  | nil => intro m _; simp
  | cons y l ih =>
    intro m hm
    rw [List.foldl_cons] at hm ⊢
    have hneg : ∀ (l : List Rx) (m : Int), m < 0 → l.foldl nstep m = m := by
      intro l
      induction l with
      | nil => intro m _; rfl
      | cons z l ih => intro m hm; rw [List.foldl_cons, nstep, if_neg (by omega)]; exact ih m hm
    by_cases h0 : 0 ≤ m
    · rw [nstep, if_pos h0] at hm ⊢
      by_cases h1 : 0 ≤ nodes y m
      · have a := hf y (by simp) m h0 h1
        have b := ih (fun z hz => hf z (by simp [hz])) (nodes y m) hm
        simp only [List.map_cons, List.sum_cons]
        omega
      · rw [hneg _ _ (by omega)] at hm; omega
    · rw [nstep, if_neg h0, hneg _ _ (by omega)] at hm; omega
theorem sz_nodes (x : Rx) : ∀ m : Int, 0 ≤ m → 0 ≤ nodes x m → (sz x : Int) ≤ m - nodes x m := by
  induction x using Rx.ind with
  | h x ih =>
    intro m hm h
    rw [nodes_eq] at h ⊢
    have := nodes_fold x.l sz (fun y hy m h0 h1 => ih y hy m h0 h1) (m - 1) h
    have e : ∀ l, szs l = (l.map sz).sum := by
      intro l
      induction l with
      | nil => rfl
      | cons y l ih => rw [szs, ih]; simp
    rw [sz_eq, e]
    omega
theorem jt_bd {sep : List UInt8} (hs : sep.length ≤ 1) (k : Int) : ∀ l : List Rx, (∀ y ∈ l, (text y).length + 10 ≤ 2400 * sz y) → (jt sep (l.map (kidT k))).length + 7 * l.length ≤ 2400 * szs l
  | [], _ => by simp [jt, szs]
  | y :: l, h => by
    have h1 := jt_bd hs k l fun z hz => h z (by simp [hz])
    have h2 := h y (by simp)
    have h3 := (par_len (b := pk k y.k) (t := text y)).2
    simp only [List.map_cons, jt, List.length_append, szs, List.length_cons, kidT, Nat.mul_add] at h1 ⊢
    omega
theorem join_bd {sep : List UInt8} (hs : sep.length ≤ 1) (k : Int) (l : List Rx) (h : ∀ y ∈ l, (text y).length + 10 ≤ 2400 * sz y) : (joinS sep (l.map (kidT k))).length ≤ 2400 * szs l := by
  cases l with
  | nil => simp [joinS]
  | cons y l =>
    have h1 := jt_bd hs k (y :: l) h
    simp only [List.map_cons, jt, joinS, List.length_append] at h1 ⊢
    omega
theorem text_bd (x : Rx) : (text x).length + 10 ≤ 2400 * sz x := by
  induction x using Rx.ind with
  | h x ih =>
    rw [text_eq, sz_eq, Nat.mul_add, Nat.mul_one]
    split
    · have := (btext_len x.s).2; omega
    · split
      · have h1 := join_bd (sep := []) (by simp) x.k x.l ih
        have h2 := (@itoa_len x.lo).2
        have h3 := (@itoa_len x.hi).2
        have h4 : (if 0 ≤ x.hi then itoa x.hi else []).length ≤ 2 := by
          split
          · exact h3
          · simp
        simp only [tail5, List.length_append, List.length_cons, List.length_nil]
        omega
      · split
        · have h1 := join_bd (sep := sepK x.k) (by unfold sepK; split <;> simp) x.k x.l ih
          omega
        · simp only [List.length_cons, List.length_nil]; omega
theorem text_short {x : Rx} (h : rightT x = true) : (text x).length < 2400000 := by
  unfold rightT at h
  simp only [Bool.and_eq_true, decide_eq_true_eq] at h
  have h1 := text_bd x
  have h2 := sz_nodes x 1000 (by omega) h.2
  omega
theorem rightT_in {x : Rx} (h : rightT x = true) : inR x := by
  unfold rightT at h
  simp only [Bool.and_eq_true] at h
  exact ⟨20, h.1.1⟩
end Go.Hk
namespace Go.Hk
theorem len_szs : ∀ l : List Rx, l.length ≤ szs l
  | [] => Nat.le_refl _
  | x :: l => by have := len_szs l; rw [szs, sz_eq, List.length_cons]; omega
theorem okB.small {N M : Nat} {x : Rx} (h : okB N x) : sz x < M → okB M x := by
  induction h with
  | @mk k s lo hi l hk hs hlo hhi hl h ih =>
    intro hm
    rw [sz] at hm
    refine .mk hk hs hlo hhi (by have := len_szs l; omega) fun y hy => ih y hy ?_
    have := szs_mem hy
    omega
/-- Few patterns have short lists. -/
theorem okW.few {x : Rx} (h : okW x) {m : Int} (hm : 0 ≤ m ∧ m < 1000000) (hn : 0 ≤ nodes x m) : okX x := by
  have := sz_nodes x m hm.1 hn
  exact h.small (by omega)
/-- A pattern of one byte. -/
def chX (b : Int) : Rx := .mk 2 (ofN b b) 0 0 []
theorem chX_ok (b : Int) : okX (chX b) := .mk (by omega) (ofN_lt _ _) (by omega) (by omega) (by simp) (fun y hy => by cases hy)
def awX : Rx := .mk 3 0 0 0 [chX 97, .mk 5 0 0 (-1) [.mk 2 (ofN 98 99) 0 0 []]]
theorem awX_ok : okX awX := .mk (by omega) (by omega) (by omega) (by omega) (by simp) (fun y hy => by
  rcases List.mem_cons.1 hy with rfl | hy
  · exact chX_ok _
  · rcases List.mem_cons.1 hy with rfl | hy
    · exact .mk (by omega) (by omega) (by omega) (by omega) (by simp) (fun y hy => by
        rcases List.mem_cons.1 hy with rfl | hy
        · exact .mk (by omega) (ofN_lt _ _) (by omega) (by omega) (by simp) (fun y hy => by cases hy)
        · cases hy)
    · cases hy)
def noX : Rx := .mk 0 0 0 0 []
theorem noX_ok : okX noX := .mk (by omega) (by omega) (by omega) (by omega) (by simp) (fun y hy => by cases hy)
theorem awX_text : text awX = [97, 91, 98, 45, 99, 93, 123, 48, 44, 125] := by decide +kernel
theorem awX_right : rightT awX = true := by decide +kernel
theorem noX_right : rightT noX = false := by decide +kernel
theorem awX_size : size awX = 2 := by decide +kernel
theorem awX_null : null awX = false := by decide +kernel
theorem awX_same : same awX awX = true := by decide +kernel
theorem awX_char : same awX (chX 97) = false := by decide +kernel
def awK : Rx := .mk 5 0 0 (-1) [.mk 2 (ofN 98 99) 0 0 []]
theorem awK_null : null awK = true := by decide +kernel
theorem awK_ok : okX awK := awX_ok.mem (by rw [awX, Rx.l]; simp [awK])
end Go.Hk
