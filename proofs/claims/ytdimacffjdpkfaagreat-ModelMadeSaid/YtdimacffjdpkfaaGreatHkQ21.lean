import Derived.Test.YtdimacffjdpkfaaGreatHkQ18
import Derived.Test.YtdimacffjdpkfaaGreatHkQ20
import Derived.Test.YtdimacffjdpkfaaGreatHkQ17
set_option linter.unusedSimpArgs false
set_option linter.unusedVariables false
namespace Go.Hk
def isSeqs : Nat → Code → Bool
  | 0, _ => true
  | k + 1, .seq _ b => isSeqs k b
  | _ + 1, _ => false
def preC : Nat → Code → Code
  | 0, _ => .skip
  | k + 1, .seq a b => .seq a (preC k b)
  | _ + 1, c => c
def postC : Nat → Code → Code
  | 0, c => c
  | k + 1, .seq _ b => postC k b
  | _ + 1, c => c
def cutQ (k : St → Prop) (Q : Exit → St → Prop) : Exit → St → Prop := fun e s => match e with | .normal => k s | e => Q e s
section
variable {P : Program} {Γ : Gam} {mu : Bool} {n hk tk : Nat}
theorem AWp.cut (hΓ : Sound P Γ) (hm : P.follows .mixedOrders = true) : ∀ (k : Nat) (c : Code) (Q : Exit → St → Prop) (s : St), isSeqs k c = true → codeOKx Γ mu n (preC k c) = true → W P Γ mu hk tk (preC k c) (cutQ (AWp P n hk tk (postC k c) Q) Q) s → AWp P n hk tk c Q s
  | 0, c, Q, s, _, _, h => by
    obtain ⟨h⟩ := h
    exact h
  | k + 1, .seq a b, Q, s, hs, hok, h => by
    simp only [preC, codeOKx, Bool.and_eq_true] at hok
    refine AWp.seq (AWp.mono (AWp.w (mu := mu) hΓ hm a (seqQ (W P Γ mu hk tk (preC k b) (cutQ (AWp P n hk tk (postC k b) Q) Q)) (cutQ (AWp P n hk tk (postC k b) Q) Q)) s hok.1 ?_) fun e s' hq => ?_)
    · obtain ⟨e, m⟩ := s
      simp only [preC, e_w_seq] at h
      exact h
    · cases e
      case normal => exact AWp.cut hΓ hm k b Q s' hs hok.2 hq
      all_goals exact hq
def dropOK (s : St) (e' : List (Nat × AVal)) : Prop := ∀ p ∈ e', view 8 s.m (lk s.env p.1) = some p.2
theorem lk_mem : ∀ {l : List (Nat × AVal)} {t : Nat}, lk l t = .dead ∨ (t, lk l t) ∈ l
  | [], t => .inl rfl
  | (k, v) :: l, t => by
    simp only [lk]
    split
    · rename_i h; subst h; exact .inr (by simp)
    · rcases lk_mem (l := l) (t := t) with h | h
      · exact .inl h
      · exact .inr (by simp [h])
theorem ext_drop0 {γ : Ghost} : ExtN 0 0 γ γ.drop where
  bad := rfl
  lo := rfl
  size := Nat.le_refl _
  os := rfl
  tape := rfl
  output := rfl
  cell := fun _ _ _ h => drop_cell h
  blk := fun b _ _ _ h => absurd h (Nat.not_lt_zero b)
  tip := fun t _ _ _ h => absurd h (Nat.not_lt_zero t)
  own := fun _ _ _ h => h
  frame := fun _ _ _ => .inl rfl
  owns := fun k h => by
    rcases h with ⟨b, hb⟩ | ⟨t, ht⟩
    · exact absurd hb drop_noblk
    · exact absurd ht drop_notok
theorem AWp.drop {c : Code} {Q : Exit → St → Prop} {s : St} {e' : List (Nat × AVal)} (hd : dropOK s e') (h : AWp P n 0 0 c Q ⟨e', ⟨[], []⟩⟩) : AWp P n 0 0 c Q s := fun ro z γ a hro hh hmk => by
  have hh' : Holds n γ.drop ⟨e', ⟨[], []⟩⟩ a := ⟨rl_drop hh.rl, rfl, fun t => by
    rcases lk_mem (l := e') (t := t) with h | h
    · rw [show lk (St.mk e' ⟨[], []⟩).env t = .dead from h]; exact .dead _
    · exact view_sound hh.rl _ _ _ _ (by rw [hh.m]; exact hd _ h) (hh.er t), hh.size⟩
  exact wpIn_mono (h ro z γ.drop a hro hh' (hmk.ext ext_drop0)) fun _ _ _ k => AQ.trans ext_drop0 k
theorem PCall.of_cut {Γ' : Gam} {mu' : Bool} {f : FuncId} {fn : Func} {c : Code} {args : List AVal} {r : AVal} (k : Nat) (hΓ : Sound P Γ) (hΓ' : Sound P Γ') (hm : P.follows .mixedOrders = true) (hf : P.funcs[f]? = some fn) (hb : fn.body = some c) (hen : enterable P f = true) (hn : args.length ≤ fn.ntmps)
    (hs : isSeqs k c = true) (hok : codeOKx Γ mu fn.ntmps (preC k c) = true) (hok' : codeOKx Γ' mu' fn.ntmps (postC k c) = true)
    (h : ∀ K : St → Prop, (∀ s e', dropOK s e' → W P Γ' mu' 0 0 (postC k c) (FnQ P fn.results.toList fun r0 s => view 8 s.m r0 = some r) ⟨e', ⟨[], []⟩⟩ → K s) → W P Γ mu 0 0 (preC k c) (cutQ K (FnQ P fn.results.toList fun r0 s => view 8 s.m r0 = some r)) ⟨envFrom 0 args, ⟨[], []⟩⟩) : PCall P f args r :=
  PCall.of_body hf hb hen hn (AWp.cut hΓ hm k c _ _ hs hok ((h (fun s => ∃ e', dropOK s e' ∧ W P Γ' mu' 0 0 (postC k c) (FnQ P fn.results.toList fun r0 s => view 8 s.m r0 = some r) ⟨e', ⟨[], []⟩⟩) fun _ e' h1 h2 => ⟨e', h1, h2⟩).mono fun e s hq => by
    cases e
    case normal =>
      obtain ⟨e', h1, h2⟩ := hq
      exact AWp.drop h1 (AWp.w hΓ' hm _ _ _ hok' h2)
    all_goals exact hq))
end
theorem e_cutQ {k : St → Prop} {Q : Exit → St → Prop} {s : St} : cutQ k Q .normal s = k s := rfl
theorem e_cutQ_ret {k : St → Prop} {Q : Exit → St → Prop} {s : St} : cutQ k Q .ret s = Q .ret s := rfl
theorem e_preC {k : Nat} {a b : Code} : preC (k + 1) (.seq a b) = .seq a (preC k b) := rfl
theorem e_postC {k : Nat} {a b : Code} : postC (k + 1) (.seq a b) = postC k b := rfl
attribute [go_sem] e_cutQ e_cutQ_ret
end Go.Hk
namespace Go.Hk
theorem e_preC0 {c : Code} : preC 0 c = .skip := rfl
theorem e_postC0 {c : Code} : postC 0 c = c := rfl
end Go.Hk
namespace Go.Hk
def stK : Rx := .mk 3 0 0 0 [chX 97, chX 98]
theorem stK_ok : okX stK := .mk (by omega) (by omega) (by omega) (by omega) (by simp) (fun y hy => by
  rcases List.mem_cons.1 hy with rfl | hy
  · exact chX_ok _
  · rcases List.mem_cons.1 hy with rfl | hy
    · exact chX_ok _
    · cases hy)
theorem R_chX {t : List UInt8} {b i j : Nat} (hb : b < 256) : R t (chX (b : Int)) i j ↔ i < t.length ∧ (t.getD i 0).toNat = b ∧ j = i + 1 := by
  have hc := (t.getD i 0).toNat_lt
  rw [R_k2 (x := chX (b : Int)) rfl]
  have e : (chX (b : Int)).s = ofN (b : Int) (b : Int) := rfl
  rw [e]
  have : (ofN (b : Int) (b : Int)).testBit (t.getD i 0).toNat = decide ((t.getD i 0).toNat = b) := by
    unfold ofN
    rw [mk_bit]
    simp only [inOf]
    rw [Bool.eq_iff_iff]
    simp only [Bool.and_eq_true, decide_eq_true_eq]
    omega
  rw [this, decide_eq_true_eq]
theorem R_stK {t : List UInt8} {i j : Nat} : R t stK i j ↔ i + 1 < t.length ∧ (t.getD i 0).toNat = 97 ∧ (t.getD (i + 1) 0).toNat = 98 ∧ j = i + 2 := by
  rw [R_k3 (x := stK) rfl]
  have e : stK.l = [chX ((97 : Nat) : Int), chX ((98 : Nat) : Int)] := rfl
  rw [e]
  simp only [Rall, R_chX (show 97 < 256 by decide), R_chX (show 98 < 256 by decide)]
  constructor
  · rintro ⟨k, ⟨h1, h2, rfl⟩, k', ⟨h3, h4, rfl⟩, rfl⟩; exact ⟨h3, h2, h4, rfl⟩
  · rintro ⟨h1, h2, h3, rfl⟩; exact ⟨i + 1, ⟨by omega, h2, rfl⟩, i + 2, ⟨h1, h3, rfl⟩, rfl⟩
theorem cset_of {n : Nat} {S : Nat → Prop} {A : List Nat} (h : ∀ j, j < n → (S j ↔ j ∈ A)) : cset n S = (List.range n).filter fun j => decide (j ∈ A) := by
  unfold cset
  refine List.filter_congr fun j hj => ?_
  simp only [List.mem_range] at hj
  exact decide_eq_decide.2 (h j hj)
def alph : List UInt8 := [97, 97, 98, 98, 99, 99, 45, 90, 10, 48, 0, 255]
def textT (l : List UInt8) : List UInt8 := (l.take 12).map fun b => alph.getD (b.toNat % 12) 0
theorem textT_len (l : List UInt8) : (textT l).length ≤ 12 := by simp [textT]; omega
end Go.Hk
namespace Go.Hk
theorem textT_next {l : List UInt8} {i : Nat} (h : i < l.length) (h2 : i < 12) : textT (l.take (i + 1)) = textT (l.take i) ++ [alph.getD (l[i].toNat % 12) 0] := by
  have e1 : (l.take (i + 1)).take 12 = l.take i ++ [l[i]] := by rw [List.take_of_length_le (by simp; omega), List.take_succ_eq_append_getElem h]
  have e2 : (l.take i).take 12 = l.take i := List.take_of_length_le (by simp; omega)
  unfold textT
  rw [e1, e2, List.map_append]
  rfl
theorem textT_all {l : List UInt8} {i : Nat} (h : l.length ≤ i ∨ 12 ≤ i) : textT (l.take i) = textT l := by
  unfold textT
  rcases h with h | h
  · rw [List.take_of_length_le h]
  · rw [List.take_take, Nat.min_eq_left h]
theorem alph_at : ∀ k, k < 12 → (alph.drop k).take 1 = [alph.getD k 0] := by decide
end Go.Hk
namespace Go.Hk
structure Ru where
  conds : List Int
  all : Bool
  bol : Bool
  rx : Rx
  trail : Rx
  eof : Bool
  act : Int
  to : Int
structure Cd where
  name : List UInt8
  ex : Bool
  deriving DecidableEq
structure Sp where
  conds : List Cd
  deft : Bool
  rules : List Ru
def cCd (c : Cd) : List AVal := [.str c.name, .bool c.ex]
def cRu (r : Ru) : List AVal := .sl .no r.conds.length (fl cI r.conds) :: .bool r.all :: .bool r.bol :: (cR r.rx ++ (cR r.trail ++ [.bool r.eof, .int .i64 r.act, .int .i64 r.to]))
def cSp (s : Sp) : List AVal := [.sl .no s.conds.length (fl cCd s.conds), .bool s.deft, .sl .no s.rules.length (fl cRu s.rules)]
def sV (s : Sp) : AVal := .agg (cSp s)
theorem cCd_len (c : Cd) : (cCd c).length = 2 := rfl
theorem cCd_strip (c : Cd) : stripL (cCd c) = some (cCd c) := rfl
theorem cRu_len (r : Ru) : (cRu r).length = 22 := by simp [cRu, cR_len]
theorem cRu_strip (r : Ru) : stripL (cRu r) = some (cRu r) := by
  have h : stripL (fl cI r.conds) = some (fl cI r.conds) := fl_strip cI_strip _
  have h2 := s_append (cR_strip r.rx) (s_append (cR_strip r.trail) (show stripL [.bool r.eof, .int .i64 r.act, .int .i64 r.to] = some [.bool r.eof, .int .i64 r.act, .int .i64 r.to] from rfl))
  unfold cRu
  simp only [stripL, strip, h, h2]
def letterB (b : UInt8) : Bool := decide (97 ≤ b.toNat) && decide (b.toNat ≤ 122) || decide (65 ≤ b.toNat) && decide (b.toNat ≤ 90) || decide (b.toNat = 95)
def digitB (b : UInt8) : Bool := decide (48 ≤ b.toNat) && decide (b.toNat ≤ 57)
def nameB (s : List UInt8) : Bool := decide (0 < s.length) && decide (s.length ≤ 12) && letterB (s.getD 0 0) && s.all (fun b => letterB b || digitB b)
def nb (b : UInt8) : Bool := letterB b || digitB b
def noneX (x : Rx) : Bool := decide (x.k = 0) && decide (x.s = 0) && decide (x.lo = 0) && decide (x.hi = 0) && decide (x.l.length = 0)
theorem noneX_eq {x : Rx} (h : noneX x = true) : x = .mk 0 0 0 0 [] := by
  simp only [noneX, Bool.and_eq_true, decide_eq_true_eq] at h
  exact Rx.ext' h.1.1.1.1 h.1.1.1.2 h.1.1.2 h.1.2 (List.eq_nil_of_length_eq_zero h.2)
def rise (n : Int) : Int → List Int → Bool
  | _, [] => true
  | a, c :: l => decide (a < c) && decide (c < n) && rise n c l
def holdsB (n : Int) (r : Ru) : Bool := rise n (-1) r.conds && (!r.all || decide (r.conds.length = 0))
def doesB (n : Int) (r : Ru) : Bool := if r.act = 3 then decide (0 ≤ r.to) && decide (r.to < n) else (decide (r.act = 1) || decide (r.act = 2)) && decide (r.to = 0)
def matchB (r : Ru) : Bool := if r.eof then !r.bol && noneX r.rx && noneX r.trail else rightT r.rx && (noneX r.trail || rightT r.trail)
def ruleB (n : Int) (r : Ru) : Bool := holdsB n r && doesB n r && matchB r
def initial : List UInt8 := [73, 78, 73, 84, 73, 65, 76]
def diff : List (List UInt8) → Bool
  | [] => true
  | x :: l => !l.contains x && diff l
def rightS (s : Sp) : Bool := decide (1 ≤ s.conds.length) && decide (s.conds.length ≤ 8) && decide (s.rules.length ≤ 40) && decide ((s.conds.getD 0 ⟨[], false⟩).name = initial) && !(s.conds.getD 0 ⟨[], false⟩).ex &&
  s.conds.all (fun c => nameB c.name) && diff (s.conds.map Cd.name) && s.rules.all (ruleB s.conds.length)
def nameAt (l : List Cd) (c : Int) : List UInt8 := (l.getD c.toNat ⟨[], false⟩).name
theorem rise_bd {n : Int} : ∀ (l : List Int) (a : Int), -1 ≤ a → rise n a l = true → ∀ c ∈ l, 0 ≤ c ∧ c < n
  | [], _, _, _, c, hc => by cases hc
  | x :: l, a, ha, h, c, hc => by
    simp only [rise, Bool.and_eq_true, decide_eq_true_eq] at h
    rcases List.mem_cons.1 hc with rfl | hc
    · omega
    · exact rise_bd l x (by omega) h.2 c hc
end Go.Hk
namespace Go.Hk
def insN (l : List (List UInt8)) (x : List UInt8) : List (List UInt8) := if x ∈ l then l else l ++ [x]
theorem insN_le : ∀ (xs l : List (List UInt8)), (xs.foldl insN l).length ≤ l.length + xs.length
  | [], l => by simp
  | x :: xs, l => by
    have h := insN_le xs (insN l x)
    have h2 : (insN l x).length ≤ l.length + 1 := by unfold insN; split <;> simp
    simp only [List.foldl_cons, List.length_cons]
    omega
theorem insN_all : ∀ (xs l : List (List UInt8)), (xs.foldl insN l).length = l.length + xs.length ↔ diff xs = true ∧ ∀ x ∈ xs, x ∉ l
  | [], l => by simp [diff]
  | x :: xs, l => by
    simp only [List.foldl_cons, List.length_cons, diff, Bool.and_eq_true, Bool.not_eq_true']
    by_cases hx : x ∈ l
    · have e : insN l x = l := if_pos hx
      have h := insN_le xs l
      rw [e]
      constructor
      · intro h'; omega
      · rintro ⟨_, h'⟩; exact absurd hx (h' x (by simp))
    · have e : insN l x = l ++ [x] := if_neg hx
      have h := insN_all xs (l ++ [x])
      rw [e]
      simp only [List.length_append, List.length_cons, List.length_nil] at h
      have e2 : l.length + (xs.length + 1) = l.length + (0 + 1) + xs.length := by omega
      rw [e2, h]
      constructor
      · rintro ⟨h1, h2⟩
        refine ⟨⟨?_, h1⟩, fun y hy hl => ?_⟩
        · rw [Bool.eq_false_iff]
          intro hc
          have hm : x ∈ xs := by simpa using hc
          exact h2 x hm (by simp)
        · rcases List.mem_cons.1 hy with rfl | hy
          · exact hx hl
          · exact h2 y hy (by simp [hl])
      · rintro ⟨⟨h1, h2⟩, h3⟩
        refine ⟨h2, fun y hy hl => ?_⟩
        rcases List.mem_append.1 hl with hl | hl
        · exact h3 y (by simp [hy]) hl
        · have hl := List.mem_singleton.1 hl
          subst hl
          rw [Bool.eq_false_iff] at h1
          exact h1 (by simpa using hy)
theorem insN_diff (xs : List (List UInt8)) : decide ((xs.foldl insN []).length = xs.length) = diff xs := by
  have h := insN_all xs []
  simp only [List.length_nil, Nat.zero_add, List.not_mem_nil, not_false_eq_true, implies_true, and_true] at h
  rw [Bool.eq_iff_iff, decide_eq_true_eq, h]
theorem diff_snoc (x : List UInt8) : ∀ l : List (List UInt8), diff (l ++ [x]) = (diff l && !l.contains x)
  | [] => by simp [diff]
  | y :: l => by
    have h := diff_snoc x l
    simp only [List.cons_append, diff, h, List.contains_cons, Bool.not_or]
    have e : (l ++ [x]).contains y = (l.contains y || (y == x)) := by rw [Bool.eq_iff_iff]; simp
    have s : (y == x) = (x == y) := by rw [Bool.eq_iff_iff, beq_iff_eq, beq_iff_eq]; exact ⟨Eq.symm, Eq.symm⟩
    rw [e, s]
    cases l.contains y <;> cases (x == y) <;> cases diff l <;> cases l.contains x <;> rfl
theorem diff_take {l : List (List UInt8)} {i : Nat} {x : List UInt8} (h : l[i]? = some x) : diff (l.take (i + 1)) = (diff (l.take i) && !(l.take i).contains x) := by
  obtain ⟨hi, rfl⟩ := List.getElem?_eq_some_iff.1 h
  rw [List.take_succ_eq_append_getElem hi, diff_snoc]
theorem diff_pre {l : List (List UInt8)} : ∀ {i : Nat}, diff (l.take i) = false → diff l = false := by
  intro i h
  cases hd : diff l
  · rfl
  · have key : ∀ (a b : List (List UInt8)), diff (a ++ b) = true → diff a = true := by
      intro a
      induction a with
      | nil => intro b _; rfl
      | cons y a ih =>
        intro b hb
        simp only [List.cons_append, diff, Bool.and_eq_true, Bool.not_eq_true'] at hb ⊢
        refine ⟨?_, ih b hb.2⟩
        rw [Bool.eq_false_iff] at *
        intro hc
        have hm : y ∈ a := by simpa using hc
        exact hb.1 (by simp [hm])
    have := key (l.take i) (l.drop i) (by rw [List.take_append_drop]; exact hd)
    rw [h] at this
    cases this
theorem rise_snoc (n c : Int) : ∀ (l : List Int) (a : Int), rise n a (l ++ [c]) = (rise n a l && decide (l.getLastD a < c) && decide (c < n))
  | [], a => by simp [rise]
  | x :: l, a => by
    have h := rise_snoc n c l x
    simp only [List.cons_append, rise, h, List.getLastD_cons]
    cases decide (a < x) <;> cases decide (x < n) <;> simp
theorem rise_next {n a c : Int} {l : List Int} {i : Nat} (h : l[i]? = some c) : rise n a (l.take (i + 1)) = (rise n a (l.take i) && decide ((l.take i).getLastD a < c) && decide (c < n)) := by
  obtain ⟨hi, rfl⟩ := List.getElem?_eq_some_iff.1 h
  rw [List.take_succ_eq_append_getElem hi, rise_snoc]
theorem rise_last {a c : Int} {l : List Int} {i : Nat} (h : l[i]? = some c) : (l.take (i + 1)).getLastD a = c := by
  obtain ⟨hi, rfl⟩ := List.getElem?_eq_some_iff.1 h
  rw [List.take_succ_eq_append_getElem hi]
  exact List.getLastD_concat ..
theorem rise_pre {n a : Int} {l : List Int} {i : Nat} (h : rise n a (l.take i) = false) : rise n a l = false := by
  cases hd : rise n a l
  · rfl
  · have key : ∀ (x y : List Int) (a : Int), rise n a (x ++ y) = true → rise n a x = true := by
      intro x
      induction x with
      | nil => intro y a _; rfl
      | cons z x ih =>
        intro y a hb
        simp only [List.cons_append, rise, Bool.and_eq_true] at hb ⊢
        exact ⟨hb.1, ih y z hb.2⟩
    have := key (l.take i) (l.drop i) a (by rw [List.take_append_drop]; exact hd)
    rw [h] at this
    cases this
def nmTo (s : List UInt8) (i : Nat) : Bool := (i == 0 || letterB (s.getD 0 0)) && (s.take i).all nb
theorem nmTo_next {s : List UInt8} {i : Nat} {b : UInt8} (h : s[i]? = some b) : nmTo s (i + 1) = (nmTo s i && (letterB b || !(i == 0) && digitB b)) := by
  obtain ⟨hi, rfl⟩ := List.getElem?_eq_some_iff.1 h
  unfold nmTo
  rw [List.take_succ_eq_append_getElem hi, List.all_append]
  cases i with
  | zero =>
    have e : s.getD 0 0 = s[0] := by simp [List.getD_eq_getElem?_getD, List.getElem?_eq_getElem hi]
    simp only [e, List.take_zero, List.all_nil, List.all_cons, nb]
    cases letterB s[0] <;> simp
  | succ i =>
    simp only [List.all_cons, List.all_nil, nb]
    cases letterB (s.getD 0 0) <;> cases (s.take (i + 1)).all (fun b => letterB b || digitB b) <;> simp [nb]
theorem nmTo_pre {s : List UInt8} {i : Nat} (hi : 0 < i ∧ i ≤ s.length) (h : nmTo s i = false) : nameB s = false := by
  have e : (i == 0) = false := beq_eq_false_iff_ne.2 (by omega)
  unfold nmTo at h
  rw [e, Bool.false_or] at h
  unfold nameB
  cases hl : letterB (s.getD 0 0)
  · simp
  · rw [hl, Bool.true_and] at h
    have : s.all (fun b => letterB b || digitB b) = false := by
      rw [Bool.eq_false_iff] at h ⊢
      intro ha
      apply h
      rw [List.all_eq_true] at ha ⊢
      intro b hb
      exact ha b (List.mem_of_mem_take hb)
    rw [this]; simp
theorem nmTo_all {s : List UInt8} (hs : 0 < s.length) : nmTo s s.length = (letterB (s.getD 0 0) && s.all (fun b => letterB b || digitB b)) := by
  have e : (s.length == 0) = false := beq_eq_false_iff_ne.2 (by omega)
  unfold nmTo
  rw [e, Bool.false_or, List.take_length]
  rfl
end Go.Hk
namespace Go.Hk
def ruV (r : Ru) : AVal := .agg (cRu r)
def cdV (c : Cd) : AVal := .agg (cCd c)
theorem cRu_eq (r : Ru) : cRu r = [.sl .no r.conds.length (fl cI r.conds), .bool r.all, .bool r.bol,
    .int .i64 r.rx.k, .int .u64 (wd r.rx.s 0 : Nat), .int .u64 (wd r.rx.s 1 : Nat), .int .u64 (wd r.rx.s 2 : Nat), .int .u64 (wd r.rx.s 3 : Nat), .int .i64 r.rx.lo, .int .i64 r.rx.hi, .sl .no r.rx.l.length (fl cR r.rx.l),
    .int .i64 r.trail.k, .int .u64 (wd r.trail.s 0 : Nat), .int .u64 (wd r.trail.s 1 : Nat), .int .u64 (wd r.trail.s 2 : Nat), .int .u64 (wd r.trail.s 3 : Nat), .int .i64 r.trail.lo, .int .i64 r.trail.hi, .sl .no r.trail.l.length (fl cR r.trail.l),
    .bool r.eof, .int .i64 r.act, .int .i64 r.to] := by
  unfold cRu
  rw [cR_eq, cR_eq]
  rfl
theorem ruV_agg22 (r : Ru) : AVal.agg [.sl .no r.conds.length (fl cI r.conds), .bool r.all, .bool r.bol,
    .int .i64 r.rx.k, .int .u64 (wd r.rx.s 0 : Nat), .int .u64 (wd r.rx.s 1 : Nat), .int .u64 (wd r.rx.s 2 : Nat), .int .u64 (wd r.rx.s 3 : Nat), .int .i64 r.rx.lo, .int .i64 r.rx.hi, .sl .no r.rx.l.length (fl cR r.rx.l),
    .int .i64 r.trail.k, .int .u64 (wd r.trail.s 0 : Nat), .int .u64 (wd r.trail.s 1 : Nat), .int .u64 (wd r.trail.s 2 : Nat), .int .u64 (wd r.trail.s 3 : Nat), .int .i64 r.trail.lo, .int .i64 r.trail.hi, .sl .no r.trail.l.length (fl cR r.trail.l),
    .bool r.eof, .int .i64 r.act, .int .i64 r.to] = ruV r := by rw [← cRu_eq, ruV]
theorem ruV_agg (r : Ru) : AVal.agg (cRu r) = ruV r := nr rfl
theorem ruV_cells (r : Ru) : cellsOf (ruV r) = some (cRu r) := rfl
theorem ruV_strip (r : Ru) : strip (ruV r) = some (ruV r) := by simp only [ruV, strip, cRu_strip]
theorem l_s_cRu {l : List Ru} : stripL (fl cRu l) = some (fl cRu l) := fl_strip cRu_strip l
theorem l_n_cRu {l : List Ru} : (fl cRu l).length = l.length * 22 := fl_len cRu_len l
theorem c_ruV {h t : Nat} {r : Ru} : clo h t (ruV r) = true := clo_strip _ _ (ruV_strip r)
theorem c_cRu {h t : Nat} {r : Ru} : cloL h t (cRu r) = true := cloL_strip _ _ (cRu_strip r)
theorem c_flRu {h t : Nat} {l : List Ru} : cloL h t (fl cRu l) = true := cloL_strip _ _ l_s_cRu
theorem l_put_cRu {a0 a1 a2 a3 a4 a5 a6 a7 a8 a9 a10 a11 a12 a13 a14 a15 a16 a17 a18 a19 a20 a21 : AVal} {r : Ru} : setMany [a0, a1, a2, a3, a4, a5, a6, a7, a8, a9, a10, a11, a12, a13, a14, a15, a16, a17, a18, a19, a20, a21] 0 (cRu r) = cRu r :=
  setMany_full (cRu r) [a0, a1, a2, a3, a4, a5, a6, a7, a8, a9, a10, a11, a12, a13, a14, a15, a16, a17, a18, a19, a20, a21] [] (cRu_len r).symm
theorem l_take_cRu {r : Ru} : List.take 22 (cRu r) = cRu r := List.take_of_length_le (by rw [cRu_len]; omega)
theorem n_isB_Ru {r : Ru} : isB (cRu r) = false := by rw [cRu_eq]; rfl
theorem cdV_agg2 (c : Cd) : AVal.agg [.str c.name, .bool c.ex] = cdV c := nr rfl
theorem cdV_agg (c : Cd) : AVal.agg (cCd c) = cdV c := nr rfl
theorem cdV_cells (c : Cd) : cellsOf (cdV c) = some [.str c.name, .bool c.ex] := rfl
theorem cdV_strip (c : Cd) : strip (cdV c) = some (cdV c) := rfl
theorem c_cdV {h t : Nat} {c : Cd} : clo h t (cdV c) = true := rfl
theorem l_s_cCd {l : List Cd} : stripL (fl cCd l) = some (fl cCd l) := fl_strip cCd_strip l
theorem l_n_cCd {l : List Cd} : (fl cCd l).length = l.length * 2 := fl_len cCd_len l
theorem c_flCd {h t : Nat} {l : List Cd} : cloL h t (fl cCd l) = true := cloL_strip _ _ l_s_cCd
theorem cSp_eq (s : Sp) : cSp s = [.sl .no s.conds.length (fl cCd s.conds), .bool s.deft, .sl .no s.rules.length (fl cRu s.rules)] := rfl
theorem sV_agg3 (s : Sp) : AVal.agg [.sl .no s.conds.length (fl cCd s.conds), .bool s.deft, .sl .no s.rules.length (fl cRu s.rules)] = sV s := nr rfl
theorem sV_cells (s : Sp) : cellsOf (sV s) = some [.sl .no s.conds.length (fl cCd s.conds), .bool s.deft, .sl .no s.rules.length (fl cRu s.rules)] := rfl
theorem sV_strip (s : Sp) : strip (sV s) = some (sV s) := by
  have h : stripL (fl cCd s.conds) = some (fl cCd s.conds) := l_s_cCd
  have h2 : stripL (fl cRu s.rules) = some (fl cRu s.rules) := l_s_cRu
  simp only [sV, cSp, strip, stripL, h, h2]
theorem c_sV {h t : Nat} {s : Sp} : clo h t (sV s) = true := clo_strip _ _ (sV_strip s)
attribute [go_sem] ruV_cells ruV_strip ruV_agg ruV_agg22 l_s_cRu l_n_cRu l_put_cRu l_take_cRu n_isB_Ru cRu_len cdV_cells cdV_strip cdV_agg cdV_agg2 l_s_cCd l_n_cCd cCd_len sV_agg3 sV_cells sV_strip c_ruV c_cRu c_flRu c_flCd c_sV
theorem aeq_str {P : Program} {t d : Nat} {I : TI} (hI : tiOf P t = some I) (hk : I.k = .str) {a b : List UInt8} : aeq P (d + 1) t (.str a) (.str b) = some (decide (a = b)) := by
  unfold aeq
  simp only [hI, hk]
  by_cases h : a = b <;> simp [h]
theorem aeq_bool {P : Program} {t d : Nat} {I : TI} (hI : tiOf P t = some I) (hk : I.k = .bool) {a b : Bool} : aeq P (d + 1) t (.bool a) (.bool b) = some (decide (a = b)) := by
  unfold aeq
  simp only [hI, hk]
  cases a <;> cases b <;> rfl
theorem aeq_int {P : Program} {t d : Nat} {I : TI} {k : IntKind} (hI : tiOf P t = some I) (hk : I.k = .int k) {k' : IntKind} {a b : Int} : aeq P (d + 1) t (.int k' a) (.int k' b) = some (decide (a = b)) := by
  unfold aeq
  simp only [hI, hk, if_true]
  by_cases h : a = b <;> simp [h]
structure okRu (r : Ru) : Prop where
  nc : r.conds.length < 9223372036854775808
  rx : okX r.rx
  tr : okX r.trail
structure okSp (s : Sp) : Prop where
  nc : s.conds.length < 9223372036854775808
  nr : s.rules.length < 9223372036854775808
  nm : ∀ c ∈ s.conds, c.name.length < 9223372036854775808
  ru : ∀ r ∈ s.rules, okRu r
theorem fl_inj1 {l l' : List Int} (h : fl cI l = fl cI l') : l = l' := by
  induction l generalizing l' with
  | nil => cases l' with
    | nil => rfl
    | cons x l' => simp [fl, cI] at h
  | cons x l ih => cases l' with
    | nil => simp [fl, cI] at h
    | cons y l' =>
      simp only [fl_cons, cI, List.cons_append, List.nil_append, List.cons.injEq, AVal.int.injEq, true_and] at h
      rw [h.1, ih h.2]
theorem cRu_inj {r q : Ru} (hr : okRu r) (hq : okRu q) (h : cRu r = cRu q) : r = q := by
  obtain ⟨a1, a2, a3, a4, a5, a6, a7, a8⟩ := r
  obtain ⟨b1, b2, b3, b4, b5, b6, b7, b8⟩ := q
  simp only [cRu, List.cons.injEq, AVal.sl.injEq, AVal.bool.injEq] at h
  obtain ⟨h1, h2, h3, h4⟩ := h
  have h5 := List.append_inj h4 (by simp [cR_len])
  have h6 := List.append_inj h5.2 (by simp [cR_len])
  have e1 := fl_inj1 h1.2.2
  have e2 := cR_inj' a4 hr.rx b4 hq.rx h5.1
  have e3 := cR_inj' a5 hr.tr b5 hq.tr h6.1
  simp only [List.cons.injEq, AVal.bool.injEq, AVal.int.injEq, true_and, and_true] at h6
  obtain ⟨_, e6, e7, e8⟩ := h6
  subst e1 e2 e3 h2 h3 e6 e7 e8
  rfl
theorem cCd_inj {c d : Cd} (h : cCd c = cCd d) : c = d := by
  obtain ⟨a, b⟩ := c
  obtain ⟨a', b'⟩ := d
  simp only [cCd, List.cons.injEq, AVal.str.injEq, AVal.bool.injEq, and_true] at h
  rw [h.1, h.2]
theorem ruV_inj {r q : Ru} (hr : okRu r) (hq : okRu q) (h : ruV r = ruV q) : r = q := cRu_inj hr hq (AVal.agg.inj h)
theorem sV_inj {s t : Sp} (hs : okSp s) (ht : okSp t) (h : sV s = sV t) : s = t := by
  obtain ⟨a1, a2, a3⟩ := s
  obtain ⟨b1, b2, b3⟩ := t
  have h := AVal.agg.inj h
  simp only [cSp, List.cons.injEq, AVal.sl.injEq, AVal.bool.injEq, true_and, and_true] at h
  obtain ⟨⟨h1, h2⟩, h3, h4, h5⟩ := h
  have e1 : a1 = b1 := by
    have := slc_inj (f := cCd) (l := a1) (r := b1) cCd_len (fun a ha b hb e => cCd_inj e) (by simp only [slc, h1, h2])
    exact this
  have e2 : a3 = b3 := by
    have := slc_inj (f := cRu) (l := a3) (r := b3) cRu_len (fun a ha b hb e => cRu_inj (hs.ru a ha) (ht.ru b hb) e) (by simp only [slc, h4, h5])
    exact this
  subst e1 e2 h3
  rfl
def alphaB (b : UInt8) : Bool := decide (97 ≤ b.toNat) && decide (b.toNat ≤ 122) || decide (65 ≤ b.toNat) && decide (b.toNat ≤ 90)
theorem letterB_eq (b : UInt8) : letterB b = (alphaB b || decide (b.toNat = 95)) := rfl
end Go.Hk
namespace Go.Hk
section
variable {α : Type} {a b : List α} {i : Nat} {x y : α}
end
def nulRu : Ru := ⟨[], false, false, .mk 0 0 0 0 [], .mk 0 0 0 0 [], false, 0, 0⟩
def activeS (s : Sp) (i c : Int) : Bool :=
  if 0 ≤ i ∧ i < s.rules.length ∧ 0 ≤ c ∧ c < s.conds.length then
    (s.rules.getD i.toNat nulRu).all || (s.rules.getD i.toNat nulRu).conds.any (fun a => decide (c = a)) || (decide ((s.rules.getD i.toNat nulRu).conds.length = 0) && !(s.conds.getD c.toNat ⟨[], false⟩).ex)
  else false
end Go.Hk
namespace Go.Hk
theorem rise_spec {n : Int} : ∀ {l : List Int} {a : Int}, rise n a l = true → (∀ c ∈ l, a < c ∧ c < n) ∧ (l ≠ [] → a + l.length < n)
  | [], a, _ => ⟨by simp, fun h => absurd rfl h⟩
  | x :: l, a, h => by
    simp only [rise, Bool.and_eq_true, decide_eq_true_eq] at h
    obtain ⟨⟨h1, h2⟩, h3⟩ := h
    obtain ⟨i1, i2⟩ := rise_spec h3
    refine ⟨fun c hc => ?_, fun _ => ?_⟩
    · rcases List.mem_cons.1 hc with rfl | hc
      · exact ⟨h1, h2⟩
      · have := i1 c hc; omega
    · simp only [List.length_cons]
      by_cases hl : l = []
      · subst hl; simp; omega
      · have := i2 hl; omega
structure LnOk (s : Sp) (r : Ru) : Prop where
  okS : okSp s
  okR : okRu r
  rs : rightS s = true
  rb : ruleB s.conds.length r = true
theorem rightS_spec {s : Sp} (h : rightS s = true) : 1 ≤ s.conds.length ∧ s.conds.length ≤ 8 ∧ s.rules.length ≤ 40 ∧ (∀ c ∈ s.conds, 0 < c.name.length ∧ c.name.length ≤ 12) ∧ ∀ r ∈ s.rules, ruleB s.conds.length r = true := by
  simp only [rightS, Bool.and_eq_true, decide_eq_true_eq, List.all_eq_true] at h
  obtain ⟨⟨⟨⟨⟨⟨⟨h1, h2⟩, h3⟩, _⟩, _⟩, h4⟩, _⟩, h5⟩ := h
  refine ⟨h1, h2, h3, fun c hc => ?_, h5⟩
  have := h4 c hc
  simp only [nameB, Bool.and_eq_true, decide_eq_true_eq] at this
  omega
theorem okSp.line {s : Sp} (h : okSp s) (hr : rightS s = true) {r : Ru} (hm : r ∈ s.rules) : LnOk s r := ⟨h, h.ru r hm, hr, (rightS_spec hr).2.2.2.2 r hm⟩
section
variable {s : Sp} {r : Ru}
theorem LnOk.cd (h : LnOk s r) : ∀ c ∈ r.conds, 0 ≤ c ∧ c < s.conds.length := by
  have := h.rb
  simp only [ruleB, holdsB, Bool.and_eq_true] at this
  intro c hc
  have := (rise_spec this.1.1.1).1 c hc
  omega
theorem LnOk.all (h : LnOk s r) (ha : r.all = true) : r.conds.length = 0 := by
  have := h.rb
  simp only [ruleB, holdsB, ha, Bool.and_eq_true, Bool.not_true, Bool.false_or, decide_eq_true_eq] at this
  exact this.1.1.2
theorem LnOk.act (h : LnOk s r) : (r.act = 3 ∧ 0 ≤ r.to ∧ r.to < s.conds.length) ∨ r.act = 1 ∨ r.act = 2 := by
  have := h.rb
  simp only [ruleB, doesB, Bool.and_eq_true] at this
  have h2 := this.1.2
  by_cases h3 : r.act = 3
  · rw [if_pos h3] at h2; simp at h2; exact .inl ⟨h3, h2⟩
  · rw [if_neg h3] at h2; simp at h2; exact .inr h2.1
theorem LnOk.mt (h : LnOk s r) : matchB r = true := by
  have := h.rb
  simp only [ruleB, Bool.and_eq_true] at this
  exact this.2
theorem nameAt_eq {l : List Cd} {c : Cd} {k : Nat} (h : l[k]? = some c) : nameAt l (k : Nat) = c.name := by
  simp [nameAt, List.getD_eq_getElem?_getD, h]
theorem LnOk.nm (h : LnOk s r) {c : Int} (hc : 0 ≤ c ∧ c < s.conds.length) : 0 < (nameAt s.conds c).length ∧ (nameAt s.conds c).length ≤ 12 := by
  obtain ⟨k, rfl⟩ : ∃ k : Nat, c = (k : Nat) := ⟨c.toNat, by omega⟩
  have hk : k < s.conds.length := by omega
  rw [nameAt_eq (c := s.conds[k]) (by simp [hk])]
  exact (rightS_spec h.rs).2.2.2.1 _ (List.getElem_mem hk)
theorem LnOk.names (h : LnOk s r) : (∀ x ∈ r.conds.map (nameAt s.conds), 0 < x.length ∧ x.length ≤ 12) := by
  intro x hx
  obtain ⟨c, hc, rfl⟩ := List.mem_map.1 hx
  exact h.nm (h.cd c hc)
theorem LnOk.rx (h : LnOk s r) (he : r.eof = false) : rightT r.rx = true ∧ (noneX r.trail = false → rightT r.trail = true) := by
  have := h.mt
  simp only [matchB, he, Bool.false_eq_true, if_false, Bool.and_eq_true, Bool.or_eq_true] at this
  exact ⟨this.1, fun h0 => by rcases this.2 with h | h; rw [h0] at h; cases h; exact h⟩
end
end Go.Hk
namespace Go.Hk
def noS : Sp := ⟨[], false, []⟩
theorem noX_okX : okX (.mk 0 0 0 0 []) := .mk (by omega) (by omega) (by omega) (by omega) (by simp) (fun y hy => by cases hy)
theorem noS_ok : okSp noS := ⟨by simp [noS], by simp [noS], by simp [noS], by simp [noS]⟩
theorem noS_right : rightS noS = false := by decide +kernel
def fewT (n acc : Int) (u : Ru) : Int := IntKind.i64.wrap (IntKind.i64.wrap (IntKind.i64.wrap (IntKind.i64.wrap (IntKind.i64.wrap (acc + (u.conds.length : Nat)) + n) - nodes u.rx n) + n) - nodes u.trail n)
def fewL (n : Int) : Int → List Ru → Int
  | acc, [] => acc
  | acc, u :: l => if acc < n then fewL n (fewT n acc u) l else acc
def fewS (s : Sp) (n : Int) : Bool := decide (fewL n (IntKind.i64.wrap ((s.conds.length : Nat) + (s.rules.length : Nat))) s.rules < n)
end Go.Hk
namespace Go.Hk
def cSt (b : UInt8) : Prop := plain b.toNat = true ∨ b = 92
instance (b : UInt8) : Decidable (cSt b) := inferInstanceAs (Decidable (_ ∨ _))
def sOk (b : UInt8) : Prop := b ≠ 41 ∧ b ≠ 124 ∧ b ≠ 123
structure WR (x : Rx) : Prop where
  ok : okX x
  r : inR x
theorem WR.kid {x y : Rx} (h : WR x) (hy : y ∈ x.l) : WR y := ⟨h.ok.mem hy, h.r.kid hy⟩
theorem inR.zero {x : Rx} (h : inR x) : x.k ≠ 5 → x.lo = 0 ∧ x.hi = 0 ∧ (x.k = 1 → x.s = 0) := by
  intro h5
  have h := h.own
  unfold Hk.own at h
  rw [if_neg h5] at h
  split at h
  · simp only [Bool.and_eq_true, decide_eq_true_eq] at h
    refine ⟨h.1.1.2, h.1.2, fun h1 => ?_⟩
    have := h.1.1.1
    rw [h1] at this
    simpa using this
  · split at h
    · simp only [Bool.and_eq_true, decide_eq_true_eq] at h
      exact ⟨h.1.1.2, h.1.2, fun h1 => by omega⟩
    · cases h
theorem WR.cases {x : Rx} (h : WR x) : x = .mk 1 0 0 0 [] ∨ (∃ s, x = .mk 2 s 0 0 [] ∧ s ≠ 0 ∧ s < 2 ^ 256) ∨ (∃ l, x = .mk 3 0 0 0 l ∧ 2 ≤ l.length ∧ ∀ y ∈ l, WR y ∧ y.k ≠ 3) ∨ (∃ l, x = .mk 4 0 0 0 l ∧ 2 ≤ l.length ∧ ∀ y ∈ l, WR y ∧ y.k ≠ 4) ∨ (∃ lo hi y, x = .mk 5 0 lo hi [y] ∧ times lo hi = true ∧ WR y) := by
  have hz := h.r.zero
  have hk := fun y hy => h.kid (y := y) hy
  have hu := fun y hy => h.r.unlike (y := y) hy
  have hs := h.ok.st
  have hc := h.r.cases
  obtain ⟨k, s, lo, hi, l⟩ := x
  simp only [Rx.k, Rx.s, Rx.lo, Rx.hi, Rx.l] at *
  have hk5 : ∀ y ∈ l, k ≠ 5 → y.k ≠ k := fun y hy h5 he => by
    have := hu y hy
    simp [unlike, he, h5] at this
  rcases hc with ⟨h1, h2⟩ | ⟨h1, h2, h3⟩ | ⟨h1, h2, h3⟩ | ⟨h1, h2, h3, y, h4⟩
  · subst h1; subst h2
    obtain ⟨rfl, rfl, h3⟩ := hz (by decide)
    obtain rfl := h3 rfl
    exact .inl rfl
  · subst h1; subst h3
    obtain ⟨rfl, rfl, _⟩ := hz (by decide)
    exact .inr (.inl ⟨s, rfl, h2, hs⟩)
  · subst h2
    rcases h1 with rfl | rfl
    · obtain ⟨rfl, rfl, _⟩ := hz (by decide)
      exact .inr (.inr (.inl ⟨l, rfl, h3, fun y hy => ⟨hk y hy, hk5 y hy (by decide)⟩⟩))
    · obtain ⟨rfl, rfl, _⟩ := hz (by decide)
      exact .inr (.inr (.inr (.inl ⟨l, rfl, h3, fun y hy => ⟨hk y hy, hk5 y hy (by decide)⟩⟩)))
  · subst h1; subst h2; subst h4
    exact .inr (.inr (.inr (.inr ⟨lo, hi, y, rfl, h3, hk y (by simp)⟩)))
def ends (u : List UInt8) : Prop := u = [] ∨ ∃ r, u = 41 :: r
def endQ (u : List UInt8) : Prop := u = [] ∨ (∃ r, u = 41 :: r) ∨ ∃ r, u = 124 :: r
theorem endQ.not {u t : List UInt8} {b : UInt8} (h : endQ u) (hb : sOk b) : u ≠ b :: t := by
  intro e
  rcases h with h | ⟨q, h⟩ | ⟨q, h⟩ <;> rw [h] at e
  · cases e
  · exact hb.1 (List.cons.inj e).1.symm
  · exact hb.2.1 (List.cons.inj e).1.symm
theorem WR.atom {x : Rx} (h : WR x) : x = .mk 1 0 0 0 [] ∨ (∃ s, x = .mk 2 s 0 0 [] ∧ s ≠ 0 ∧ s < 2 ^ 256) ∨ 3 ≤ x.k := by
  rcases h.cases with h | h | ⟨l, rfl, hl, hk⟩ | ⟨l, rfl, hl, hk⟩ | ⟨lo, hi, y, rfl, ht, hy⟩
  · exact .inl h
  · exact .inr (.inl h)
  all_goals exact .inr (.inr (by simp only [Rx.k]; decide))
theorem ends.not {u r : List UInt8} (h : ends u) : u ≠ 124 :: r := by
  intro e
  rcases h with h | ⟨q, h⟩ <;> rw [h] at e <;> cases e
end Go.Hk
namespace Go.Hk
def tb (b : UInt8) : Bool := decide (b ≠ 10) && decide (b ≠ 32) && decide (b ≠ 47) && decide (b ≠ 60) && decide (b ≠ 94)
end Go.Hk
namespace Go.Hk
structure SpOk (s : Sp) : Prop where
  right : rightS s = true
  ok : ∀ r ∈ s.rules, okX r.rx ∧ okX r.trail
theorem SpOk.first {s : Sp} (h : SpOk s) : ∃ l, s.conds = ⟨initial, false⟩ :: l := by
  have := h.right
  simp only [rightS, Bool.and_eq_true, decide_eq_true_eq, Bool.not_eq_true'] at this
  obtain ⟨⟨⟨⟨⟨⟨⟨h1, _⟩, _⟩, h2⟩, h3⟩, _⟩, _⟩, _⟩ := this
  cases hc : s.conds with
  | nil => rw [hc] at h1; simp at h1
  | cons c l =>
    rw [hc] at h2 h3
    simp only [List.getD_cons_zero] at h2 h3
    cases c
    simp only at h2 h3
    subst h2; subst h3
    exact ⟨l, rfl⟩
end Go.Hk
