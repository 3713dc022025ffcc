import Derived.Test.YtdimacffjdpkfaaHkQ18
import Derived.Test.YtdimacffjdpkfaaHkQ17
import Derived.Carry
import Derived.OpenShut
import Derived.SizedLaws
import Derived.ChangeOld
import Derived.ProofKit
import Derived.Laws.IdiomArrays
import Derived.DataReads
/- The rewriting rules by which code is walked, under the name that the library's rules bear. -/
namespace Go.Hk
attribute [go_sem] e_ops e_prep_nil e_prep_cons e_prep_cons_g e_ops_nil e_step e_step_g e_dst0 e_dst e_yield_undef e_go_true e_go_false
attribute [go_sem] e_fin e_pair e_put e_reg e_seq e_code e_code_ret e_code_exit e_cond e_cond_true e_cond_false e_block
attribute [go_sem] e_block_normal e_block_ret e_block_exit e_block_exit_ne e_exit e_ret e_skip e_label e_evQ e_lk_same e_tmp e_func
attribute [go_sem] e_int e_bool e_str e_nilp e_nils e_nilm e_nilf e_nili e_agg e_move e_assign e_pick
attribute [go_sem] e_pick_true e_pick_false e_pick_bool e_box e_alloc e_build e_buildSlice e_load e_store e_makeMap e_lookup e_mapUpdate
attribute [go_sem] e_insert e_makeIface e_nilCheck e_binOp e_unOp e_convert e_makeFunc e_makeSlice e_slice e_fieldAddr e_field e_indexAddr
attribute [go_sem] e_index e_range e_entry e_tassert e_extract e_builtin e_call e_call_dyn e_dyn e_ext e_acall e_acallP
attribute [go_sem] e_con_pure e_con_raw e_con_ext e_con_lib e_conP_pure e_conP_raw e_gamg e_gamg_dy e_yld e_gamx e_gam e_callPure
attribute [go_sem] e_cp e_bin_int e_sadd e_seql e_sneq e_bin_str e_add e_sub e_mul e_quo e_rem e_and
attribute [go_sem] e_or e_xor e_eql e_neq e_lss e_leq e_gtr e_geq e_shl e_shr e_eqop_eql e_eqop_neq
attribute [go_sem] e_not e_neg e_xor1 w_i64 w_i32 w_u64 w_u32 w_u8 d_t d_f i_t i_f
attribute [go_sem] k_u64 k_i64 k_u32 k_i32 k_u8 k_min k_fdiv e_cells_agg e_cells_int e_cells_bool e_cells_str e_cells_sl
attribute [go_sem] e_cells_msl e_cells_ptr e_cells_ipt e_cells_fn e_cells_nilp e_cells_nilf e_cells_nilm e_cells_map e_push e_set_nil e_set_cons s_nil
attribute [go_sem] s_cons s_consO s_ptr s_msl s_amap s_tpt s_dpt s_int s_bool s_str s_nilp s_nilm
attribute [go_sem] s_nilf s_nili s_undef s_sl s_agg s_ipt s_fn s_tup s_mapO s_mapO2 e_new e_newP_t
attribute [go_sem] e_newP_f e_isB_t e_isB_nil e_isB_int e_isB_bool e_isB_str e_isB_sl e_isB_nilm e_isB_nilf e_isB_nili e_isB_p1 e_isB_pp
attribute [go_sem] e_isB_pi e_isB_rep e_isB_repb e_bin_np e_bin_pn e_bin_tn e_bin_tt e_conv_i e_conv_s e_conv_sl e_consU e_by_nil
attribute [go_sem] e_by_cons e_conv_t e_keep_no e_keep_full e_keep_nil e_keep_tok e_keep_t0 e_cells_tpt e_w_seq e_w_block e_w_skip e_w_ret
attribute [go_sem] e_w_exit e_w_label e_w_cond e_w_true e_w_false e_w_region e_w_regionx e_w_regiong0 e_w_regiong e_regW e_q_seq e_q_seq_ret
attribute [go_sem] e_q_seq_exit e_q_block e_q_block_ret e_q_block_exit e_fn_ret e_fn_normal e_view e_view_some n_tdiv64 n_tmod64 n_pow n_has
attribute [go_sem] n_or n_href n_many n_agg n_isB n_isB c_Rno c_Rfull c_Rnil c_nil c_cons c_append
attribute [go_sem] c_ptr c_msl c_map c_no c_full c_slnil c_tpt c_dpt c_tok c_ipt c_fn c_agg
attribute [go_sem] c_int c_bool c_str c_dead c_undef c_nilp c_nilm c_nilf c_nili c_ifc c_tup c_fl
attribute [go_sem] c_fl_tok c_sl c_okR c_E_nil c_E_cons c_B c_M c_set c_setL c_slc l_setL l_setL5
attribute [go_sem] q_cp q_cpv q_cps q_flat q_nil q_cons q_consO q_consN q_view q_viewO q_vO q_msl
attribute [go_sem] q_mslc q_mslv q_ptr q_ptrc q_ptrv q_tup q_tupO q_agg q_fn q_fnO q_mapN2 q_mapN
attribute [go_sem] q_f_int q_f_bool q_f_undef q_f_str l_s_setL l_s_cI l_s_cB l_s_c8 l_n_setL l_n_cI l_n_cB l_n_c8
attribute [go_sem] e_lk e_put_none aindexAddr afieldAddr afield aindex aload astore abuiltin alen aextract anil
attribute [go_sem] apart andL aeq List.map_cons List.map_nil List.getElem?_cons_zero List.getElem?_cons_succ List.getElem?_nil List.length_cons List.length_nil List.nil_append List.cons_append
attribute [go_sem] FnQ ares aresL exists_eq_left' Option.some.injEq AVal.bool.injEq Int.one_mul Int.natCast_nonneg Int.toNat_natCast setL_get setL_len Nat.le_refl
attribute [go_sem] setV_cells setV_strip setV_zero setL_zero setL_all n_set Option.getD_some Nat.min_self TK.agg Nat.succ_ne_self if_true if_false
attribute [go_sem] envFrom Option.bind_some Option.map_some Nat.zero_add Nat.add_zero beq_self_eq_true Bool.false_eq_true Bool.true_beq Bool.false_beq Bool.not_true Bool.not_false e_yield_bool
attribute [go_sem] and_self and_true true_and List.set_cons_zero List.set_cons_succ List.set_nil Nat.sub_zero Nat.zero_mul Nat.mul_one Nat.one_ne_zero not_true_eq_false not_false_eq_true
attribute [go_sem] decide_true decide_false kills_nil kills_cons abuild afill List.all_cons List.all_nil Option.isSome_some List.take_succ_cons List.take_zero List.drop_zero
attribute [go_sem] List.drop_succ_cons amakeSlice List.length_replicate Option.map_none aslice abound List.headD_cons List.tail_cons Int.sub_add_cancel Int.add_sub_cancel
attribute [go_sem] Bool.and_true Bool.true_and
attribute [go_sem_proc] Nat.reduceAdd Int.reduceEq Int.reduceLT Int.reduceLE Int.reduceNe Int.reduceAdd Int.reduceSub Int.reduceMul Int.reduceToNat Nat.reduceMul Nat.reduceLT Nat.reduceLeDiff Nat.reduceEqDiff reduceCtorEq Nat.reduceSub Nat.reduceDiv
attribute [go_sem_proc ↓] reduceIte
end Go.Hk
/- Layer 1, the plain law: sets, their lists and runs. -/
set_option linter.unusedSimpArgs false
set_option linter.unusedVariables false
namespace Go.Hk
theorem dn {n i : Nat} (h : i < n) : n - (i + 1) < n - i := by omega
def has (A : Nat) (n : Int) : Bool := decide (0 ≤ n) && decide (n < 256) && A.testBit n.toNat
theorem has_nat {A b : Nat} (h : b < 256) : has A ((b : Nat) : Int) = A.testBit b := by
  have : (b : Int) < 256 := by omega
  simp [has, this]
theorem has_neg {A : Nat} {n : Int} (h : n < 0) : has A n = false := by
  have : ¬ 0 ≤ n := by omega
  simp [has, this]
theorem has_big {A : Nat} {n : Int} (h : 256 ≤ n) : has A n = false := by
  have : ¬ n < 256 := by omega
  simp [has, this]

theorem has_call {P : Program} (f : FuncId) (hn : ∀ n : Int, n < 0 → ∀ A, PCall P f [setV A, .int .i64 n] (.bool false)) (hb : ∀ n : Int, 256 ≤ n → ∀ A, PCall P f [setV A, .int .i64 n] (.bool false))
    (hi : ∀ A b : Nat, b < 256 → PCall P f [setV A, .int .i64 b] (.bool (A.testBit b))) (A : Nat) (n : Int) : PCall P f [setV A, .int .i64 n] (.bool (has A n)) := by
  rcases Int.lt_or_le n 0 with h | h
  · rw [has_neg h]; exact hn n h A
  · rcases Int.lt_or_le n 256 with k | k
    · obtain ⟨b, rfl⟩ := Int.eq_ofNat_of_zero_le h
      have hb : b < 256 := by omega
      rw [has_nat hb]; exact hi A b hb
    · rw [has_big k]; exact hb n k A

def inOf (lo hi : Int) (i : Nat) : Bool := decide (lo ≤ (i : Int)) && decide ((i : Int) ≤ hi)
def ofN (lo hi : Int) : Nat := mk (inOf lo hi) 256
theorem ofN_lt (lo hi : Int) : ofN lo hi < 2 ^ 256 := mk_lt _ _
def setLast : List (Int × Int) → Int → List (Int × Int)
  | [], _ => []
  | [p], b => [(p.1, b)]
  | p :: q :: l, b => p :: setLast (q :: l) b
def runsN (A : Nat) : Nat → List (Int × Int)
  | 0 => []
  | n + 1 => if A.testBit n then (if 0 < n ∧ A.testBit (n - 1) = true then setLast (runsN A n) n else runsN A n ++ [((n : Int), (n : Int))]) else runsN A n
/-- One more byte. -/
def step (acc : List (Int × Int)) (b : Int) : List (Int × Int) :=
  match acc.getLast? with
  | some p => if p.2 = b - 1 then setLast acc b else acc ++ [(b, b)]
  | none => [(b, b)]
theorem setV_inj {A B : Nat} (ha : A < 2 ^ 256) (hb : B < 2 ^ 256) (h : setV A = setV B) : A = B := setL_inj' ha hb (AVal.agg.inj h)
/-! pairs of numbers ars cells -/
def cP (p : Int × Int) : List AVal := [.int .i64 p.1, .int .i64 p.2]
theorem cP_len (p : Int × Int) : (cP p).length = 2 := rfl
theorem cP_strip (p : Int × Int) : stripL (cP p) = some (cP p) := rfl
/-! sets held against each other -/
theorem set_aeq {P : Program} {t e : TypeId} {I E : TI} (hI : tiOf P t = some I) (hk : I.k = .arr 4 e) (hE : tiOf P e = some E) (hs : E.size = 1) (hEk : E.k = .int .u64) {A B : Nat} (h : A < 2 ^ 256) (k : B < 2 ^ 256) :
    aeq P 20 t (setV A) (setV B) = some (decide (A = B)) := by
  have hr : List.range 4 = [0, 1, 2, 3] := rfl
  have h1 : ∀ x y : Int, aeq P 19 e (.int .u64 x) (.int .u64 y) = some (x == y) := fun x y => by unfold aeq; simp only [hE, hEk, if_true]
  have h2 : ∀ (A k : Nat), k < 4 → apart P e (setL A) k = some (.int .u64 (wd A k)) := fun A k hk => by simp [apart, hE, hEk, TK.agg, setL_get hk]
  unfold setV aeq
  simp only [hI, hk, hE, hs, hr, List.map_cons, List.map_nil, Nat.mul_one, h2 _ 0 (by omega), h2 _ 1 (by omega), h2 _ 2 (by omega), h2 _ 3 (by omega), h1, andL]
  by_cases hAB : A = B
  · subst hAB; simp
  · have : ¬ (wd A 0 = wd B 0 ∧ wd A 1 = wd B 1 ∧ wd A 2 = wd B 2 ∧ wd A 3 = wd B 3) := fun hw => hAB (setL_inj h k fun i hi => by
      match i, hi with
      | 0, _ => exact hw.1
      | 1, _ => exact hw.2.1
      | 2, _ => exact hw.2.2.1
      | 3, _ => exact hw.2.2.2)
    simp [hAB]
    intro a b c d
    exact this ⟨by omega, by omega, by omega, by omega⟩
theorem set_eql {P : Program} {t e : TypeId} {I E : TI} (hg : P.eqGuardType P.depth t = false) (hI : tiOf P t = some I) (hk : I.k = .arr 4 e) (hE : tiOf P e = some E) (hs : E.size = 1) (hEk : E.k = .int .u64) {A B : Nat} (h : A < 2 ^ 256) (k : B < 2 ^ 256) :
    abin P .eql t (setV A) (setV B) = some (.bool (decide (A = B))) := by
  have := set_aeq hI hk hE hs hEk h k
  unfold setV at this ⊢
  rw [e_bin_agg, hg, this]; rfl
theorem set_neq {P : Program} {t e : TypeId} {I E : TI} (hg : P.eqGuardType P.depth t = false) (hI : tiOf P t = some I) (hk : I.k = .arr 4 e) (hE : tiOf P e = some E) (hs : E.size = 1) (hEk : E.k = .int .u64) {A B : Nat} (h : A < 2 ^ 256) (k : B < 2 ^ 256) :
    abin P .neq t (setV A) (setV B) = some (.bool (!decide (A = B))) := by
  have := set_aeq hI hk hE hs hEk h k
  unfold setV at this ⊢
  rw [e_bin_agg, hg, this]; rfl
end Go.Hk
/- From a contract to what a row asks. -/
namespace Go.Hk
open Go.ChangeShapes Go.WideShapes Go.ChangeAt Go.RowKit

def g0 (W : World) : Ghost := { bad := fun _ _ => False, lo := W.heap.size, S := ⟨[], []⟩, ι := ⟨fun _ => 0, fun _ => 0, fun _ => 0, fun _ => none, fun _ => 0⟩, w := W }
theorem rl_g0 (W : World) : Rl (g0 W) where
  lo := Nat.le_refl _
  bad := fun _ _ h => h.elim
  objs := fun b x h => by simp [g0] at h
  its := fun b mb l c h => by simp [g0] at h
  toks := fun t g h => absurd h (empty_notok rfl)
  own := fun g h => absurd h (empty_noown rfl)
  hh := fun b b' g h => absurd h (empty_noblk rfl)
  ht := fun b t g h => absurd h (empty_noblk rfl)
  tt := fun t t' g h => absurd h (empty_notok rfl)
theorem g0_cell {W : World} {g o : Nat} {v : Value} (h : W.cell? ⟨g, o, none⟩ = some v) (h1 : v.oneCell' = true) : (g0 W).cx.cell g o v :=
  ⟨h, h1, fun h => h.elim, fun _ hb => empty_noblk rfl hb, fun _ ht => absurd ht (empty_notok rfl)⟩

theorem PCall.law {P : Program} {f : FuncId} {ars : List AVal} {vals : Array Value} {W : World} (h : PCall P f ars (.bool true)) (hv : VRs (g0 W).cx ars vals) :
    Calls P f vals W fun e W' => e = .returned (.bool true) ∧ Below W.heap.size W W' := by
  refine (h.2 (g0 W) vals (rl_g0 W) rfl hv).mono ?_
  rintro e w' ⟨v, γ', rfl, rfl, _, hext, _, hvr⟩
  cases hvr
  exact ⟨rfl, (ext_empty_grow (γ := g0 W) rfl (Nat.le_refl _) hext).toBelow⟩

section
variable {H : Type} {enc : TypeId × Value → H} {P : Program}

theorem trodAll_stays (hl : laidOutB P = true) {W W' : World} (hb : Below W.heap.size W W') : ∀ {ts : List TypeId} {vs : List Value} {ds : List (DataW H)} {ps : List MemPlace},
    (ts.all fun t => P.readableRec t && decide (t < P.types.size)) = true → DataW.TrodAll enc P W 0 (fun _ => true) true ts vs ds ps → DataW.TrodAll enc P W' 0 (fun b => decide (b < W.heap.size)) true ts vs ds ps
  | [], vs, ds, ps, _, h => by
    obtain ⟨rfl, rfl, rfl⟩ := trodAll_nil h
    exact trodAll_mk0
  | t :: ts, vs, ds, ps, ht, h => by
    obtain ⟨v, vs, d, ds, p, q, rfl, rfl, rfl, h1, h2⟩ := trodAll_cons h
    simp only [List.all_cons, Bool.and_eq_true, decide_eq_true_eq] at ht
    refine trodAll_cons_mk (Below.trod hl ht.1.1 ht.1.2 h1 hb ?_) (trodAll_stays hl hb ht.2 h2)
    obtain ⟨m, hm⟩ := h1
    exact DataW.trod_lt m _ _ _ hm

theorem vrs_of {κ : Cx} {ars : List AVal} {vs : List Value} (hl : vs.length = ars.length) (h : ∀ (j : Nat) (hj : j < ars.length), VR κ ars[j] (vs.getD j undef)) : VRs κ ars vs.toArray :=
  ⟨by simpa using hl, fun j hj => by simpa [Array.getD_eq_getD_getElem?, List.getD_eq_getElem?_getD] using h j hj⟩
inductive VRL (κ : Cx) : List AVal → List Value → Prop
  | nil : VRL κ [] []
  | cons {a : AVal} {v : Value} {ars : List AVal} {vs : List Value} (h : VR κ a v) (k : VRL κ ars vs) : VRL κ (a :: ars) (v :: vs)
theorem VRL.vrs {κ : Cx} {ars : List AVal} {args : Array Value} (h : VRL κ ars args.toList) : VRs κ ars args := by
  have key : ∀ {ars : List AVal} {vs : List Value}, VRL κ ars vs → vs.length = ars.length ∧ ∀ (j : Nat) (hj : j < ars.length), VR κ ars[j] (vs.getD j undef) := by
    intro ars vs h
    induction h with
    | nil => exact ⟨rfl, fun j h => absurd h (Nat.not_lt_zero j)⟩
    | cons h k ih =>
      refine ⟨by simp [ih.1], fun j hj => ?_⟩
      cases j with
      | zero => exact h
      | succ j => exact ih.2 j (Nat.lt_of_succ_lt_succ hj)
  obtain ⟨h1, h2⟩ := key h
  have := vrs_of h1 h2
  simpa using this
end
end Go.Hk
/- What a law is handed, read ars values of the walk. -/
namespace Go.Hk
open Go.ChangeShapes Go.WideShapes Go.ChangeAt Go.RowKit

/-! ### Types whose values are plain data -/
def contig (P : Program) (TS : List TypeId) : List (Bool × TypeId × Nat) → Nat → Option Nat
  | [], o => some o
  | f :: fs, o => if f.2.2 = o ∧ TS.contains f.2.1 = true then (match tiOf P f.2.1 with | some F => contig P TS fs (o + F.size) | none => none) else none
def tyOK (P : Program) (TS : List TypeId) (t : TypeId) : Bool :=
  match tiOf P t with
  | some I => (match I.k with
    | .bool => I.size == 1
    | .int _ => I.size == 1
    | .str => I.size == 1
    | .slice e => I.size == 1 && TS.contains e && (match tiOf P e with | some E => decide (0 < E.size) | none => false)
    | .arr n e => TS.contains e && (match tiOf P e with | some E => I.size == n * E.size | none => false)
    | .struct fs => contig P TS fs 0 == some I.size
    | _ => false)
  | none => false

def shpFs (p : TypeId → List AVal → Prop) : List (Bool × TypeId × Nat) → List AVal → Prop
  | [], as' => as' = []
  | f :: fs, as' => ∃ x r, as' = x ++ r ∧ p f.2.1 x ∧ shpFs p fs r
def shpN (p : List AVal → Prop) : Nat → List AVal → Prop
  | 0, as' => as' = []
  | n + 1, as' => ∃ x r, as' = x ++ r ∧ p x ∧ shpN p n r
/-- What a value's cells look like. -/
def shp (P : Program) : Nat → TypeId → List AVal → Prop
  | 0, _, _ => False
  | d + 1, t, as' =>
    match tiOf P t with
    | some I => (match I.k with
      | .bool => ∃ b, as' = [.bool b]
      | .int k => ∃ n, as' = [.int k n] ∧ (Lit.int k n).wf = true
      | .str => ∃ s, as' = [.str s] ∧ s.length ≤ maxLen
      | .slice e => ∃ xs : List (List AVal), as' = [.sl .no xs.length xs.flatten] ∧ xs.length ≤ maxLen ∧ ∀ x ∈ xs, shp P d e x
      | .arr n e => shpN (shp P d e) n as'
      | .struct fs => shpFs (shp P d) fs as'
      | _ => False)
    | none => False

/-- Cells and what they bear. -/
structure CR (κ : Cx) (as' : List AVal) (cs : List Value) : Prop where
  len : as'.length = cs.length
  vr : ∀ (j : Nat) (h : j < as'.length), VR κ as'[j] (cs.getD j undef)
  one : ∀ v ∈ cs, v.oneCell' = true

theorem CR.one1 {κ : Cx} {a : AVal} {v : Value} (h : VR κ a v) (h1 : v.oneCell' = true) : CR κ [a] [v] :=
  ⟨rfl, fun j hj => by
    have : j = 0 := by simp at hj; exact hj
    subst this; exact h, fun u hu => by simp at hu; rw [hu]; exact h1⟩
theorem CR.append {κ : Cx} {a b : List AVal} {u v : List Value} (h : CR κ a u) (k : CR κ b v) : CR κ (a ++ b) (u ++ v) where
  len := by simp [h.len, k.len]
  vr := fun j hj => by
    by_cases hja : j < a.length
    · rw [List.getElem_append_left hja, List.getD_eq_getElem?_getD, List.getElem?_append_left (by rw [← h.len]; exact hja), ← List.getD_eq_getElem?_getD]
      exact h.vr j hja
    · have hl := h.len
      rw [List.getElem_append_right (by omega), List.getD_eq_getElem?_getD, List.getElem?_append_right (by omega), ← List.getD_eq_getElem?_getD]
      have := k.vr (j - a.length) (by simp at hj; omega)
      rw [← hl]
      exact this
  one := fun w hw => by
    rcases List.mem_append.1 hw with hw | hw
    · exact h.one w hw
    · exact k.one w hw

theorem tsmem {TS : List TypeId} {t : TypeId} (h : TS.contains t = true) : t ∈ TS := List.contains_iff_mem.1 h

theorem cells_of {P : Program} {t : TypeId} {I : TI} {i : TypeInfo} {d : TypeDesc} (h : TIs P t I i d) : P.cellsOf t = I.size := by simp [Program.cellsOf, h.info, h.size]

section
variable {H : Type} {enc : TypeId × Value → H} {P : Program} {TS : List TypeId} {W : World}

/-- An array's cells, one element behind the other. -/
theorem rdN {p : List AVal → Prop} {sz : Nat} : ∀ (n : Nat) (cs : List Value), cs.length = n * sz → (∀ i, i < n → ∃ as', p as' ∧ CR (g0 W).cx as' ((cs.drop (i * sz)).take sz)) → ∃ as', shpN p n as' ∧ CR (g0 W).cx as' cs
  | 0, cs, hl, _ => by
    have : cs = [] := List.eq_nil_of_length_eq_zero (by simpa using hl)
    subst this
    exact ⟨[], rfl, rfl, fun j h => absurd h (Nat.not_lt_zero j), fun v h => by cases h⟩
  | n + 1, cs, hl, h => by
    obtain ⟨x, hx, cx⟩ := h 0 (by omega)
    have hl2 : cs.length = sz + n * sz := by rw [hl, Nat.add_mul, Nat.one_mul, Nat.add_comm]
    obtain ⟨r, hr, cr⟩ := rdN (sz := sz) n (cs.drop sz) (by simp [hl2]) fun i hi => by
      obtain ⟨y, hy, cy⟩ := h (i + 1) (by omega)
      refine ⟨y, hy, ?_⟩
      rw [List.drop_drop]
      rw [show (i + 1) * sz = sz + i * sz by rw [Nat.add_mul, Nat.one_mul, Nat.add_comm]] at cy
      exact cy
    refine ⟨x ++ r, ⟨x, r, rfl, hx, hr⟩, ?_⟩
    have := cx.append cr
    simpa using this

/-- A struct's cells, one field behind the other. -/
theorem rdF {p : TypeId → List AVal → Prop} : ∀ (fs : List (Bool × TypeId × Nat)) (o tot : Nat) (cs : List Value), contig P TS fs o = some tot → cs.length = tot →
    (∀ f ∈ fs, ∀ F, tiOf P f.2.1 = some F → f.2.1 ∈ TS → ∃ as', p f.2.1 as' ∧ CR (g0 W).cx as' ((cs.drop f.2.2).take F.size)) → o ≤ tot ∧ ∃ as', shpFs p fs as' ∧ CR (g0 W).cx as' (cs.drop o)
  | [], o, tot, cs, hc, hl, _ => by
    simp only [contig, Option.some.injEq] at hc
    subst hc
    refine ⟨Nat.le_refl _, [], rfl, ?_⟩
    rw [List.drop_eq_nil_of_le (by omega)]
    exact ⟨rfl, fun j h => absurd h (Nat.not_lt_zero j), fun v h => by cases h⟩
  | f :: fs, o, tot, cs, hc, hl, h => by
    simp only [contig] at hc
    split at hc
    · rename_i hf
      obtain ⟨hfo, hTS⟩ := hf
      cases hF : tiOf P f.2.1 with
      | none => simp [hF] at hc
      | some F =>
        simp only [hF] at hc
        obtain ⟨hle, r, hr, cr⟩ := rdF fs (o + F.size) tot cs hc hl fun g hg => h g (by simp [hg])
        obtain ⟨x, hx, cx⟩ := h f (by simp) F hF (tsmem hTS)
        rw [hfo] at cx
        refine ⟨by omega, x ++ r, ⟨x, r, rfl, hx, hr⟩, ?_⟩
        have := cx.append cr
        rw [← List.drop_drop, List.take_append_drop] at this
        exact this
    · cases hc

theorem rd_slice {p : List AVal → Prop} {sz len cap : Nat} {a : Addr} (hsz : 0 < sz) (hlc : len ≤ cap) (h : ∀ i, i < len → ∃ as' cs, p as' ∧ W.cells? 0 (a.add (i * sz)) sz = some cs ∧ CR (g0 W).cx as' cs) :
    ∃ xs : List (List AVal), xs.length = len ∧ (∀ x ∈ xs, p x) ∧ VR (g0 W).cx (.sl .no xs.length xs.flatten) (.slice (some a) len cap) := by
  by_cases h0 : len = 0
  · subst h0
    exact ⟨[], rfl, ⟨fun x hx => by simp at hx, VR.slz a cap⟩⟩
  · have hex : ∀ i : Nat, ∃ as' : List AVal, i < len → ∃ cs, p as' ∧ W.cells? 0 (a.add (i * sz)) sz = some cs ∧ CR (g0 W).cx as' cs := fun i => by
      by_cases hi : i < len
      · obtain ⟨as', cs, h1⟩ := h i hi
        exact ⟨as', fun _ => ⟨cs, h1⟩⟩
      · exact ⟨[], fun hi' => absurd hi' hi⟩
    let A : Nat → List AVal := fun i => (hex i).choose
    have hA : ∀ i, i < len → ∃ cs, p (A i) ∧ W.cells? 0 (a.add (i * sz)) sz = some cs ∧ CR (g0 W).cx (A i) cs := fun i hi => (hex i).choose_spec hi
    have hAl : ∀ i, i < len → (A i).length = sz := fun i hi => by
      obtain ⟨cs, _, h2, h3⟩ := hA i hi
      rw [h3.len, (World.cells?_some h2).2.1]
    -- lists of so many
    have flen : ∀ n, n ≤ len → (((List.range n).map A).flatten).length = n * sz := by
      intro n
      induction n with
      | zero => intro _; simp
      | succ n ih =>
        intro hn
        rw [List.range_succ, List.map_append, List.flatten_append, List.length_append, ih (by omega)]
        simp [hAl n (by omega), Nat.add_mul]
    have fget : ∀ n, n ≤ len → ∀ i j, i < n → j < sz → (((List.range n).map A).flatten)[i * sz + j]? = (A i)[j]? := by
      intro n
      induction n with
      | zero => intro _ i j hi; omega
      | succ n ih =>
        intro hn i j hi hj
        have hfl := flen n (by omega)
        rw [List.range_succ, List.map_append, List.flatten_append]
        by_cases hin : i < n
        · have : i * sz + j < n * sz := by
            have := Nat.mul_le_mul_right sz (show i + 1 ≤ n by omega)
            rw [Nat.add_mul, Nat.one_mul] at this
            omega
          rw [List.getElem?_append_left (by omega), ih (by omega) i j hin hj]
        · have : i = n := by omega
          subst this
          rw [List.getElem?_append_right (by omega), hfl]
          simp
    have hspot : a.spot = none := by
      obtain ⟨cs, _, h2, _⟩ := hA 0 (by omega)
      have := (World.cells?_some h2).2.2 0 hsz
      have hcl := (World.cells?_some h2).2.1
      have hcs : cs[0]? = some cs[0] := by simp [hcl, hsz]
      rw [hcs] at this
      unfold World.cell? at this
      split at this
      · split at this
        · cases this
        · rename_i hs
          cases hsp : a.spot with
          | none => rfl
          | some q =>
            exfalso; apply hs
            simp [Addr.add, hsp]
      · cases this
    refine ⟨(List.range len).map A, by simp, fun x hx => ?_, ?_⟩
    · obtain ⟨i, hi, rfl⟩ := List.mem_map.1 hx
      obtain ⟨cs, h1, _⟩ := hA i (by simpa using hi)
      exact h1
    · have hcell : ∀ i j, i < len → j < sz → ∃ v, W.cell? ⟨a.block, a.off + (i * sz + j), none⟩ = some v ∧ v.oneCell' = true ∧ ∃ u, (A i)[j]? = some u ∧ VR (g0 W).cx u v := by
        intro i j hi hj
        obtain ⟨cs, _, h2, h3⟩ := hA i hi
        obtain ⟨_, k2, k3⟩ := World.cells?_some h2
        have k3 := k3 j hj
        have hjc : j < cs.length := by omega
        refine ⟨cs[j], ?_, h3.one _ (List.getElem_mem _), (A i)[j]'(by rw [h3.len]; exact hjc), by simp [h3.len, hjc], ?_⟩
        · rw [List.getElem?_eq_getElem hjc] at k3
          rw [← k3]
          obtain ⟨ab, ao, asp⟩ := a
          simp only at hspot
          subst hspot
          simp only [Addr.add_lit, Nat.add_assoc]
        · have := h3.vr j (by rw [h3.len]; exact hjc)
          simpa [hjc] using this
      have hfl := flen len (Nat.le_refl _)
      let f : Nat → Value := fun j => ((W.cell? ⟨a.block, a.off + j, none⟩).getD undef)
      have hdm : ∀ j, j < len * sz → j / sz < len ∧ j % sz < sz ∧ j / sz * sz + j % sz = j := fun j hj =>
        ⟨(Nat.div_lt_iff_lt_mul hsz).2 hj, Nat.mod_lt _ hsz, by rw [Nat.mul_comm]; exact Nat.div_add_mod j sz⟩
      have e : (⟨a.block, a.off, none⟩ : Addr) = a := by
        obtain ⟨ab, ao, asp⟩ := a
        simp only at hspot
        subst hspot; rfl
      have := VR.sl (κ := (g0 W).cx) .no len (((List.range len).map A).flatten) a.block a.off cap f hlc (fun j hj => by
        obtain ⟨q1, q2, q3⟩ := hdm j (by omega)
        obtain ⟨v, v1, v2, _⟩ := hcell _ _ q1 q2
        rw [q3] at v1
        show (g0 W).cx.cell _ _ _
        have : f j = v := by simp [f, v1]
        rw [this]
        exact g0_cell v1 v2) (fun j hj => by
        obtain ⟨q1, q2, q3⟩ := hdm j (by omega)
        obtain ⟨v, v1, v2, u, u1, u2⟩ := hcell _ _ q1 q2
        have hg := fget len (Nat.le_refl _) _ _ q1 q2
        rw [q3] at v1 hg
        have : f j = v := by simp [f, v1]
        rw [this]
        rw [u1, List.getElem?_eq_getElem hj] at hg
        rw [Option.some.inj hg]
        exact u2) trivial
      rw [e] at this
      simpa using this

theorem rd (hT : TS.all (tyOK P TS) = true) : ∀ (fuel : Nat) (t : TypeId) (cs : List Value) (x : DataW H × List MemPlace), t ∈ TS → DataW.trod enc P W 0 (fun _ => true) true fuel t cs = some x →
    ∃ as', shp P fuel t as' ∧ CR (g0 W).cx as' cs ∧ ∀ I, tiOf P t = some I → cs.length = I.size := by
  intro fuel
  induction fuel with
  | zero => intro t cs x _ h; simp [DataW.trod] at h
  | succ fuel ih =>
    intro t cs x ht h
    have hty := List.all_eq_true.1 hT t ht
    unfold tyOK at hty
    cases hI : tiOf P t with
    | none => simp [hI] at hty
    | some I =>
      simp only [hI] at hty
      obtain ⟨i, d, hi⟩ := tiOf_spec hI
      have hk := hi.k
      have hu := hi.under
      have hco := cells_of hi
      cases hkk : I.k <;> simp only [hkk, Bool.false_eq_true] at hty <;> rw [hkk] at hk
      case bool =>
        have := tk_bool hk; subst this
        obtain ⟨b, rfl, _⟩ := DataW.trod_bool hu h
        exact ⟨[.bool b], by simp only [shp, hI, hkk]; exact ⟨b, rfl⟩, .one1 (.bool b) rfl, fun J hJ => by cases hJ; simp at hty; simp [hty]⟩
      case int k =>
        have := tk_int hk; subst this
        obtain ⟨n, rfl, _, hw⟩ := DataW.trod_int hu h
        exact ⟨[.int k n], by simp only [shp, hI, hkk]; exact ⟨n, rfl, hw⟩, .one1 (.int k n) rfl, fun J hJ => by cases hJ; simp at hty; simp [hty]⟩
      case str =>
        have := tk_str hk; subst this
        obtain ⟨s, rfl, _, hs⟩ := DataW.trod_string hu h
        have e : s = ⟨s.data.toList.toArray⟩ := by cases s; simp
        refine ⟨[.str s.data.toList], by simp only [shp, hI, hkk]; exact ⟨_, rfl, by rw [Array.length_toList]; exact hs⟩, .one1 (a := .str s.data.toList) ?_ rfl, fun J hJ => by cases hJ; simp at hty; simp [hty]⟩
        have := VR.str (κ := (g0 W).cx) s.data.toList
        rw [← e] at this
        exact this
      case slice e =>
        have := tk_slice hk; subst this
        simp only [Bool.and_eq_true, beq_iff_eq] at hty
        obtain ⟨⟨hs1, hTe⟩, hE⟩ := hty
        cases hEI : tiOf P e with
        | none => simp [hEI] at hE
        | some E =>
          simp only [hEI, decide_eq_true_eq] at hE
          obtain ⟨i', d', hi'⟩ := tiOf_spec hEI
          have hce := cells_of hi'
          rcases DataW.trod_slice hu h with ⟨rfl, _⟩ | ⟨a, len, cap, elems, rest, n, hn, rfl, _, hb, hlc, hcm, hel, hget, _⟩
          · refine ⟨[.sl .no 0 []], by simp only [shp, hI, hkk]; exact ⟨[], rfl, Nat.zero_le _, fun x hx => by simp at hx⟩, .one1 (.slnil .no trivial) rfl, fun J hJ => by cases hJ; simp [hs1]⟩
          · cases hn
            obtain ⟨xs, x1, x2, x3⟩ := rd_slice (W := W) (p := shp P fuel e) (sz := E.size) (a := a) (len := len) (cap := cap) hE hlc (fun i hil => by
              have := hget i hil
              rw [hce] at this
              cases hc : W.cells? 0 (a.add (i * E.size)) E.size with
              | none =>
                rw [hc] at this
                have : elems[i]? = none := this.symm
                rw [List.getElem?_eq_none_iff] at this
                omega
              | some cs' =>
                rw [hc] at this
                have hil' : i < elems.length := by omega
                have h2 : DataW.trod enc P W 0 (fun _ => true) true fuel e cs' = some elems[i] := by
                  rw [List.getElem?_eq_getElem hil'] at this; exact this
                obtain ⟨as', s1, s2, _⟩ := ih e cs' _ (tsmem hTe) h2
                exact ⟨as', cs', s1, rfl, s2⟩)
            exact ⟨[.sl .no xs.length xs.flatten], by simp only [shp, hI, hkk]; exact ⟨xs, rfl, by omega, x2⟩, .one1 x3 rfl, fun J hJ => by cases hJ; simp [hs1]⟩
      case arr n e =>
        have := tk_arr hk; subst this
        simp only [Bool.and_eq_true] at hty
        obtain ⟨hTe, hE⟩ := hty
        cases hEI : tiOf P e with
        | none => simp [hEI] at hE
        | some E =>
          simp only [hEI, beq_iff_eq] at hE
          obtain ⟨i', d', hi'⟩ := tiOf_spec hEI
          have hce := cells_of hi'
          obtain ⟨xs, m, hm, _, hl, hxl, hget⟩ := DataW.trod_array hu h
          cases hm
          rw [hco] at hl
          obtain ⟨as', a1, a2⟩ := rdN (W := W) (p := shp P fuel e) (sz := E.size) n cs (by omega) (fun i hin => by
            have := hget i hin
            rw [hce] at this
            have hil' : i < xs.length := by omega
            rw [List.getElem?_eq_getElem hil'] at this
            obtain ⟨as', s1, s2, _⟩ := ih e _ _ (tsmem hTe) this
            exact ⟨as', s1, s2⟩)
          exact ⟨as', by simp only [shp, hI, hkk]; exact a1, a2, fun J hJ => by cases hJ; exact hl⟩
      case struct fs =>
        obtain ⟨gs, hd, hfs⟩ := tk_struct hk
        subst hd
        simp only [beq_iff_eq] at hty
        obtain ⟨xs, m, hm, _, hl, hxl, hget⟩ := DataW.trod_struct hu h
        cases hm
        rw [hco] at hl
        obtain ⟨_, as', a1, a2⟩ := rdF (W := W) (TS := TS) (p := shp P fuel) fs 0 I.size cs hty hl (fun f hf F hF hTf => by
          rw [hfs] at hf
          obtain ⟨g, hg, rfl⟩ := List.mem_map.1 hf
          obtain ⟨j, hj, hgj⟩ := List.mem_iff_getElem.1 hg
          have hj' : j < gs.size := by simpa using hj
          have hgj' : gs[j]? = some g := by simp [hj', ← hgj]
          have := hget j g hgj'
          obtain ⟨i', d', hi'⟩ := tiOf_spec hF
          rw [cells_of hi', List.getElem?_eq_getElem (by omega)] at this
          obtain ⟨as', s1, s2, _⟩ := ih _ _ _ hTf this
          exact ⟨as', s1, s2⟩)
        exact ⟨as', by simp only [shp, hI, hkk]; exact a1, by simpa using a2, fun J hJ => by cases hJ; exact hl⟩

/-- What a parameter is handed. -/
theorem arg_rd (hT : TS.all (tyOK P TS) = true) {t : TypeId} (ht : TS.contains t = true) {I : TI} (hI : tiOf P t = some I) {base : Nat} {v : Value} {d : DataW H} {p : List MemPlace}
    (hv : Value.okWide P W .any base t v) (h : DataW.Trod enc P W 0 (fun _ => true) true t v d p) : ∃ fuel as', shp P fuel t as' ∧ VR (g0 W).cx (if I.k.agg = true then .agg as' else as'.headD .dead) v := by
  obtain ⟨fuel, hf⟩ := h
  obtain ⟨as', h1, h2, h3⟩ := rd hT fuel t _ _ (tsmem ht) hf
  refine ⟨fuel, as', h1, ?_⟩
  have h3 := h3 I hI
  obtain ⟨i, dd, hi⟩ := tiOf_spec hI
  have hk := hi.k
  have hagg := tk_agg dd
  rw [← hk] at hagg
  unfold Value.okWide at hv
  rw [hi.under] at hv
  have hty := List.all_eq_true.1 hT t (tsmem ht)
  unfold tyOK at hty
  simp only [hI] at hty
  cases hkk : I.k <;> simp only [hkk, Bool.false_eq_true] at hty <;> rw [hkk] at hk
  case arr n e =>
    have := tk_arr hk; subst this
    obtain ⟨cs, rfl, hsz, _⟩ := hv
    simp only [TK.agg, if_true]
    exact .agg as' cs (by simpa [Value.cells] using h2.len.symm) (fun j hj => by simpa [Value.cells, Array.getD_eq_getD_getElem?, List.getD_eq_getElem?_getD] using h2.vr j hj) (fun j hj => by
      have hl := h2.len
      simp only [Value.cells, Array.length_toList] at hl
      have hj' : j < cs.size := by omega
      have := h2.one cs[j] (by simp [Value.cells])
      simpa [Array.getD_eq_getD_getElem?, hj'] using this)
  case struct fs =>
    obtain ⟨gs, hd, _⟩ := tk_struct hk
    subst hd
    obtain ⟨cs, rfl, hsz, _⟩ := hv
    simp only [TK.agg, if_true]
    exact .agg as' cs (by simpa [Value.cells] using h2.len.symm) (fun j hj => by simpa [Value.cells, Array.getD_eq_getD_getElem?, List.getD_eq_getElem?_getD] using h2.vr j hj) (fun j hj => by
      have hl := h2.len
      simp only [Value.cells, Array.length_toList] at hl
      have hj' : j < cs.size := by omega
      have := h2.one cs[j] (by simp [Value.cells])
      simpa [Array.getD_eq_getD_getElem?, hj'] using this)
  all_goals
    have key : v.cells = #[v] → VR (g0 W).cx (as'.headD .dead) v := fun hc => by
      have hl := h2.len
      rw [hc] at hl
      match as', hl with
      | [a], _ =>
        have := h2.vr 0 (by simp)
        rw [hc] at this
        simpa using this
    simp only [TK.agg, Bool.false_eq_true, if_false]
    refine key ?_
    first
      | (have := tk_bool hk; subst this; cases v <;> first | rfl | (exfalso; simp [Cell.okWide, Cell.ok, hi.under] at hv))
      | (have := tk_int hk; subst this; cases v <;> first | rfl | (exfalso; simp [Cell.okWide, Cell.ok, hi.under] at hv))
      | (have := tk_str hk; subst this; cases v <;> first | rfl | (exfalso; simp [Cell.okWide, Cell.ok, hi.under] at hv))
      | (have := tk_slice hk; subst this; cases v <;> first | rfl | (exfalso; simp [Cell.okWide, Cell.ok, hi.under] at hv))
end
end Go.Hk
