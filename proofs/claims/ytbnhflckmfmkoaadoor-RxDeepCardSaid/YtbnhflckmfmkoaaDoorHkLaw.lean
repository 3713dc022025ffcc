/- From a contract to what a row asks. -/
import Derived.Test.YtbnhflckmfmkoaaDoorHkEnc
import Derived.Carry
import Derived.OpenShut
import Derived.SizedLaws
import Derived.ChangeOld
import Derived.ProofKit
import Derived.Laws.IdiomArrays
set_option linter.unusedSimpArgs false
namespace Go.Hk
open Go.ChangeShapes Go.WideShapes Go.ChangeAt Go.RowKit

def g0 (W : World) : Ghost := { bad := fun _ _ => False, lo := W.heap.size, S := ⟨[], []⟩, ι := ⟨fun _ => 0, fun _ => 0, fun _ => 0, fun _ => none, fun _ => 0⟩, w := W }
theorem rl_g0 (W : World) : Rl (g0 W) where
  lo := Nat.le_refl _
  bad := fun _ _ h => h.elim
  cells := fun b e cs h => by simp [g0] at h
  maps := fun b es h => by simp [g0] at h
  toks := fun t g h => absurd h (empty_notok rfl)
  own := fun g h => absurd h (empty_noown rfl)
  hh := fun b b' g h => absurd h (empty_noblk rfl)
  ht := fun b t g h => absurd h (empty_noblk rfl)
  tt := fun t t' g h => absurd h (empty_notok rfl)
  zs := fun b e cs h => by simp [g0] at h
theorem g0_cell {W : World} {g o : Nat} {v : Value} (h : W.cell? ⟨g, o, none⟩ = some v) (h1 : v.oneCell' = true) : (g0 W).cx.cell g o v :=
  ⟨h, h1, fun h => h.elim, fun _ hb => empty_noblk rfl hb, fun _ ht => absurd ht (empty_notok rfl)⟩

theorem PCall.law {P : Program} {f : FuncId} {as : List AVal} {vals : Array Value} {W : World} (h : PCall P f as (.bool true)) (hv : VRs (g0 W).cx as vals) :
    Calls P f vals W fun e W' => e = .returned (.bool true) ∧ Below W.heap.size W W' := by
  refine (h.2 (g0 W) vals (rl_g0 W) rfl hv).mono ?_
  rintro e w' ⟨v, γ', rfl, rfl, _, hext, _, hvr⟩
  cases hvr
  exact ⟨rfl, (ext_empty_grow (γ := g0 W) rfl (Nat.le_refl _) hext).toBelow⟩

section
variable {H : Type} {enc : TypeId × Value → H} {P : Program}

theorem trodAll_stays (hl : laidOutB P = true) {W W' : World} (hb : Below W.heap.size W W') : ∀ {ts : List TypeId} {vs : List Value} {ds : List (DataW H)} {ps : List MemPlace},
    (ts.all fun t => P.readableRec t && decide (t < P.types.size)) = true → DataW.TrodAll enc P W 0 (fun _ => true) true ts vs ds ps → DataW.TrodAll enc P W' 0 (fun b => decide (b < W.heap.size)) true ts vs ds ps
  | [], vs, ds, ps, _, h => by
    obtain ⟨rfl, rfl, rfl⟩ := trodAll_nil h
    exact trodAll_mk0
  | t :: ts, vs, ds, ps, ht, h => by
    obtain ⟨v, vs, d, ds, p, q, rfl, rfl, rfl, h1, h2⟩ := trodAll_cons h
    simp only [List.all_cons, Bool.and_eq_true, decide_eq_true_eq] at ht
    refine trodAll_cons_mk (Below.trod hl ht.1.1 ht.1.2 h1 hb ?_) (trodAll_stays hl hb ht.2 h2)
    obtain ⟨m, hm⟩ := h1
    exact DataW.trod_lt m _ _ _ hm

theorem vr_word {κ : Cx} {k : IntKind} {n : Int} : VR κ (.int k n) (.int k n) := .int k n
theorem wf_u64 {n : Int} (h : (Lit.int .u64 n).wf = true) : 0 ≤ n ∧ n < 18446744073709551616 := by
  simp [Lit.wf, IntKind.min, IntKind.max, IntKind.bits, IntKind.signed] at h
  omega
/-- A set that is handed in. -/
theorem arg_set {W : World} {base : Nat} {t e : TypeId} {v : Value} {d : DataW H} {p : List MemPlace} (ht : P.underlying t = some (.array 4 e)) (hce : P.cellsOf e = 1) (he : P.underlying e = some (.int .u64)) (hc : P.cellsOf t = 4)
    (hv : Value.okWide P W .any base t v) (h : DataW.Trod enc P W 0 (fun _ => true) true t v d p) (κ : Cx) : ∃ A, A < 2 ^ 256 ∧ VR κ (setV A) v := by
  simp only [Value.okWide, ht] at hv
  obtain ⟨cs, rfl, hsz, _⟩ := hv
  rw [hc] at hsz
  obtain ⟨fuel, hf⟩ := h
  have hl : cs.toList.length = 4 := by simpa using hsz
  match hcl : cs.toList, hl with
  | [c0, c1, c2, c3], _ =>
  have hcells : (Value.agg cs).cells.toList = [c0, c1, c2, c3] := by simpa [Value.cells] using hcl
  rw [hcells] at hf
  obtain ⟨y0, y1, y2, y3, n, _, h0, h1, h2, h3⟩ := trod_array4 ht hce hf
  obtain ⟨a, e0, _, wa⟩ := DataW.trod_int he h0
  obtain ⟨b, e1, _, wb⟩ := DataW.trod_int he h1
  obtain ⟨c, e2, _, wc⟩ := DataW.trod_int he h2
  obtain ⟨d', e3, _, wd'⟩ := DataW.trod_int he h3
  simp only [List.cons.injEq, and_true] at e0 e1 e2 e3
  subst e0 e1 e2 e3
  obtain ⟨a0, a1⟩ := wf_u64 wa
  obtain ⟨b0, b1⟩ := wf_u64 wb
  obtain ⟨c0, c1⟩ := wf_u64 wc
  obtain ⟨d0, d1⟩ := wf_u64 wd'
  obtain ⟨h0, h1, h2, h3⟩ := wd_sum a.toNat b.toNat c.toNat d'.toNat (by omega) (by omega) (by omega) (by omega)
  refine ⟨a.toNat + 2 ^ 64 * b.toNat + 2 ^ 128 * c.toNat + 2 ^ 192 * d'.toNat, by omega, ?_⟩
  have hcs : cs = #[.int .u64 a, .int .u64 b, .int .u64 c, .int .u64 d'] := by
    apply Array.ext'
    simpa using hcl
  subst hcs
  refine .agg _ _ rfl (fun j hj => ?_) (fun j hj => ?_)
  · have hj4 : j < 4 := hj
    simp only [setL, h0, h1, h2, h3, Int.toNat_of_nonneg a0, Int.toNat_of_nonneg b0, Int.toNat_of_nonneg c0, Int.toNat_of_nonneg d0]
    match j, hj4 with
    | 0, _ => exact .int _ _
    | 1, _ => exact .int _ _
    | 2, _ => exact .int _ _
    | 3, _ => exact .int _ _
  · have hj4 : j < 4 := hj
    match j, hj4 with
    | 0, _ => rfl
    | 1, _ => rfl
    | 2, _ => rfl
    | 3, _ => rfl
theorem arg_int {W : World} {base : Nat} {t : TypeId} {k : IntKind} {v : Value} {d : DataW H} {p : List MemPlace} (ht : P.underlying t = some (.int k)) (hv : Value.okWide P W .any base t v) (h : DataW.Trod enc P W 0 (fun _ => true) true t v d p) (κ : Cx) : ∃ n, (Lit.int k n).wf = true ∧ VR κ (.int k n) v := by
  obtain ⟨n, rfl, _, _, hw⟩ := open_int ht hv h
  exact ⟨n, hw, .int k n⟩
theorem vrs_nil {κ : Cx} : VRs κ [] #[] := ⟨rfl, fun j h => absurd h (Nat.not_lt_zero j)⟩
theorem vrs_of {κ : Cx} {as : List AVal} {vs : List Value} (hl : vs.length = as.length) (h : ∀ (j : Nat) (hj : j < as.length), VR κ as[j] (vs.getD j undef)) : VRs κ as vs.toArray :=
  ⟨by simpa using hl, fun j hj => by simpa [Array.getD_eq_getD_getElem?, List.getD_eq_getElem?_getD] using h j hj⟩
inductive VRL (κ : Cx) : List AVal → List Value → Prop
  | nil : VRL κ [] []
  | cons {a : AVal} {v : Value} {as : List AVal} {vs : List Value} (h : VR κ a v) (k : VRL κ as vs) : VRL κ (a :: as) (v :: vs)
theorem VRL.vrs {κ : Cx} {as : List AVal} {args : Array Value} (h : VRL κ as args.toList) : VRs κ as args := by
  have key : ∀ {as : List AVal} {vs : List Value}, VRL κ as vs → vs.length = as.length ∧ ∀ (j : Nat) (hj : j < as.length), VR κ as[j] (vs.getD j undef) := by
    intro as vs h
    induction h with
    | nil => exact ⟨rfl, fun j h => absurd h (Nat.not_lt_zero j)⟩
    | cons h k ih =>
      refine ⟨by simp [ih.1], fun j hj => ?_⟩
      cases j with
      | zero => exact h
      | succ j => exact ih.2 j (Nat.lt_of_succ_lt_succ hj)
  obtain ⟨h1, h2⟩ := key h
  have := vrs_of h1 h2
  simpa using this
end
end Go.Hk
