/- Lists of values ars cells; contracts by choice. -/
import Derived.Test.YtojahfdjfacgaaaHkQ22
set_option linter.unusedSimpArgs false
set_option linter.unusedSectionVars false
namespace Go.Hk

/-! ### Lists ars cells -/
section
variable {α : Type} {f : α → List AVal} {k i j : Nat} {l r : List α} {x : α}
def fl (f : α → List AVal) : List α → List AVal
  | [] => []
  | x :: l => f x ++ fl f l
theorem fl_nil : fl f [] = [] := rfl
theorem fl_cons : fl f (x :: l) = f x ++ fl f l := rfl
theorem fl_append : fl f (l ++ r) = fl f l ++ fl f r := by
  induction l with
  | nil => rfl
  | cons x l ih => simp [fl, ih]
theorem fl_one : fl f [x] = f x := by simp [fl]
theorem fl_len (h : ∀ x, (f x).length = k) : ∀ l : List α, (fl f l).length = l.length * k
  | [] => by simp [fl]
  | x :: l => by simp [fl, fl_len h l, h, Nat.add_mul, Nat.add_comm]
theorem fl_strip (h : ∀ x, stripL (f x) = some (f x)) : ∀ l : List α, stripL (fl f l) = some (fl f l)
  | [] => rfl
  | x :: l => s_append (h x) (fl_strip h l)
theorem fl_drop (h : ∀ x, (f x).length = k) : ∀ (l : List α) (i : Nat), List.drop (i * k) (fl f l) = fl f (l.drop i)
  | l, 0 => by simp
  | [], i + 1 => by simp [fl]
  | x :: l, i + 1 => by
    rw [show (i + 1) * k = k + i * k by rw [Nat.add_mul, Nat.one_mul, Nat.add_comm], ← List.drop_drop, fl_cons]
    rw [List.drop_left' (h x), fl_drop h l i]
    rfl
/-- An element's cells. -/
theorem fl_at (h : ∀ x, (f x).length = k) (hx : l[i]? = some x) : List.take k (List.drop (i * k) (fl f l)) = f x := by
  rw [fl_drop h]
  obtain ⟨hi, rfl⟩ := List.getElem?_eq_some_iff.1 hx
  rw [List.drop_eq_getElem_cons hi, fl_cons, List.take_left' (h _)]
theorem fl_get (h : ∀ x, (f x).length = k) (hx : l[i]? = some x) (hj : j < k) : (fl f l)[i * k + j]? = (f x)[j]? := by
  rw [← fl_at h hx, List.getElem?_take, if_pos hj, List.getElem?_drop]
theorem fl_get1 (h : ∀ x, (f x).length = 1) (hx : l[i]? = some x) : (fl f l)[i]? = (f x)[0]? := by
  have := fl_get (j := 0) h hx (by omega)
  simpa using this
theorem fl_inj (hl : ∀ x, (f x).length = k) (hf : ∀ x ∈ l, ∀ y ∈ r, f x = f y → x = y) (hlen : l.length = r.length) (h : fl f l = fl f r) : l = r := by
  induction l generalizing r with
  | nil => exact (List.eq_nil_of_length_eq_zero hlen.symm).symm
  | cons x l ih =>
    cases r with
    | nil => simp at hlen
    | cons y r =>
      have := List.append_inj (s₁ := f x) (s₂ := f y) h (by rw [hl, hl])
      rw [hf x (by simp) y (by simp) this.1, ih (fun a ha b hb => hf a (by simp [ha]) b (by simp [hb])) (by simpa using hlen) this.2]
/-- A slice that is read. -/
abbrev slc (f : α → List AVal) (l : List α) : AVal := .sl .no l.length (fl f l)
theorem slc_inj (hl : ∀ x, (f x).length = k) (hf : ∀ x ∈ l, ∀ y ∈ r, f x = f y → x = y) (h : slc f l = slc f r) : l = r := by
  simp only [slc, AVal.sl.injEq, true_and] at h
  exact fl_inj hl hf h.1 h.2
end

/-- Numbers, bytes, truths. -/
def cI (n : Int) : List AVal := [.int .i64 n]
def cB (b : Bool) : List AVal := [.bool b]
def c8 (n : Nat) : List AVal := [.int .u8 (n : Nat)]
theorem cI_len (n : Int) : (cI n).length = 1 := rfl
theorem cB_len (b : Bool) : (cB b).length = 1 := rfl
theorem c8_len (n : Nat) : (c8 n).length = 1 := rfl
theorem cI_strip (n : Int) : stripL (cI n) = some (cI n) := rfl
theorem cB_strip (b : Bool) : stripL (cB b) = some (cB b) := rfl
theorem c8_strip (n : Nat) : stripL (c8 n) = some (c8 n) := rfl
theorem cI_inj {a b : Int} (h : cI a = cI b) : a = b := by simpa [cI] using h
theorem fl_cI_map : ∀ l : List Int, fl cI l = l.map fun n => .int .i64 n
  | [] => rfl
  | x :: l => by rw [fl_cons, fl_cI_map l]; rfl
theorem fl_cI_get {l : List Int} {i : Nat} {x : Int} (h : l[i]? = some x) : (fl cI l)[i]? = some (.int .i64 x) := by
  rw [fl_cI_map, List.getElem?_map, h]; rfl
theorem setL_strip (A : Nat) : stripL (setL A) = some (setL A) := rfl
/-! ### Contracts by choice -/
noncomputable def pimp (R : List AVal → AVal → Prop) (ars : List AVal) : Option AVal := by
  classical
  exact if h : ∃ r, R ars r then some h.choose else none
theorem pimp_spec {R : List AVal → AVal → Prop} {ars : List AVal} {v : AVal} (h : pimp R ars = some v) : R ars v := by
  unfold pimp at h
  split at h
  · rename_i hx
    simp only [Option.some.injEq] at h
    rw [← h]
    exact hx.choose_spec
  · cases h
theorem pimp_eq {R : List AVal → AVal → Prop} {ars : List AVal} {v : AVal} (h : R ars v) (u : ∀ w, R ars w → w = v) : pimp R ars = some v := by
  have hx : ∃ r, R ars r := ⟨v, h⟩
  unfold pimp
  rw [dif_pos hx, u _ hx.choose_spec]
noncomputable def rimp (R : List AVal → AMem → AVal → AMem → Prop) (ars : List AVal) (m : AMem) : Option (AVal × AMem) := by
  classical
  exact if h : ∃ p : AVal × AMem, R ars m p.1 p.2 then some h.choose else none
theorem rimp_spec {R : List AVal → AMem → AVal → AMem → Prop} {ars : List AVal} {m : AMem} {v : AVal} {m' : AMem} (h : rimp R ars m = some (v, m')) : R ars m v m' := by
  unfold rimp at h
  split at h
  · rename_i hx
    simp only [Option.some.injEq] at h
    have := hx.choose_spec
    rw [h] at this
    exact this
  · cases h
theorem rimp_eq {R : List AVal → AMem → AVal → AMem → Prop} {ars : List AVal} {m m' : AMem} {v : AVal} (h : R ars m v m') (u : ∀ w m2, R ars m w m2 → w = v ∧ m2 = m') : rimp R ars m = some (v, m') := by
  have hx : ∃ p : AVal × AMem, R ars m p.1 p.2 := ⟨(v, m'), h⟩
  unfold rimp
  rw [dif_pos hx]
  obtain ⟨a, b⟩ := u _ _ hx.choose_spec
  exact congrArg some (Prod.ext a b)
end Go.Hk
namespace Go.Hk
/-! ### What names nothing -/
section
variable {h t : Nat}
theorem c_Rno : cloR t .no = true := rfl
theorem c_Rfull : cloR t .full = true := rfl
theorem c_Rnil : cloR t .nil = true := rfl
theorem c_nil : cloL h t [] = true := rfl
theorem c_cons {v : AVal} {vs : List AVal} : cloL h t (v :: vs) = (clo h t v && cloL h t vs) := rfl
theorem c_append : ∀ {x y : List AVal}, cloL h t (x ++ y) = (cloL h t x && cloL h t y)
  | [], y => by simp [cloL]
  | v :: x, y => by simp [cloL, c_append (x := x) (y := y), Bool.and_assoc]
theorem c_ptr {b e o : Nat} : clo h t (.ptr b e o) = decide (b < h) := rfl
theorem c_msl {b e o n k : Nat} : clo h t (.msl b e o n k) = decide (b < h) := rfl
theorem c_map {b : Nat} : clo h t (.map b) = decide (b < h) := rfl
theorem c_no {n : Nat} {cs : List AVal} : clo h t (.sl .no n cs) = cloL h t cs := by simp [clo, cloR]
theorem c_full {n : Nat} {cs : List AVal} : clo h t (.sl .full n cs) = cloL h t cs := by simp [clo, cloR]
theorem c_slnil {n : Nat} {cs : List AVal} : clo h t (.sl .nil n cs) = cloL h t cs := by simp [clo, cloR]
theorem c_tpt {a b n : Nat} : clo h t (.tpt a b n) = decide (b < h) := rfl
theorem c_dpt {a : Nat} {cs : List AVal} : clo h t (.dpt a cs) = cloL h t cs := rfl
theorem c_tok {n i : Nat} {cs : List AVal} : clo h t (.sl (.tok i) n cs) = (decide (i < t) && cloL h t cs) := rfl
theorem c_ipt {o : Nat} {cs : List AVal} : clo h t (.ipt cs o) = cloL h t cs := rfl
theorem c_fn {f : FuncId} {a b : List AVal} : clo h t (.fn f a b) = (cloL h t a && cloL h t b) := rfl
theorem c_agg {cs : List AVal} : clo h t (.agg cs) = cloL h t cs := rfl
theorem c_int {k : IntKind} {n : Int} : clo h t (.int k n) = true := rfl
theorem c_bool {b : Bool} : clo h t (.bool b) = true := rfl
theorem c_str {s : List UInt8} : clo h t (.str s) = true := rfl
theorem c_dead : clo h t .dead = true := rfl
theorem c_undef : clo h t .undef = true := rfl
theorem c_nilp : clo h t .nilp = true := rfl
theorem c_nilm : clo h t .nilm = true := rfl
theorem c_nilf : clo h t .nilf = true := rfl
theorem c_nili : clo h t .nili = true := rfl
theorem c_ifc {ty : TypeId} {v : AVal} : clo h t (.ifc ty v) = clo h t v := rfl
theorem c_tup {a : AVal} {cs : List AVal} : clo h t (.tup a cs) = (clo h t a && cloL h t cs) := rfl
theorem c_fl {α : Type} {f : α → List AVal} (hs : ∀ x, stripL (f x) = some (f x)) {l : List α} : cloL h t (fl f l) = true := cloL_strip _ _ (fl_strip hs l)
theorem c_fl_tok {α : Type} {f : α → List AVal} (hs : ∀ x, cloL h t (f x) = true) : ∀ {l : List α}, cloL h t (fl f l) = true
  | [] => rfl
  | x :: l => by rw [fl_cons, c_append, hs x, c_fl_tok hs (l := l)]; rfl
theorem c_sl {r : Rt} {n : Nat} {cs ds : List AVal} (hr : cloR t r = true) (hs : stripL cs = some ds) (he : ds = cs) : clo h t (.sl r n cs) = true := by
  subst he; simp only [clo, hr, Bool.true_and]; exact cloL_strip _ _ hs
theorem c_okR {T : List (Nat × (Nat × Nat))} {r : Rt} {len : Nat} {sz : Nat × Nat} (hr : okR T r len sz = true) (ht : T.length ≤ t) : cloR t r = true := by
  cases r with
  | no => rfl
  | full => rfl
  | nil => rfl
  | tok i =>
    simp only [okR, beq_iff_eq] at hr
    have := (List.getElem?_eq_some_iff.1 hr).1
    simp [cloR]; omega
theorem c_E_nil : cloE h t [] = true := rfl
theorem c_E_cons {k : Nat} {v : AVal} {E : List (Nat × AVal)} : cloE h t ((k, v) :: E) = (clo h t v && cloE h t E) := rfl
theorem c_B {e : Nat} {cs : List AVal} : cloB h t (.cells e cs) = cloL h t cs := rfl
theorem c_M {es : List (AVal × AVal)} : cloB h t (.amap es) = es.all fun p => clo h t p.1 && clo h t p.2 := rfl
theorem c_set {A : Nat} : clo h t (setV A) = true := rfl
theorem c_setL {A : Nat} : cloL h t (setL A) = true := rfl
theorem c_slc {α : Type} {f : α → List AVal} (hs : ∀ x, stripL (f x) = some (f x)) {l : List α} : clo h t (slc f l) = true := by
  simp only [slc, c_no]; exact c_fl hs
end
end Go.Hk
namespace Go.Hk
/-! ### Appending to lists -/
section
variable {α : Type} {f : α → List AVal} {P : Program} {t t2 : TypeId} {e sz by_ : Nat} {H : List ABlk} {T : List (Nat × (Nat × Nat))} {r r' : Rt}
theorem app_gen {n k : Nat} {cs ds : List AVal} {x : AVal} (hA : appT P t t2 = some ⟨e, sz, by_⟩) (hby : by_ ≤ 4096) (hx : alist ⟨H, T⟩ x = some (k, ds)) (hd : ds.length = k * sz) (hr : okR T r cs.length (sz, e) = true) (hf : r = .full → n = 0 ∨ 0 < k) (h : cs.length = n * sz) (hn : n + k < 1000000000) :
    aappend P t t2 ⟨H, T⟩ (.sl r n cs) x = some (.sl (nxR T r) (n + k) (cs ++ ds), ⟨H, nxT T r (cs.length + ds.length) (sz, e)⟩) := by
  have h1 : (n + k) * by_ ≤ 140737488355328 := Nat.le_trans (Nat.mul_le_mul (show n + k ≤ 1000000000 by omega) hby) (by omega)
  simp only [aappend, hA, hx]
  rw [if_pos ⟨hd, h, h1, by omega, hr, hf⟩]
/-- One element more. -/
theorem app_fl {l : List α} {x : α} {ds : List AVal} (hA : appT P t t2 = some ⟨e, sz, by_⟩) (hby : by_ ≤ 4096) (hl : ∀ x, (f x).length = sz) (hx : ds = f x) (hr : okR T r (l.length * sz) (sz, e) = true) (hn : l.length + 1 < 1000000000) :
    aappend P t t2 ⟨H, T⟩ (.sl r l.length (fl f l)) (.sl r' 1 ds) = some (.sl (nxR T r) (l ++ [x]).length (fl f (l ++ [x])), ⟨H, nxT T r ((l ++ [x]).length * sz) (sz, e)⟩) := by
  subst hx
  have h1 := fl_len hl l
  rw [app_gen hA hby (x := .sl r' 1 (f x)) (k := 1) (ds := f x) rfl (by rw [hl]; omega) (by rw [h1]; exact hr) (fun _ => .inr (by omega)) h1 hn]
  rw [h1, hl, fl_append, fl_one, List.length_append, List.length_singleton, Nat.add_mul, Nat.one_mul]
/-- Many more. -/
theorem app_fls {l l' : List α} (hA : appT P t t2 = some ⟨e, sz, by_⟩) (hby : by_ ≤ 4096) (hl : ∀ x, (f x).length = sz) (hr : okR T r (l.length * sz) (sz, e) = true) (hf : r = .full → l.length = 0 ∨ 0 < l'.length) (hn : l.length + l'.length < 1000000000) :
    aappend P t t2 ⟨H, T⟩ (.sl r l.length (fl f l)) (.sl r' l'.length (fl f l')) = some (.sl (nxR T r) (l ++ l').length (fl f (l ++ l')), ⟨H, nxT T r ((l ++ l').length * sz) (sz, e)⟩) := by
  have h1 := fl_len hl l
  have h2 := fl_len hl l'
  rw [app_gen hA hby (x := .sl r' l'.length (fl f l')) (k := l'.length) (ds := fl f l') rfl h2 (by rw [h1]; exact hr) hf h1 hn]
  rw [h1, h2, fl_append, List.length_append, Nat.add_mul]
theorem app_fl1 {l : List α} {x : α} {ds : List AVal} (hA : appT P t t2 = some ⟨e, 1, by_⟩) (hby : by_ ≤ 4096) (hl : ∀ x, (f x).length = 1) (hx : ds = f x) (hr : okR T r l.length (1, e) = true) (hn : l.length + 1 < 1000000000) :
    aappend P t t2 ⟨H, T⟩ (.sl r l.length (fl f l)) (.sl r' 1 ds) = some (.sl (nxR T r) (l ++ [x]).length (fl f (l ++ [x])), ⟨H, nxT T r (l ++ [x]).length (1, e)⟩) := by
  rw [app_fl hA hby hl hx (by rw [Nat.mul_one]; exact hr) hn, Nat.mul_one]
theorem app_fls1 {l l' : List α} (hA : appT P t t2 = some ⟨e, 1, by_⟩) (hby : by_ ≤ 4096) (hl : ∀ x, (f x).length = 1) (hr : okR T r l.length (1, e) = true) (hf : r = .full → l.length = 0 ∨ 0 < l'.length) (hn : l.length + l'.length < 1000000000) :
    aappend P t t2 ⟨H, T⟩ (.sl r l.length (fl f l)) (.sl r' l'.length (fl f l')) = some (.sl (nxR T r) (l ++ l').length (fl f (l ++ l')), ⟨H, nxT T r (l ++ l').length (1, e)⟩) := by
  rw [app_fls hA hby hl (by rw [Nat.mul_one]; exact hr) hf hn, Nat.mul_one]
end
end Go.Hk
namespace Go.Hk
/-! ### Slices that are built -/
theorem setMany_at : ∀ (vs : List AVal) (pre cs rest : List AVal), cs.length = vs.length → setMany (pre ++ (cs ++ rest)) pre.length vs = pre ++ (vs ++ rest)
  | [], pre, cs, rest, h => by
    have := List.eq_nil_of_length_eq_zero h
    subst this; rfl
  | v :: vs, pre, c :: cs, rest, h => by
    have h2 : cs.length = vs.length := by simpa using h
    have := setMany_at vs (pre ++ [v]) cs rest h2
    simp only [List.length_append, List.length_singleton, List.append_assoc, List.singleton_append] at this
    simp only [setMany, List.cons_append]
    rw [show (pre ++ c :: (cs ++ rest)).set pre.length v = pre ++ v :: (cs ++ rest) by simp [List.set_append]]
    exact this
def parts : Nat → List AVal → List (Nat × AVal)
  | _, [] => []
  | k, v :: vs => (k, v) :: parts (k + 1) vs
/-- The cells of several values of one size. -/
def cellsAll (size : Nat) : List AVal → Option (List AVal)
  | [] => some []
  | v :: vs => match cellsOf v, cellsAll size vs with
    | some ds, some r => if ds.length = size then some (ds ++ r) else none
    | _, _ => none
theorem afill_seq {size : Nat} : ∀ (vs : List AVal) (k : Nat) (pre rest out : List AVal), cellsAll size vs = some out → pre.length = k * size → rest.length = vs.length * size →
    afill (fun i => some (i * size, size)) (pre ++ rest) (parts k vs) = some (pre ++ out)
  | [], k, pre, rest, out, h, hp, hr => by
    simp only [cellsAll, Option.some.injEq] at h
    subst h
    have : rest = [] := List.eq_nil_of_length_eq_zero (by simpa using hr)
    subst this; rfl
  | v :: vs, k, pre, rest, out, h, hp, hr => by
    simp only [cellsAll] at h
    split at h
    · rename_i ds r hds hvs
      split at h
      · rename_i hl
        cases h
        have hr1 : rest.length = size + vs.length * size := by rw [hr]; simp [Nat.add_mul, Nat.add_comm]
        have e1 : rest = rest.take size ++ rest.drop size := (List.take_append_drop size rest).symm
        simp only [parts, afill, hds]
        rw [if_pos ⟨hl, by simp [hp, hl]; omega⟩]
        have e2 := setMany_at ds pre (rest.take size) (rest.drop size) (by simp [hl]; omega)
        rw [← e1] at e2
        rw [← hp, e2, ← List.append_assoc]
        have := afill_seq vs (k + 1) (pre ++ ds) (rest.drop size) r hvs (by simp [hp, hl, Nat.add_mul]) (by simp; omega)
        rw [this, List.append_assoc]
      · cases h
    · cases h
theorem zeroRow_len (zs : List AVal) (n : Nat) : (zeroRow zs n).length = n := by simp [zeroRow]
section
variable {P : Program} {t e : TypeId} {I E : TI} {zs : List AVal} {m : AMem} {mu : Bool}
theorem build_seq {n : Nat} {vs out : List AVal} (hI : tiOf P t = some I) (hk : I.k = .slice e) (hE : tiOf P e = some E) (hz : E.zero.bind cellsOf = some zs) (hc : cellsAll E.size vs = some out) (hp : 0 < E.size ∧ zs.length = E.size) (hn : n = vs.length) (hb : n * E.size ≤ 16777216) :
    abuildSlice P mu m t n (parts 0 vs) = if mu && decide (1 < n) then some (.msl m.H.length (epo E.size) 0 n (n * E.size), { m with H := m.H ++ [.cells (epo E.size) out] }) else some (.sl .full n out, m) := by
  subst hn
  have := afill_seq (size := E.size) vs 0 [] (zeroRow zs (vs.length * E.size)) out hc (by simp) (zeroRow_len _ _)
  simp only [List.nil_append] at this
  simp only [abuildSlice, hI, hk, hE, hz]
  rw [if_pos ⟨hp.1, hp.2, hb⟩, this]
theorem build_one {v : AVal} {ds : List AVal} (hI : tiOf P t = some I) (hE : tiOf P e = some E) (hk : I.k = .slice e) (hv : cellsOf v = some ds) (hl : ds.length = E.size) (hz : E.zero.bind cellsOf = some zs) (hp : 0 < E.size ∧ zs.length = E.size) (hb : E.size ≤ 16777216) :
    abuildSlice P mu m t 1 [(0, v)] = some (.sl .full 1 ds, m) := by
  have := build_seq (mu := mu) (m := m) (vs := [v]) (out := ds) (n := 1) hI hk hE hz (by simp [cellsAll, hv, hl]) hp rfl (by omega)
  simpa [parts] using this
end
end Go.Hk
namespace Go.Hk
/-! ### Maps with keys and values of Lean's -/
section
variable {κ ν : Type} [DecidableEq κ] {kV : κ → AVal} {vV : ν → AVal}
variable {P : Program} {t kt et : TypeId} {I E : TI}
end
end Go.Hk
namespace Go.Hk
theorem l_setL {A : Nat} : List.take 4 (setL A) = setL A := nr rfl
theorem l_setL5 {A : Nat} {r : List AVal} : List.take 4 (setL A ++ r) = setL A := nr rfl
end Go.Hk
namespace Go.Hk
/-! ### Calls that look at what may be written -/
section
variable {imp : List AVal → Option AVal} {m : AMem} {args xs : List AVal} {b e n l o : Nat} {f : AVal → Option AVal} {v : AVal}
def cpV (imp : List AVal → Option AVal) (m : AMem) (s v : Option (List AVal)) : Option (AVal × AMem) :=
  match s with
  | some xs => pairO (imp xs) m
  | none => match v with
    | some xs => (match imp xs with | some r => if flat r = true then some (r, m) else none | none => none)
    | none => none
def flatO (m : AMem) (r : Option AVal) : Option (AVal × AMem) :=
  match r with
  | some r => if flat r = true then some (r, m) else none
  | none => none
theorem q_cp : cpO imp m none args = cpV imp m (stripL args) (optMap (view 8 m) args) := by
  simp only [cpO, callPure, cpV, pairO]
  cases h : stripL args with
  | none => simp only [h]; cases optMap (view 8 m) args <;> rfl
  | some xs => simp only [h]; cases imp xs <;> rfl
theorem q_cpv : cpV imp m none (some xs) = flatO m (imp xs) := by simp only [cpV, flatO]
theorem q_cps {y : Option (List AVal)} : cpV imp m (some xs) y = pairO (imp xs) m := rfl
theorem q_flat : flatO m (some v) = if flat v = true then some (v, m) else none := rfl
theorem q_nil : optMap f [] = some [] := rfl
theorem q_cons {vs : List AVal} : optMap f (v :: vs) = consO (f v) (optMap f vs) := by
  simp only [optMap, consO]; cases f v <;> cases optMap f vs <;> rfl
theorem q_consO {x : AVal} : consO none (some xs) = none := rfl
theorem q_consN {y : Option AVal} : consO y none = none := by cases y <;> rfl
def vO (k : Nat) (r : Option AVal) (m : AMem) (v : AVal) : Option AVal :=
  match r with
  | some u => some u
  | none => view (k + 1) m v
theorem q_view {k : Nat} : view (k + 1) m v = vO k (strip v) m v := by
  cases h : strip v with
  | none => rfl
  | some u => simp only [vO]; exact v_strip h
theorem q_viewO {r : Option AVal} : viewO r m v = vO 7 r m v := nr rfl
theorem q_vO {k : Nat} {u : AVal} : vO k (some u) m v = some u := nr rfl
theorem view_strips {k : Nat} {cs ds : List AVal} (h : stripL cs = some ds) : optMap (view k m) cs = some ds :=
  optMap_strip (f := view k m) cs ds h fun v u h => by cases k with | zero => exact h | succ k => exact v_strip h
/-- Not known. -/
def viewX (k : Nat) (m : AMem) (v : AVal) : Option AVal := vO k none m v
def viewN (k : Nat) (m : AMem) (v : AVal) (n : Nat) (ds : Option (List AVal)) : Option AVal :=
  match ds with
  | some ds => some (.sl .no n ds)
  | none => viewX k m v
def viewM (k : Nat) (m : AMem) (v : AVal) (e n l : Nat) (x : Option ABlk) : Option AVal :=
  match x with
  | some (.cells e' cs) => if e = e' ∧ l = cs.length then viewN k m v n (stripL cs) else viewX k m v
  | _ => viewX k m v
theorem q_msl {k : Nat} : vO k none m (.msl b e 0 n l) = viewM k m (.msl b e 0 n l) e n l m.H[b]? := by
  unfold viewM
  split
  · rename_i e' cs hb
    split
    · rename_i hc
      obtain ⟨rfl, rfl⟩ := hc
      cases hs : stripL cs with
      | none => rfl
      | some ds =>
        show view (k + 1) m (.msl b e 0 n cs.length) = _
        rw [view_msl_eq, hb]
        simp [view_strips hs, viewN]
    · rfl
  · rfl
theorem q_mslc {k : Nat} {cs : List AVal} {e' : Nat} : viewM k m v e n l (some (.cells e' cs)) = if e = e' ∧ l = cs.length then viewN k m v n (stripL cs) else viewX k m v := nr rfl
theorem q_mslv {k : Nat} {ds : List AVal} : viewN k m v n (some ds) = some (.sl .no n ds) := nr rfl
def viewQ (k : Nat) (m : AMem) (v : AVal) (o : Nat) (ds : Option (List AVal)) : Option AVal :=
  match ds with
  | some ds => some (.ipt ds o)
  | none => viewX k m v
def viewP (k : Nat) (m : AMem) (v : AVal) (e o : Nat) (x : Option ABlk) : Option AVal :=
  match x with
  | some (.cells e' cs) => if e = e' then viewQ k m v o (stripL cs) else viewX k m v
  | _ => viewX k m v
theorem view_ptr_eq {k b e o : Nat} : view (k + 1) m (.ptr b e o) = (match m.H[b]? with
    | some (.cells e' cs) => if e = e' then (match optMap (view k m) cs with | some ds => some (.ipt ds o) | none => none) else none
    | _ => none) := by simp only [view, strip]; rfl
theorem q_ptr {k : Nat} : vO k none m (.ptr b e o) = viewP k m (.ptr b e o) e o m.H[b]? := by
  unfold viewP
  split
  · rename_i e' cs hb
    split
    · rename_i hc
      subst hc
      cases hs : stripL cs with
      | none => rfl
      | some ds =>
        show view (k + 1) m (.ptr b e o) = _
        rw [view_ptr_eq, hb]
        simp [view_strips hs, viewQ]
    · rfl
  · rfl
theorem q_ptrc {k : Nat} {cs : List AVal} {e' : Nat} : viewP k m v e o (some (.cells e' cs)) = if e = e' then viewQ k m v o (stripL cs) else viewX k m v := nr rfl
theorem q_ptrv {k : Nat} {ds : List AVal} : viewQ k m v o (some ds) = some (.ipt ds o) := nr rfl
def tupO (x : Option AVal) (y : Option (List AVal)) : Option AVal :=
  match x, y with
  | some x, some y => some (.tup x y)
  | _, _ => none
theorem q_tup {k : Nat} {a : AVal} {vs : List AVal} : vO (k + 1) none m (.tup a vs) = tupO (vO k (strip a) m a) (optMap (view (k + 1) m) vs) := by
  have e : vO (k + 1) none m (.tup a vs) = tupO (view (k + 1) m a) (optMap (view (k + 1) m) vs) := by
    show view (k + 1 + 1) m _ = _
    cases h : strip (.tup a vs) with
    | none =>
      rw [view, h]
      simp only [tupO]
      cases view (k + 1) m a <;> cases optMap (view (k + 1) m) vs <;> rfl
    | some u =>
      rw [v_strip h]
      simp only [strip] at h
      split at h
      · rename_i x y hx hy
        cases h
        rw [v_strip hx, view_strips hy]; rfl
      · cases h
  rw [e, q_view]
theorem q_tupO {x : AVal} {y : List AVal} : tupO (some x) (some y) = some (.tup x y) := nr rfl
theorem q_agg {k : Nat} {vs : List AVal} : vO (k + 1) none m (.agg vs) = mapO .agg (optMap (view (k + 1) m) vs) := by
  show view (k + 1 + 1) m _ = _
  cases h : strip (.agg vs) with
  | none =>
    rw [view, h]
    simp only [mapO]
    cases optMap (view (k + 1) m) vs <;> rfl
  | some u =>
    rw [v_strip h]
    simp only [strip] at h
    split at h
    · rename_i ds hds
      cases h
      rw [view_strips hds]; rfl
    · cases h
def fnO (f : FuncId) (x y : Option (List AVal)) : Option AVal :=
  match x, y with
  | some x, some y => some (.fn f x y)
  | _, _ => none
theorem q_fn {k : Nat} {f : FuncId} {x y : List AVal} : vO (k + 1) none m (.fn f x y) = fnO f (optMap (view (k + 1) m) x) (optMap (view (k + 1) m) y) := by
  show view (k + 1 + 1) m _ = _
  cases h : strip (.fn f x y) with
  | none =>
    rw [view, h]
    simp only [fnO]
    cases optMap (view (k + 1) m) x <;> cases optMap (view (k + 1) m) y <;> rfl
  | some u =>
    rw [v_strip h]
    simp only [strip] at h
    split at h
    · rename_i ds es hds hes
      cases h
      rw [view_strips hds, view_strips hes]; rfl
    · cases h
theorem q_fnO {f : FuncId} {x y : List AVal} : fnO f (some x) (some y) = some (.fn f x y) := nr rfl
theorem q_mapN2 {f : List AVal → List AVal → AVal} {x : Option (List AVal)} : mapO2 f x none = none := by cases x <;> rfl
theorem q_mapN {f : List AVal → AVal} : mapO f none = none := nr rfl
theorem q_f_int {k : IntKind} {x : Int} : flat (.int k x) = true := rfl
theorem q_f_bool {x : Bool} : flat (.bool x) = true := rfl
theorem q_f_undef : flat .undef = true := rfl
theorem q_f_str {s : List UInt8} : flat (.str s) = true := rfl
end
end Go.Hk
namespace Go.Hk
/-! ### The commonest lists -/
theorem l_s_setL {l : List Nat} : stripL (fl setL l) = some (fl setL l) := fl_strip setL_strip l
theorem l_s_cI {l : List Int} : stripL (fl cI l) = some (fl cI l) := fl_strip cI_strip l
theorem l_s_cB {l : List Bool} : stripL (fl cB l) = some (fl cB l) := fl_strip cB_strip l
theorem l_s_c8 {l : List Nat} : stripL (fl c8 l) = some (fl c8 l) := fl_strip c8_strip l
theorem l_n_setL {l : List Nat} : (fl setL l).length = l.length * 4 := fl_len setL_len l
theorem l_n_cI {l : List Int} : (fl cI l).length = l.length := by rw [fl_len cI_len, Nat.mul_one]
theorem l_n_cB {l : List Bool} : (fl cB l).length = l.length := by rw [fl_len cB_len, Nat.mul_one]
theorem l_n_c8 {l : List Nat} : (fl c8 l).length = l.length := by rw [fl_len c8_len, Nat.mul_one]
theorem list_of {α : Type} {f : α → List AVal} {p : List AVal → Prop} {ok : α → Prop} (h : ∀ x, p x → ∃ a, ok a ∧ x = f a) : ∀ xs : List (List AVal), (∀ x ∈ xs, p x) → ∃ l : List α, l.length = xs.length ∧ xs.flatten = fl f l ∧ ∀ a ∈ l, ok a
  | [], _ => ⟨[], rfl, rfl, fun a h => by cases h⟩
  | x :: xs, hx => by
    obtain ⟨a, ha, rfl⟩ := h x (hx x (by simp))
    obtain ⟨l, h1, h2, h3⟩ := list_of h xs fun y hy => hx y (by simp [hy])
    exact ⟨a :: l, by simp [h1], by simp [fl, h2], fun b hb => by rcases List.mem_cons.1 hb with rfl | hb; exact ha; exact h3 b hb⟩
end Go.Hk
namespace Go.Hk
theorem okR_one {n : Nat} {z : Nat × Nat} : okR [(n, z)] (.tok 0) n z = true := by simp [okR]
theorem okR_new {T : List (Nat × (Nat × Nat))} {b : Nat} {sz : Nat × Nat} : okR (nxT T .full b sz) (nxR T .full) b sz = true := okR_nx (a := b) rfl
end Go.Hk
namespace Go.Hk
/-! ### Truths that are not known: rules of their own, for walks that part -/
section
variable {m : AMem} {t a b : Bool} {v : AVal}
theorem z_or : (if t = true then true else b) = (t || b) := by cases t <;> rfl
theorem z_and : (if t = true then b else false) = (t && b) := by cases t <;> rfl
theorem z_beq_t : (b == true) = b := by cases b <;> rfl
theorem z_beq_f : (b == false) = !b := by cases b <;> rfl
end
end Go.Hk
