/- Addresses, parts, slices, structs' values. -/
import Derived.Test.YtojahfdjfacgaaaHkQ03
namespace Go.Hk

def cellsOf : AVal → Option (List AVal)
  | .dead => none
  | .agg cs => some cs
  | .undef => none
  | .tup _ _ => none
  | v => some [v]

def setMany : List AVal → Nat → List AVal → List AVal
  | cs, _, [] => cs
  | cs, o, v :: vs => setMany (cs.set o v) (o + 1) vs

/-- An array that is what a list of cells says. -/
structure AR (κ : Cx) (cs : List AVal) (arr : Array Value) : Prop where
  size : arr.size = cs.length
  vr : ∀ (j : Nat) (h : j < cs.length), VR κ (cs[j]) (arr.getD j undef)
  one : ∀ j, j < cs.length → (arr.getD j undef).oneCell' = true

theorem length_setMany : ∀ (vs cs : List AVal) (o : Nat), (setMany cs o vs).length = cs.length
  | [], _, _ => rfl
  | _ :: vs, cs, o => by rw [setMany, length_setMany vs]; simp

theorem AR.set {κ : Cx} {cs : List AVal} {arr : Array Value} (h : AR κ cs arr) {o : Nat} {a : AVal} {v : Value} (hv : VR κ a v) (h1 : v.oneCell' = true) : AR κ (cs.set o a) (arr.setIfInBounds o v) := by
  have hs := h.size
  refine ⟨by simp [hs], fun j hj => ?_, fun j hj => ?_⟩
  · have hj' : j < cs.length := by simpa using hj
    by_cases he : o = j
    · subst he
      simp [Array.getD, hs, hj']
      exact hv
    · have := h.vr j hj'
      simp only [Array.getD_eq_getD_getElem?, Array.getElem?_setIfInBounds_ne he, List.getElem_set_ne he] at this ⊢
      exact this
  · have hj' : j < cs.length := by simpa using hj
    by_cases he : o = j
    · subst he
      simp [Array.getD, hs, hj']
      exact h1
    · have := h.one j hj'
      simp only [Array.getD_eq_getD_getElem?, Array.getElem?_setIfInBounds_ne he] at this ⊢
      exact this

theorem AR.mono {κ κ' : Cx} (hl : κ.le κ') {cs : List AVal} {arr : Array Value} (h : AR κ cs arr) : AR κ' cs arr := ⟨h.size, fun j hj => (h.vr j hj).mono hl, h.one⟩

theorem AR.single {κ : Cx} {a : AVal} {v : Value} (h : VR κ a v) (ho : v.oneCell' = true) : AR κ [a] #[v] :=
  ⟨rfl, fun j hj => by have : j = 0 := by simpa using hj
                       subst this; exact h, fun j hj => by have : j = 0 := by simpa using hj
                                                           subst this; exact ho⟩

theorem VR.cells {κ : Cx} {a : AVal} {v : Value} (h : VR κ a v) {cs : List AVal} (hc : cellsOf a = some cs) : AR κ cs v.cells := by
  have h' := h
  cases h <;> simp only [cellsOf, reduceCtorEq, Option.some.injEq] at hc <;> subst hc <;> first | exact AR.single h' rfl | (rename_i hs hv ho; exact ⟨hs, hv, ho⟩)

/-! ### Structs and arrays built -/

def afill (place : Nat → Option (Nat × Nat)) : List AVal → List (Nat × AVal) → Option (List AVal)
  | cells, [] => some cells
  | cells, (i, v) :: rest =>
    match place i, cellsOf v with
    | some (off, size), some vs => if vs.length = size ∧ off + vs.length ≤ cells.length then afill place (setMany cells off vs) rest else none
    | _, _ => none

theorem foldl_set {κ : Cx} (off : Nat) : ∀ (vs : List AVal) (ws : List Value) (j : Nat) (cs : List AVal) (arr : Array Value), ws.length = vs.length →
    (∀ (i : Nat) (h : i < vs.length), VR κ (vs[i]) (ws.getD i undef)) → (∀ i, i < vs.length → (ws.getD i undef).oneCell' = true) → AR κ cs arr →
    AR κ (setMany cs (off + j) vs) ((ws.zipIdx j).foldl (fun cs (p : Value × Nat) => cs.setIfInBounds (off + p.2) p.1) arr)
  | [], ws, j, cs, arr, hl, _, _, h => by
    cases ws with
    | nil => exact h
    | cons => simp at hl
  | v :: vs, [], j, cs, arr, hl, _, _, h => by simp at hl
  | v :: vs, u :: us, j, cs, arr, hl, hv, ho, h => by
    simp only [List.zipIdx_cons, List.foldl_cons, setMany]
    exact foldl_set off vs us (j + 1) _ _ (by simpa using hl) (fun i hi => hv (i + 1) (Nat.succ_lt_succ hi)) (fun i hi => ho (i + 1) (Nat.succ_lt_succ hi)) (h.set (hv 0 (Nat.zero_lt_succ _)) (ho 0 (Nat.zero_lt_succ _)))

theorem afill_sound {κ : Cx} {place : Nat → Option (Nat × Nat)} : ∀ (parts : List (Nat × AVal)) (ws : List (Nat × Value)) (cs : List AVal) (arr : Array Value) (out : List AVal),
    ws.length = parts.length → (∀ (i : Nat) (h : i < parts.length), ∃ v, ws[i]? = some ((parts[i]).1, v) ∧ VR κ (parts[i]).2 v) → AR κ cs arr → afill place cs parts = some out →
    ∃ arr', Instr.fill place arr ws = some arr' ∧ AR κ out arr'
  | [], ws, cs, arr, out, hl, _, h, hf => by
    cases ws with
    | nil => simp only [afill, Option.some.injEq] at hf; subst hf; exact ⟨arr, rfl, h⟩
    | cons => simp at hl
  | (i, v) :: rest, [], cs, arr, out, hl, _, _, _ => by simp at hl
  | (i, v) :: rest, (i', u) :: us, cs, arr, out, hl, hv, h, hf => by
    obtain ⟨u', hu, hvu⟩ := hv 0 (by simp)
    simp at hu
    obtain ⟨rfl, rfl⟩ := hu
    simp only [afill] at hf
    split at hf
    · rename_i off size vs hp hc
      split at hf
      · rename_i hcond
        have hcv := hvu.cells hc
        have h1 := foldl_set (κ := κ) off vs u.cells.toList 0 cs arr (by simpa using hcv.size) (fun j hj => by simpa [Array.getD_eq_getD_getElem?, List.getD_eq_getElem?_getD] using hcv.vr j hj) (fun j hj => by simpa [Array.getD_eq_getD_getElem?, List.getD_eq_getElem?_getD] using hcv.one j hj) h
        obtain ⟨arr', ha, hr⟩ := afill_sound rest us _ _ out (by simpa using hl) (fun j hj => by
          obtain ⟨z, hz, hz'⟩ := hv (j + 1) (by simpa using hj)
          exact ⟨z, by simpa using hz, by simpa using hz'⟩) h1 hf
        refine ⟨arr', ?_, hr⟩
        simp only [Instr.fill, hp]
        rw [if_neg (by
          have := hcv.size; have := h.size
          simp; omega)]
        rw [← ha, ← Array.foldl_toList, Array.toList_zipIdx]
      · cases hf
    · cases hf

def abuild (P : Program) (t : TypeId) (parts : List (Nat × AVal)) : Option AVal :=
  match tiOf P t with
  | some I =>
    match I.zero.bind cellsOf with
    | some zs =>
      match I.k with
      | .struct fs => if fs.all (fun f => (tiOf P f.2.1).isSome) then (afill (fun i => match fs[i]? with | some f => (tiOf P f.2.1).map fun F => (f.2.2, F.size) | none => none) zs parts).map .agg else none
      | .arr _ e => (match tiOf P e with | some E => (afill (fun i => some (i * E.size, E.size)) zs parts).map .agg | none => none)
      | _ => none
    | none => none
  | none => none

theorem run_places {P : Program} (w : World) : ∀ (fs : List Field), (∀ f ∈ fs, ∃ F, tiOf P f.type = some F) →
    ∃ ps : List (Nat × Nat), (fs.mapM (m := Sem) fun (f : Field) => do pure (f.offset, ← sizeOf f.type)).run P w = .ok ps w ∧
      ∀ (i : Nat), ps[i]? = (match (fs[i]? : Option Field) with | some f => (tiOf P f.type).map fun (F : TI) => (f.offset, F.size) | none => none)
  | [], _ => ⟨[], by simp, by simp⟩
  | f :: fs, h => by
    obtain ⟨F, hF⟩ := h f (by simp)
    obtain ⟨i, d, hi⟩ := tiOf_spec hF
    obtain ⟨ps, hps, hall⟩ := run_places w fs (fun g hg => h g (by simp [hg]))
    refine ⟨(f.offset, F.size) :: ps, by rw [List.mapM_cons]; simp only [Sem.run_bind, hi.run_size w, Result.andThen_ok, Sem.run_pure, hps], fun j => ?_⟩
    cases j with
    | zero => simp [hF]
    | succ j => simpa using hall j

section sound
variable {P : Program} {κ : Cx} (w : World)

theorem abuild_sound {t : TypeId} {parts : List (Nat × AVal)} {ws : List (Nat × Value)} {v : AVal} (hl : ws.length = parts.length) (hv : ∀ (i : Nat) (h : i < parts.length), ∃ v, ws[i]? = some ((parts[i]).1, v) ∧ VR κ (parts[i]).2 v) (h : abuild P t parts = some v) :
    ∃ v', (Instr.build t ws.toArray).run P w = .ok v' w ∧ VR κ v v' := by
  unfold abuild at h
  cases hI : tiOf P t with
  | none => simp [hI] at h
  | some I =>
    simp only [hI] at h
    obtain ⟨i, d, hi⟩ := tiOf_spec hI
    cases hz : I.zero with
    | none => simp [hz] at h
    | some z =>
      simp only [hz, Option.bind_some] at h
      cases hzc : cellsOf z with
      | none => simp [hzc] at h
      | some zs =>
        simp only [hzc] at h
        obtain ⟨zv, hrz, hiz, rfl⟩ := hi.run_zero w hz
        have hzr : AR κ zs zv.cells := (VR.ofVal κ zv).cells hzc
        have hk := hi.k
        cases hkk : I.k <;> simp only [hkk, reduceCtorEq] at h
        case struct fs =>
          rw [hkk] at hk
          obtain ⟨gs, rfl, rfl⟩ := tk_struct hk
          split at h
          case isFalse => cases h
          rename_i hall
          simp only [List.all_map, List.all_eq_true, Function.comp_apply, Option.isSome_iff_exists] at hall
          obtain ⟨out, ho, rfl⟩ := Option.map_eq_some_iff.1 h
          obtain ⟨ps, hps, hpl⟩ := run_places (P := P) w gs.toList hall
          have hpe : (fun i => match ((gs.toList.map fun f => (f.name != "_", f.type, f.offset))[i]? : Option (Bool × TypeId × Nat)) with | some f => (tiOf P f.2.1).map fun F => (f.2.2, F.size) | none => none) = fun (i : Nat) => ps[i]? := by
            funext j
            rw [hpl j, List.getElem?_map]
            cases gs.toList[j]? <;> rfl
          rw [hpe] at ho
          obtain ⟨arr, ha, hr⟩ := afill_sound parts ws zs zv.cells out hl hv hzr ho
          refine ⟨.agg arr, ?_, .agg _ _ hr.size hr.vr hr.one⟩
          have hm : (gs.mapM (m := Sem) fun f => do pure (f.offset, ← sizeOf f.type)).run P w = .ok ps.toArray w := by
            rw [← Array.toArray_toList (xs := gs), List.mapM_toArray, Sem.run_map, hps]
            rfl
          simp only [Instr.build, Sem.run_bind, hrz, hi.run_under w, Result.andThen_ok, hm]
          have hg : (fun (x : Nat) => ps.toArray[x]?) = fun (i : Nat) => ps[i]? := by funext j; simp
          simp only [hg, ha]
          rfl
        case arr n e =>
          rw [hkk] at hk
          have := tk_arr hk; subst this
          cases hE : tiOf P e with
          | none => simp [hE] at h
          | some E =>
            simp only [hE] at h
            obtain ⟨i', d', hi'⟩ := tiOf_spec hE
            obtain ⟨out, ho, rfl⟩ := Option.map_eq_some_iff.1 h
            obtain ⟨arr, ha, hr⟩ := afill_sound parts ws zs zv.cells out hl hv hzr ho
            refine ⟨.agg arr, ?_, .agg _ _ hr.size hr.vr hr.one⟩
            simp only [Instr.build, Sem.run_bind, hrz, hi.run_under w, Result.andThen_ok, hi'.run_size w, ha]
            rfl

end sound
end Go.Hk
