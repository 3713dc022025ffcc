/- Walks over maps: range, next, entry, delete; and what is taken out of an interface. -/
import Derived.Test.YtojahfdjfacgaaaHkQ08
import Derived.Maps.RangeRun
set_option linter.unusedSimpArgs false
set_option linter.unusedVariables false
namespace Go.Hk
open Go.RowKit

/-- range over a map. -/
def arange (P : Program) (t : TypeId) (m : AMem) (x : AVal) : Option (AVal × AMem) :=
  match tiOf P t with
  | some I => (match I.k with
    | .map _ _ => (match x with
      | .map b => (match m.H[b]? with
        | some (.amap es) => some (.ptr m.H.length 0 0, { m with H := m.H ++ [.iter b es none] })
        | _ => none)
      | _ => none)
    | _ => none)
  | none => none

theorem arange_sound {P : Program} {γ : Ghost} (hr : Rl γ) {t : TypeId} {x v : AVal} {m' : AMem} {xu : Value} (h : arange P t γ.S x = some (v, m')) (hx : VR γ.cx x xu) :
    ∃ v' γ', (Instr.range t xu).run P γ.w = .ok v' γ'.w ∧ Ext γ γ' ∧ Rl γ' ∧ γ'.S = m' ∧ VR γ'.cx v v' := by
  unfold arange at h
  cases hI : tiOf P t with
  | none => simp [hI] at h
  | some I =>
    simp only [hI] at h
    obtain ⟨i, ds, hi⟩ := tiOf_spec hI
    have hkk := hi.k
    cases hq : I.k <;> simp only [hq, reduceCtorEq] at h
    rename_i kt et
    rw [hq] at hkk
    have := tk_map hkk; subst this
    cases x <;> simp only [reduceCtorEq] at h
    rename_i b
    cases hb : γ.S.H[b]? with
    | none => simp [hb] at h
    | some y =>
      cases y with
      | cells e cs => simp [hb] at h
      | iter _ _ _ => simp [hb] at h
      | loop _ _ _ _ _ _ _ => simp [hb] at h
      | amap es =>
        simp only [hb, Option.some.injEq, Prod.mk.injEq] at h
        obtain ⟨rfl, rfl⟩ := h
        obtain ⟨en, clk, h1, h2⟩ := hr.maps b es hb
        obtain ⟨l, hp, hal⟩ := h2.perm
        cases hx with
        | map _ g c hblk =>
          obtain ⟨y, hy, _, hy2⟩ := hblk
          rw [hb] at hy
          cases hy
          obtain ⟨hg, _⟩ := hy2 rfl
          subst hg
          have hrun := run_range_map (P := P) γ.w t kt et (γ.ι.h b) en clk hi.under h1
          have hpl : Rl (γ.push (.iter b es none) 0 0 (.mapIter (some (γ.ι.h b)) clk #[] clk)) := rl_push' hr ⟨_, _, _, _, rfl⟩
            ⟨es, en, clk, clk, #[], clk, hb, rfl, h1, h2.lt, Nat.le_refl _, Nat.le_refl _, ⟨l, by rw [List.filter_eq_self.2 (fun x _ => by simp)]; exact hp, hal⟩, trivial⟩
          exact ⟨_, γ.push (.iter b es none) 0 0 (.mapIter (some (γ.ι.h b)) clk #[] clk), hrun, ext_push, hpl, rfl, .ptr _ _ _ _ 0 (push_blk rfl)⟩

/-- What came last. -/
def aentry (m : AMem) (x : AVal) : Option AVal :=
  match x with
  | .ptr b 0 0 => (match m.H[b]? with
    | some (.iter _ _ (some p)) => some (.tup p.1 [p.2])
    | _ => none)
  | _ => none

theorem ptr_at {γ : Ghost} {b : Nat} {x : ABlk} {u : Value} (hb : γ.S.H[b]? = some x) (h0 : x.ep = 0) (hx : VR γ.cx (.ptr b 0 0) u) : u = .pointer (some ⟨γ.ι.h b, 0, none⟩) := by
  cases hx with
  | ptr _ _ _ g c hblk =>
    obtain ⟨z, hz, _, hz2⟩ := hblk
    rw [hb] at hz
    cases hz
    obtain ⟨rfl, _⟩ := hz2 h0.symm
    rfl

theorem vr_pair {κ : Cx} {a b : AVal} {u v : Value} (h : VR κ a u) (k : VR κ b v) : VR κ (.tup a [b]) (.tuple #[u, v]) :=
  .tup a [b] _ rfl fun j hj => by
    have hj2 : j < 2 := hj
    match j, hj2 with
    | 0, _ => exact h
    | 1, _ => exact k

theorem aentry_sound {P : Program} {γ : Ghost} (hr : Rl γ) {x v : AVal} {xu : Value} (h : aentry γ.S x = some v) (hx : VR γ.cx x xu) : ∃ v', (Instr.entry xu).run P γ.w = .ok v' γ.w ∧ VR γ.cx v v' := by
  unfold aentry at h
  split at h
  case h_2 => cases h
  rename_i b
  split at h
  case h_2 => cases h
  rename_i mb left p hb
  cases h
  have := ptr_at hb rfl hx
  subst this
  obtain ⟨es, en, clk, since, seen, c0, g1, g2, g3, g4⟩ := hr.its b mb left _ hb
  obtain ⟨e, he, seen0, rfl, rfl, k1, k2⟩ := g4.cur
  obtain ⟨en', clk', m1, m2⟩ := hr.maps mb es g1
  rw [g3] at m1
  cases m1
  exact ⟨_, run_entry_at γ.w _ _ since seen0 en c0 e g2 g3 he m2.born, vr_pair k1 k2⟩

/-- What next may give: nothing is left, or one of those left. -/
theorem next_sound {P : Program} {γ : Ghost} (hr : Rl γ) {b mb : Nat} {left : List (AVal × AVal)} {cur : Option (AVal × AVal)} (hb : γ.S.H[b]? = some (.iter mb left cur)) (ty : TypeId) :
    (left = [] ∧ (Instr.next (.pointer (some ⟨γ.ι.h b, 0, none⟩)) false ty).run P γ.w = .ok (.tuple #[.bool false]) γ.w) ∨
    ∃ (i : Nat) (hi : i < left.length) (γ' : Ghost) (k v : Value), (Instr.next (.pointer (some ⟨γ.ι.h b, 0, none⟩)) false ty).run P γ.w = .ok (.tuple #[.bool true, k, v]) γ'.w ∧ Ext γ γ' ∧ Rl γ' ∧
      γ'.S = { γ.S with H := γ.S.H.set b (.iter mb (left.eraseIdx i) (some left[i])) } ∧ VR γ'.cx left[i].1 k ∧ VR γ'.cx left[i].2 v := by
  obtain ⟨es, en, clk, since, seen, c0, g1, g2, g3, g4⟩ := hr.its b mb left cur hb
  obtain ⟨l, l1, l2⟩ := g4.left
  have hlo : (leftOf en seen).toList = en.toList.filter fun x => !seen.contains x.born := by simp [leftOf]
  rcases run_next_at (P := P) γ.w ty (γ.ι.h b) (γ.ι.h mb) since c0 seen en clk g2 g3 g4.old g4.sc with ⟨h0, hrun⟩ | ⟨e, he, w1, hw1, hrun⟩
  · left
    refine ⟨?_, hrun⟩
    have : (leftOf en seen).toList.length = 0 := by simpa using h0
    rw [hlo, ← l1.length_eq, l2.1] at this
    exact List.eq_nil_of_length_eq_zero this
  · right
    rw [hlo] at he
    obtain ⟨i, hi, rfl⟩ := List.mem_iff_getElem.1 (l1.mem_iff.2 he)
    have hil : i < left.length := by rw [← l2.1]; exact hi
    have hmem : l[i] ∈ en.toList := (List.mem_filter.1 he).1
    obtain ⟨en', clk', m1, m2⟩ := hr.maps mb es g1
    rw [g3] at m1
    cases m1
    have hg : Grow γ.w w1 := by rcases hw1 with rfl | rfl; exact Grow.refl _; exact Grow.drew _
    have hheap : w1.heap = γ.w.heap := by rcases hw1 with rfl | rfl <;> rfl
    have hr1 := rl_grow hr hg
    have he1 := ext_grow (γ := γ) hg
    have hmb : mb ≠ b := fun he => by subst he; rw [hb] at g1; cases g1
    have hnl : (l.map (·.born)).Nodup := by
      refine (l1.map _).nodup_iff.2 ?_
      exact List.Nodup.sublist (List.filter_sublist.map _) m2.born
    have hIR : IR γ.cx (left.eraseIdx i) (some left[i]) en clk since (seen.push l[i].born) clk := by
      refine ⟨g4.old, g4.sk, g4.sk, ⟨l.eraseIdx i, ?_, ?_⟩, l[i], hmem, seen, rfl, rfl, (l2.2 i hil hi).1, (l2.2 i hil hi).2⟩
      · have e1 : l.eraseIdx i = l.filter fun x => !(x.born == l[i].born) := erase_filter l i hi hnl
        have e2 : (en.toList.filter fun x => !(seen.push l[i].born).contains x.born) = (en.toList.filter fun x => !seen.contains x.born).filter fun x => !(x.born == l[i].born) := by
          rw [List.filter_filter]
          refine List.filter_congr fun x _ => ?_
          rw [Array.contains_push]
          cases seen.contains x.born <;> cases hh : (x.born == l[i].born) <;> simp_all
        rw [e1, e2]
        exact l1.filter _
      · refine ⟨by simp [List.length_eraseIdx, l2.1, hi, hil], fun j hj hj' => ?_⟩
        simp only [List.getElem_eraseIdx]
        split
        · rename_i hji
          exact l2.2 j (by omega) (by omega)
        · have h1 : j + 1 < left.length := by rw [List.length_eraseIdx, if_pos hil] at hj; omega
          exact l2.2 (j + 1) h1 (by rw [l2.1]; exact h1)
    have hb1 : ({ γ with w := w1 } : Ghost).S.H[b]? = some (.iter mb left cur) := hb
    have hm : Mset ({ γ with w := w1 } : Ghost).S.H b (.iter mb (left.eraseIdx i) (some left[i])) (γ.S.H.set b (.iter mb (left.eraseIdx i) (some left[i]))) := .put hb
    have hx2 := ext_mset (γ := { γ with w := w1 }) (o := .mapIter (some (γ.ι.h mb)) since (seen.push l[i].born) clk) hr1 hb1 rfl rfl hm
    have hr2 := rl_mset (γ := { γ with w := w1 }) (o := .mapIter (some (γ.ι.h mb)) since (seen.push l[i].born) clk) hr1 hb1 rfl rfl hm ⟨_, _, _, _, rfl⟩
      (fun mb' l' c' he => by
        cases he
        exact ⟨hmb, es, en, clk, since, _, clk, g1, rfl, by show w1.heap[_]? = _; rw [hheap]; exact g3, hIR.mono he1.le⟩)
      (fun x l' c c' hxb hx _ => by
        obtain ⟨es', en', clk', since', seen', c0', k1, _⟩ := hr.its x b l' c hx
        rw [hb] at k1; cases k1)
    refine ⟨i, hil, ({ γ with w := w1 } : Ghost).mset b (γ.S.H.set b (.iter mb (left.eraseIdx i) (some left[i]))) (.mapIter (some (γ.ι.h mb)) since (seen.push l[i].born) clk), l[i].key, l[i].val, ?_, he1.trans hx2, hr2, rfl, ((l2.2 i hil hi).1.ext he1).ext hx2, ((l2.2 i hil hi).2.ext he1).ext hx2⟩
    rw [hrun]
    rfl
where
  erase_filter (l : List MapEntry) (i : Nat) (hi : i < l.length) (hn : (l.map (·.born)).Nodup) : l.eraseIdx i = l.filter fun x => !(x.born == l[i].born) := by
    induction l generalizing i with
    | nil => simp at hi
    | cons a l ih =>
      simp only [List.map_cons, List.nodup_cons] at hn
      cases i with
      | zero =>
        simp only [List.eraseIdx_cons_zero, List.getElem_cons_zero, List.filter_cons, beq_self_eq_true, Bool.not_true, Bool.false_eq_true, if_false]
        refine (List.filter_eq_self.2 fun x hx => ?_).symm
        have : x.born ≠ a.born := fun he => hn.1 (he ▸ List.mem_map.2 ⟨x, hx, rfl⟩)
        simp [this]
      | succ i =>
        have hi' : i < l.length := by simpa using hi
        have hne : a.born ≠ l[i].born := fun he => hn.1 (he ▸ List.mem_map.2 ⟨l[i], List.getElem_mem hi', rfl⟩)
        have hb : (!(a.born == l[i].born)) = true := by simp [hne]
        simp only [List.eraseIdx_cons_succ, List.getElem_cons_succ, List.filter_cons, hb, if_true]
        rw [ih i hi' hn.2]

/-- Deleting a key. -/
def dcur1 (b : Nat) : ABlk → ABlk
  | .iter mb l c => if mb = b then .iter mb l none else .iter mb l c
  | x => x
def delOK1 (P : Program) (kt : TypeId) (b : Nat) (k : AVal) : ABlk → Bool
  | .iter mb l _ => mb != b || l.all fun e => aeq P 20 kt k e.1 == some false
  | _ => true
def adelete (P : Program) (t : TypeId) (m : AMem) (x k : AVal) : Option (AVal × AMem) :=
  match tiOf P t with
  | some I => (match I.k with
    | .map kt _ => (match x with
      | .map b => (match m.H[b]? with
        | some (.amap es) => if akey P 20 kt k = true ∧ m.H.all (delOK1 P kt b k) = true then (match afind P kt k es 0 with
          | some (some j) => some (.undef, { m with H := (m.H.map (dcur1 b)).set b (.amap (es.eraseIdx j)) })
          | some none => some (.undef, m)
          | none => none) else none
        | _ => none)
      | _ => none)
    | _ => none)
  | none => none

theorem Mset.del {H : List ABlk} {b : Nat} {y0 y : ABlk} (hb : H[b]? = some y0) : Mset H b y ((H.map (dcur1 b)).set b y) :=
  ⟨by simp, by rw [List.getElem?_set_self (by simpa using (List.getElem?_eq_some_iff.1 hb).1)], fun x hx => by
    rw [List.getElem?_set_ne (Ne.symm hx), List.getElem?_map]
    cases hh : H[x]? with
    | none => exact .inl rfl
    | some z =>
      cases z with
      | iter mb l c =>
        by_cases he : mb = b
        · subst he; exact .inr ⟨l, c, rfl, by simp [dcur1]⟩
        · exact .inl (by simp [dcur1, he])
      | _ => exact .inl (by simp [dcur1])⟩

theorem adelete_sound {P : Program} {γ : Ghost} (hr : Rl γ) {t t2 ty : TypeId} {x k v : AVal} {m' : AMem} {xu ku : Value} (h : adelete P t γ.S x k = some (v, m')) (hx : VR γ.cx x xu) (hk : VR γ.cx k ku) :
    ∃ v' γ', (Builtin.delete_ #[t, t2] ty #[xu, ku]).run P γ.w = .ok v' γ'.w ∧ Ext γ γ' ∧ Rl γ' ∧ γ'.S = m' ∧ VR γ'.cx v v' := by
  unfold adelete at h
  cases hI : tiOf P t with
  | none => simp [hI] at h
  | some I =>
    simp only [hI] at h
    obtain ⟨i, ds, hi⟩ := tiOf_spec hI
    have hkk := hi.k
    cases hq : I.k <;> simp only [hq, reduceCtorEq] at h
    rename_i kt et
    rw [hq] at hkk
    have := tk_map hkk; subst this
    cases x <;> simp only [reduceCtorEq] at h
    rename_i b
    cases hb : γ.S.H[b]? with
    | none => simp [hb] at h
    | some y =>
      cases y with
      | cells e cs => simp [hb] at h
      | iter _ _ _ => simp [hb] at h
      | loop _ _ _ _ _ _ _ => simp [hb] at h
      | amap es =>
        simp only [hb] at h
        split at h
        case isFalse => cases h
        rename_i hak
        obtain ⟨hak, hdel⟩ := hak
        obtain ⟨en, clk, h1, h2⟩ := hr.maps b es hb
        obtain ⟨l, hp, hal⟩ := h2.perm
        cases hx with
        | map _ g c hblk =>
          obtain ⟨y, hy, _, hy2⟩ := hblk
          rw [hb] at hy
          cases hy
          obtain ⟨hg, _⟩ := hy2 rfl
          subst hg
          obtain ⟨d, hd⟩ : ∃ d, P.underlying kt = some d := by
            unfold akey at hak
            cases hK : tiOf P kt with
            | none => simp [hK] at hak
            | some K => obtain ⟨_, d, hd⟩ := tiOf_spec hK; exact ⟨d, hd.under⟩
          have hc := akey_sound (κ := γ.cx) γ.w 20 kt k ku hak hk en.isEmpty 10000 (by omega)
          have hgo : (getObj (γ.ι.h b)).run P γ.w = .ok (.map en clk) γ.w := by simp [getObj, Sem.run, h1]
          have hso : ∀ o : Obj, (setObj (γ.ι.h b) o).run P γ.w = .ok () { γ.w with heap := γ.w.heap.setIfInBounds (γ.ι.h b) o } := fun o => by simp [setObj, Sem.run, h1]
          have hdef : ∀ u : Value, Builtin.delete_ #[t, t2] ty #[.map (some (γ.ι.h b)), u] = (do
              let .map keyType _ ← underlying t | stuck "delete: map type expected"
              let .map es clock ← getObj (γ.ι.h b) | stuck "delete: map expected"
              Instr.checkKey es.isEmpty 10000 keyType u
              match ← Instr.findKey keyType u es.toList with
              | some (i, _) => setObj (γ.ι.h b) (.map (es.eraseIdxIfInBounds i) clock)
              | none => setObj (γ.ι.h b) (.map es clock)
              pure (.tuple #[])) := fun u => rfl
          cases hfd : afind P kt k es 0 with
          | none => simp [hfd] at h
          | some r =>
            obtain ⟨hf, hf1, hf0⟩ := find_sound (κ := γ.cx) γ.w hd hk hfd hp h2.born hal
            simp only [hfd] at h
            cases r with
            | none =>
              simp only [Option.some.injEq, Prod.mk.injEq] at h
              obtain ⟨rfl, rfl⟩ := h
              have hf0 := hf0 rfl
              rw [hf0] at hf
              have hm : Mset γ.S.H b (.amap es) γ.S.H := ⟨rfl, hb, fun x _ => .inl rfl⟩
              refine ⟨.tuple #[], γ.mset b γ.S.H (.map en clk), ?_, ext_mset hr hb rfl rfl hm, rl_mset hr hb rfl rfl hm ⟨_, _, rfl, h2⟩ (fun _ _ _ h => by cases h) (fun x l c c' _ hx hx' => ?_), rfl, .undef⟩
              · rw [hdef]
                simp only [Sem.run_bind, hi.run_under γ.w, Result.andThen_ok, hgo, hc, hf, hso]
                rfl
              · rw [hx] at hx'
                cases hx'
                exact ⟨es, en, clk, rfl, rfl, fun en0 clk0 since seen c0 hh hI => by rw [h1] at hh; cases hh; exact hI⟩
            | some j =>
              obtain ⟨_, hjl⟩ := afind_ge es 0 j hfd
              have hj : j < es.length := by omega
              simp only [Option.some.injEq, Prod.mk.injEq] at h
              obtain ⟨rfl, rfl⟩ := h
              obtain ⟨hjl', q, k1, k2⟩ := hf1 j rfl
              rw [k1] at hf
              have hnl : (l.map (·.born)).Nodup := (hp.map _).nodup_iff.2 h2.born
              have hq : q < en.toList.length := (List.getElem?_eq_some_iff.1 k2).1
              have eq : en.toList[q] = l[j] := (List.getElem?_eq_some_iff.1 k2).2
              have hqs : q < en.size := by simpa using hq
              have ee : (en.eraseIdxIfInBounds q).toList = en.toList.filter fun x => !(x.born == l[j].born) := by
                rw [Array.eraseIdxIfInBounds_eq, dif_pos hqs, Array.toList_eraseIdx, ← eq]
                exact next_sound.erase_filter _ _ hq h2.born
              have el : l.eraseIdx j = l.filter fun x => !(x.born == l[j].born) := next_sound.erase_filter _ _ hjl' hnl
              have hMR : MR γ.cx (es.eraseIdx j) (en.eraseIdxIfInBounds q) clk := by
                refine ⟨?_, fun x hx => ?_, l.eraseIdx j, ?_, ?_⟩
                · rw [ee]; exact List.Nodup.sublist (List.filter_sublist.map _) h2.born
                · rw [ee] at hx; exact h2.lt x (List.mem_filter.1 hx).1
                · rw [ee, el]; exact hp.filter _
                · refine ⟨by simp [List.length_eraseIdx, hal.1, hj, hjl'], fun i hi hi' => ?_⟩
                  simp only [List.getElem_eraseIdx]
                  split
                  · exact hal.2 i (by omega) (by omega)
                  · have h1 : i + 1 < es.length := by rw [List.length_eraseIdx, if_pos hj] at hi; omega
                    exact hal.2 (i + 1) h1 (by rw [hal.1]; exact h1)
              have hm : Mset γ.S.H b (.amap (es.eraseIdx j)) ((γ.S.H.map (dcur1 b)).set b (.amap (es.eraseIdx j))) := .del hb
              refine ⟨.tuple #[], γ.mset b ((γ.S.H.map (dcur1 b)).set b (.amap (es.eraseIdx j))) (.map (en.eraseIdxIfInBounds q) clk), ?_, ext_mset hr hb rfl rfl hm, rl_mset hr hb rfl rfl hm ⟨_, _, rfl, hMR⟩ (fun _ _ _ h => by cases h) (fun x l' c c' hxb hx hx' => ?_), rfl, .undef⟩
              · rw [hdef]
                simp only [Sem.run_bind, hi.run_under γ.w, Result.andThen_ok, hgo, hc, hf, hso]
                rfl
              · have hc' : c' = none := by
                  rw [List.getElem?_set_ne (Ne.symm hxb), List.getElem?_map, hx] at hx'
                  simp [dcur1] at hx'
                  exact hx'.symm
                subst hc'
                refine ⟨_, _, _, rfl, rfl, fun en0 clk0 since seen c0 hh hI => ?_⟩
                rw [h1] at hh
                cases hh
                have hall := List.all_eq_true.1 hdel _ (List.mem_of_getElem? hx)
                simp only [delOK1, bne_self_eq_false, Bool.false_or, List.all_eq_true, beq_iff_eq] at hall
                obtain ⟨l2, p1, p2⟩ := hI.left
                have hkey : (Op.equal kt ku l[j].key).run P γ.w = .ok true γ.w := by
                  obtain ⟨bb, q1, q2⟩ := afind_dec es 0 (some j) hfd j hj
                  have : bb = true := q2.2 (by simp)
                  subst this
                  exact aeq_sound (κ := γ.cx) γ.w 20 kt k es[j].1 true ku _ q1 hk (hal.2 j hj hjl').1 10000 (by omega)
                have hnot : ∀ y ∈ l2, y ≠ l[j] := by
                  intro y hy he
                  obtain ⟨i, hi2, rfl⟩ := List.mem_iff_getElem.1 hy
                  have hil : i < l'.length := by rw [← p2.1]; exact hi2
                  have := aeq_sound (κ := γ.cx) γ.w 20 kt k l'[i].1 false ku _ (hall _ (List.getElem_mem hil)) hk (p2.2 i hil hi2).1 10000 (by omega)
                  rw [he] at this
                  have hkey' : (Op.equalIn 10000 kt ku l[j].key).run P γ.w = .ok true γ.w := hkey
                  rw [hkey'] at this
                  cases this
                refine ⟨fun y hy => ?_, hI.sc, hI.sk, ⟨l2, ?_, p2⟩, trivial⟩
                · rw [ee] at hy; exact hI.old y (List.mem_filter.1 hy).1
                · rw [ee, List.filter_filter]
                  have e3 : (en.toList.filter fun a => (!seen.contains a.born && !(a.born == l[j].born))) = en.toList.filter fun x => !seen.contains x.born := by
                    refine List.filter_congr fun z hz => ?_
                    cases hs : seen.contains z.born
                    · have hz2 : z ∈ l2 := p1.mem_iff.2 (List.mem_filter.2 ⟨hz, by rw [hs]; rfl⟩)
                      have hzl : z.born ≠ l[j].born := fun he => by
                        obtain ⟨i, hi2, hie⟩ := List.mem_iff_getElem.1 (hp.mem_iff.2 hz)
                        have : i = j := born_eq hnl hi2 hjl' (by rw [hie]; exact he)
                        subst this
                        exact hnot z hz2 hie.symm
                      simp [hzl]
                    · rfl
                  rw [e3]
                  exact p1

/-- What is taken out of an interface. -/
def tas (z : Option AVal) (x : AVal) (t : TypeId) (ok : Bool) : Option AVal :=
  match x with
  | .ifc t' v => if t' = t then some (if ok then .tup v [.bool true] else v) else if ok then z.map (fun z => .tup z [.bool false]) else none
  | .nili => if ok then z.map (fun z => .tup z [.bool false]) else none
  | _ => none
def atassert (P : Program) (x : AVal) (t : TypeId) (ok : Bool) : Option AVal :=
  match tiOf P t with
  | some I => (match I.k with
    | .iface => none
    | .other => none
    | _ => tas I.zero x t ok)
  | none => none
theorem atassert_sound {P : Program} {γ : Ghost} {x v : AVal} {xt t : TypeId} {ok : Bool} {xu : Value} (h : atassert P x t ok = some v) (hx : VR γ.cx x xu) : ∃ v', (Instr.typeAssert xu xt t ok).run P γ.w = .ok v' γ.w ∧ VR γ.cx v v' := by
  unfold atassert at h
  cases hI : tiOf P t with
  | none => simp [hI] at h
  | some I =>
    simp only [hI] at h
    obtain ⟨i, d, hi⟩ := tiOf_spec hI
    have hk := hi.k
    have hni : ∀ ms, d ≠ .interface ms := fun ms he => by subst he; rw [hk] at h; simp [tkOf] at h
    have zero : ∀ z, I.zero = some z → ∃ zv, (zeroValue t).run P γ.w = .ok zv γ.w ∧ VR γ.cx z zv := fun z hz => by
      obtain ⟨zv, hrz, hiz, rfl⟩ := hi.run_zero γ.w hz
      exact ⟨zv, hrz, VR.ofVal γ.cx zv⟩
    have h' : tas I.zero x t ok = some v := by
      clear hk hni zero
      revert h
      cases I.k <;> intro h <;> first | (cases h; done) | exact h
    cases x <;> simp only [tas, reduceCtorEq] at h'
    case ifc t' a =>
      cases hx with
      | ifc _ _ u hu =>
        by_cases he : t' = t
        · subst he
          simp only [if_true, Option.some.injEq] at h'
          cases ok with
          | false =>
            simp only [Bool.false_eq_true, if_false] at h'
            subst h'
            refine ⟨u, ?_, hu⟩
            cases d <;> first | exact absurd rfl (hni _) | simp [Instr.typeAssert, hi.run_under γ.w]
          | true =>
            simp only [if_true] at h'
            subst h'
            refine ⟨.tuple #[u, .bool true], ?_, vr_pair hu (.bool true)⟩
            cases d <;> first | exact absurd rfl (hni _) | simp [Instr.typeAssert, hi.run_under γ.w]
        · rw [if_neg he] at h'
          cases ok with
          | false => simp at h'
          | true =>
            simp only [if_true] at h'
            obtain ⟨z, hz, rfl⟩ := Option.map_eq_some_iff.1 h'
            obtain ⟨zv, r1, r2⟩ := zero z hz
            refine ⟨.tuple #[zv, .bool false], ?_, vr_pair r2 (.bool false)⟩
            cases d <;> first | exact absurd rfl (hni _) | simp [Instr.typeAssert, hi.run_under γ.w, he, r1]
    case nili =>
      cases hx
      cases ok with
      | false => simp at h'
      | true =>
        simp only [if_true] at h'
        obtain ⟨z, hz, rfl⟩ := Option.map_eq_some_iff.1 h'
        obtain ⟨zv, r1, r2⟩ := zero z hz
        refine ⟨.tuple #[zv, .bool false], ?_, vr_pair r2 (.bool false)⟩
        cases d <;> first | exact absurd rfl (hni _) | simp [Instr.typeAssert, hi.run_under γ.w, r1]
end Go.Hk
