/- Memory that nobody names any more is let go. -/
import Derived.Test.YtojahfdjfacgaaaHkQ13
namespace Go.Hk

def cloR (t : Nat) : Rt → Bool
  | .tok i => decide (i < t)
  | .no => true
  | .full => true
  | .nil => true
mutual
/-- A value names no block from h on, and no token from t on. -/
def clo (h t : Nat) : AVal → Bool
  | .ptr b _ _ => decide (b < h)
  | .msl b _ _ _ _ => decide (b < h)
  | .map b => decide (b < h)
  | .sl r _ cs => cloR t r && cloL h t cs
  | .ipt cs _ => cloL h t cs
  | .fn _ a b => cloL h t a && cloL h t b
  | .ifc _ v => clo h t v
  | .agg cs => cloL h t cs
  | .tup a cs => clo h t a && cloL h t cs
  | .dead => true
  | .undef => true
  | .bool _ => true
  | .int _ _ => true
  | .str _ => true
  | .nilp => true
  | .nilm => true
  | .nilf => true
  | .nili => true
  | .dpt _ cs => cloL h t cs
  | .tpt _ b _ => decide (b < h)
  | .yld b => decide (b < h)
def cloL (h t : Nat) : List AVal → Bool
  | [] => true
  | v :: vs => clo h t v && cloL h t vs
end

theorem cloL_get {h t : Nat} : ∀ (cs : List AVal), cloL h t cs = true → ∀ (j : Nat) (hj : j < cs.length), clo h t cs[j] = true
  | [], _, j, hj => absurd hj (Nat.not_lt_zero j)
  | c :: cs, hc, j, hj => by
    simp only [cloL, Bool.and_eq_true] at hc
    cases j with
    | zero => exact hc.1
    | succ j => exact cloL_get cs hc.2 j (Nat.lt_of_succ_lt_succ hj)

mutual
/-- A value that bears no rights names nothing. -/
theorem clo_strip {h t : Nat} : ∀ (v u : AVal), strip v = some u → clo h t u = true
  | .sl r n cs, u, hu => by
    simp only [strip] at hu
    split at hu
    · rename_i ds hds; cases hu; simp only [clo, cloR, Bool.true_and]; exact cloL_strip cs ds hds
    · cases hu
  | .agg cs, u, hu => by
    simp only [strip] at hu
    split at hu
    · rename_i ds hds; cases hu; simp only [clo]; exact cloL_strip cs ds hds
    · cases hu
  | .ipt cs o, u, hu => by
    simp only [strip] at hu
    split at hu
    · rename_i ds hds; cases hu; simp only [clo]; exact cloL_strip cs ds hds
    · cases hu
  | .fn f a b, u, hu => by
    simp only [strip] at hu
    split at hu
    · rename_i x y hx hy; cases hu; simp only [clo, Bool.and_eq_true]; exact ⟨cloL_strip a x hx, cloL_strip b y hy⟩
    · cases hu
  | .ifc _ v, u, hu => by
    simp only [strip] at hu
    split at hu
    · rename_i x hx; cases hu; simp only [clo]; exact clo_strip v x hx
    · cases hu
  | .tup a cs, u, hu => by
    simp only [strip] at hu
    split at hu
    · rename_i x y hx hy; cases hu; simp only [clo, Bool.and_eq_true]; exact ⟨clo_strip a x hx, cloL_strip cs y hy⟩
    · cases hu
  | .ptr _ _ _, u, hu => by simp [strip] at hu
  | .msl _ _ _ _ _, u, hu => by simp [strip] at hu
  | .map _, u, hu => by simp [strip] at hu
  | .dpt _ _, u, hu => by simp [strip] at hu
  | .tpt _ _ _, u, hu => by simp [strip] at hu
  | .yld _, u, hu => by simp [strip] at hu
  | .dead, u, hu => by simp only [strip] at hu; cases hu; rfl
  | .undef, u, hu => by simp only [strip] at hu; cases hu; rfl
  | .bool _, u, hu => by simp only [strip] at hu; cases hu; rfl
  | .int _ _, u, hu => by simp only [strip] at hu; cases hu; rfl
  | .str _, u, hu => by simp only [strip] at hu; cases hu; rfl
  | .nilp, u, hu => by simp only [strip] at hu; cases hu; rfl
  | .nilm, u, hu => by simp only [strip] at hu; cases hu; rfl
  | .nilf, u, hu => by simp only [strip] at hu; cases hu; rfl
  | .nili, u, hu => by simp only [strip] at hu; cases hu; rfl
theorem cloL_strip {h t : Nat} : ∀ (vs us : List AVal), stripL vs = some us → cloL h t us = true
  | [], us, hu => by simp only [stripL] at hu; cases hu; rfl
  | v :: vs, us, hu => by
    simp only [stripL] at hu
    split at hu
    · rename_i x y hx hy; cases hu; simp only [cloL, Bool.and_eq_true]; exact ⟨clo_strip v x hx, cloL_strip vs y hy⟩
    · cases hu
end

/-- Only the first h blocks and t tokens are still owned. -/
def Ghost.cut (γ : Ghost) (h t : Nat) : Ghost := { γ with S := ⟨γ.S.H.take h, γ.S.T.take t⟩ }

section
variable {γ : Ghost} {h t : Nat}
theorem cut_H {b : Nat} (hb : b < h) : (γ.cut h t).S.H[b]? = γ.S.H[b]? := by simp [Ghost.cut, List.getElem?_take, hb]
theorem cut_T {i : Nat} (hi : i < t) : (γ.cut h t).S.T[i]? = γ.S.T[i]? := by simp [Ghost.cut, List.getElem?_take, hi]
theorem cut_H' {b : Nat} {x : ABlk} (hx : (γ.cut h t).S.H[b]? = some x) : b < h ∧ γ.S.H[b]? = some x := by
  simp only [Ghost.cut, List.getElem?_take] at hx
  split at hx
  · rename_i hb; exact ⟨hb, hx⟩
  · cases hx
theorem cut_T' {i : Nat} {x : Nat × (Nat × Nat)} (hx : (γ.cut h t).S.T[i]? = some x) : i < t ∧ γ.S.T[i]? = some x := by
  simp only [Ghost.cut, List.getElem?_take] at hx
  split at hx
  · rename_i hb; exact ⟨hb, hx⟩
  · cases hx
theorem cut_blk {b g : Nat} (hb : (γ.cut h t).blkOwns b g) : γ.blkOwns b g := ⟨by
  have := hb.1
  simp only [Ghost.cut, List.length_take] at this
  omega, hb.2⟩
theorem cut_tok {i g : Nat} (hb : (γ.cut h t).tokOwns i g) : i < t ∧ γ.tokOwns i g := by
  obtain ⟨tp, sz, h1, h2, h3⟩ := hb
  obtain ⟨k1, k2⟩ := cut_T' h1
  exact ⟨k1, tp, sz, k2, h2, h3⟩
theorem cut_owns {g : Nat} (ho : (γ.cut h t).owns g) : γ.owns g := by
  rcases ho with ⟨b, hb⟩ | ⟨i, hi⟩
  · exact .inl ⟨b, cut_blk hb⟩
  · exact .inr ⟨i, (cut_tok hi).2⟩
theorem cut_cell {g o : Nat} {v : Value} (hc : γ.cell g o v) : (γ.cut h t).cell g o v :=
  ⟨hc.1, hc.2.1, hc.2.2.1, fun b hb => hc.2.2.2.1 b (cut_blk hb), fun i hi => by
    obtain ⟨h1, h2⟩ := cut_tok hi
    obtain ⟨tp, sz, h3, h4⟩ := hc.2.2.2.2 i h2
    exact ⟨tp, sz, by rw [cut_T h1]; exact h3, h4⟩⟩
theorem cut_cxblk {b e g c : Nat} (hb : b < h) (hx : γ.cx.blk b e g c) : (γ.cut h t).cx.blk b e g c := by
  obtain ⟨x, h1, h2⟩ := hx
  exact ⟨x, by rw [cut_H hb]; exact h1, h2⟩
theorem cut_cxtip {i len : Nat} {base : Option Nat} {cap : Nat} (hi : i < t) (hx : γ.cx.tip i len base cap) : (γ.cut h t).cx.tip i len base cap := by
  obtain ⟨tp, sz, h1, h2⟩ := hx
  exact ⟨tp, sz, by rw [cut_T hi]; exact h1, h2⟩
theorem cut_rt {r : Rt} {n len : Nat} {base : Option Nat} {k cap : Nat} (hc : cloR t r = true) (hr : rtOK γ.cx r n len base k cap) : rtOK (γ.cut h t).cx r n len base k cap := by
  cases r with
  | no => trivial
  | full => exact hr
  | nil => exact hr
  | tok i => exact ⟨cut_cxtip (by simpa [cloR] using hc) hr.1, hr.2⟩

theorem VR.cut {a : AVal} {v : Value} (hv : VR γ.cx a v) : clo h t a = true → VR (γ.cut h t).cx a v := by
  induction hv with
  | dead v => exact fun _ => .dead v
  | undef => exact fun _ => .undef
  | bool b => exact fun _ => .bool b
  | int k n => exact fun _ => .int k n
  | str s => exact fun _ => .str s
  | nilp => exact fun _ => .nilp
  | ptr b e o g c hb => exact fun hc => .ptr b e o g c (cut_cxblk (by simpa [clo] using hc) hb)
  | ipt cs o g k f hcell _ ih =>
    intro hc
    simp only [clo] at hc
    exact .ipt cs o g k f (fun j hj => cut_cell (hcell j hj)) fun j hj => ih j hj (cloL_get cs hc j hj)
  | slz a cap => exact fun _ => .slz a cap
  | slnil r hr =>
    intro hc
    simp only [clo, Bool.and_eq_true] at hc
    exact .slnil r (cut_rt hc.1 hr)
  | sl r n cs g k cap f hn hcell _ hr ih =>
    intro hc
    simp only [clo, Bool.and_eq_true] at hc
    exact .sl r n cs g k cap f hn (fun j hj => cut_cell (hcell j hj)) (fun j hj => ih j hj (cloL_get cs hc.2 j hj)) (cut_rt hc.1 hr)
  | msl b e o n k g c cap hb hn ho => exact fun hc => .msl b e o n k g c cap (cut_cxblk (by simpa [clo] using hc) hb) hn ho
  | nilm => exact fun _ => .nilm
  | map b g c hb => exact fun hc => .map b g c (cut_cxblk (by simpa [clo] using hc) hb)
  | fn f first caps xs ys h1 h2 _ _ ih1 ih2 =>
    intro hc
    simp only [clo, Bool.and_eq_true] at hc
    exact .fn f first caps xs ys h1 h2 (fun j hj => ih1 j hj (cloL_get _ hc.1 j hj)) fun j hj => ih2 j hj (cloL_get _ hc.2 j hj)
  | nilf => exact fun _ => .nilf
  | dpz ty p => exact fun _ => .dpz ty p
  | dpt ty cs g f hcell _ ho ih =>
    intro hc
    simp only [clo] at hc
    exact .dpt ty cs g f (fun j hj => cut_cell (hcell j hj)) (fun j hj => ih j hj (cloL_get cs hc j hj)) ho
  | tpt ty b n g c hb ho => exact fun hc => .tpt ty b n g c (cut_cxblk (by simpa [clo] using hc) hb) ho
  | yld b g c hb => exact fun hc => .yld b g c (cut_cxblk (by simpa [clo] using hc) hb)
  | ifc ty a v _ ih => exact fun hc => .ifc ty a v (ih (by simpa [clo] using hc))
  | nili => exact fun _ => .nili
  | agg cs vs hs _ ho ih =>
    intro hc
    simp only [clo] at hc
    exact .agg cs vs hs (fun j hj => ih j hj (cloL_get cs hc j hj)) ho
  | tup a cs vs hs _ ih =>
    intro hc
    simp only [clo, Bool.and_eq_true] at hc
    refine .tup a cs vs hs fun j hj => ih j hj ?_
    have hl : cloL h t (a :: cs) = true := by simp only [cloL, Bool.and_eq_true]; exact hc
    exact cloL_get _ hl j hj
end

/-- A block names nothing that goes. -/
def cloB (h t : Nat) : ABlk → Bool
  | .cells _ cs => cloL h t cs
  | .amap es => es.all fun p => clo h t p.1 && clo h t p.2
  | .iter mb l c => decide (mb < h) && (l.all fun p => clo h t p.1 && clo h t p.2) && c.all fun p => clo h t p.1 && clo h t p.2
  | .loop _ _ _ _ _ env _ => env.all fun p => clo h t p.2

theorem AL.cut {γ : Ghost} {h t : Nat} {es : List (AVal × AVal)} {l : List MapEntry} (ha : AL γ.cx es l) (hc : (es.all fun p => clo h t p.1 && clo h t p.2) = true) : AL (γ.cut h t).cx es l :=
  ⟨ha.1, fun j hj hj' => by
    have := List.all_eq_true.1 hc _ (List.getElem_mem hj)
    simp only [Bool.and_eq_true] at this
    exact ⟨(ha.2 j hj hj').1.cut this.1, (ha.2 j hj hj').2.cut this.2⟩⟩
theorem ER.cut {γ : Ghost} {h t : Nat} {env : List (Nat × AVal)} {tmps : Array Value} (he : ER γ.cx env tmps) (hc : (env.all fun p => clo h t p.2) = true) : ER (γ.cut h t).cx env tmps := fun i => by
  refine (he i).cut ?_
  clear he
  induction env with
  | nil => rfl
  | cons p env ih =>
    obtain ⟨k, v⟩ := p
    simp only [List.all_cons, Bool.and_eq_true] at hc
    simp only [lk]
    split
    · exact hc.1
    · exact ih hc.2
theorem BR.cut {γ : Ghost} {h t c z : Nat} {x : ABlk} {o : Obj} (hb : BR γ.cx c z x o) (hc : cloB h t x = true) : BR (γ.cut h t).cx c z x o := by
  cases x with
  | cells e cs => obtain ⟨arr, ty, h1, h2, h3, h4, h5⟩ := hb; exact ⟨arr, ty, h1, h2, h3, fun j hj => (h4 j hj).cut (cloL_get cs hc j hj), h5⟩
  | amap es => obtain ⟨en, clk, h1, h2, h3, l, h4, h5⟩ := hb; exact ⟨en, clk, h1, h2, h3, l, h4, h5.cut hc⟩
  | iter mb l q => exact hb
  | loop st pend ps asg body env n => obtain ⟨r, h1, h2, h3, h4, h5, h6, h7, h8⟩ := hb; exact ⟨r, h1, h2, h3, h4, h5, h6, h7.cut hc, h8⟩

section
variable {γ : Ghost} {h t : Nat}
theorem rl_cut (hr : Rl γ) (hc : (γ.S.H.take h).all (cloB h t) = true) : Rl (γ.cut h t) where
  lo := hr.lo
  bad := hr.bad
  objs := fun b x hx => by
    have hm := List.all_eq_true.1 hc _ (List.mem_of_getElem? hx)
    obtain ⟨hb, hx⟩ := cut_H' hx
    obtain ⟨o, k1, k2⟩ := hr.objs b x hx
    exact ⟨o, k1, k2.cut hm⟩
  its := fun b mb left cur hx => by
    have hm := List.all_eq_true.1 hc _ (List.mem_of_getElem? hx)
    obtain ⟨hb, hx⟩ := cut_H' hx
    obtain ⟨es, en, clk, since, seen, c0, g1, g2, g3, g4⟩ := hr.its b mb left cur hx
    simp only [cloB, Bool.and_eq_true, decide_eq_true_eq] at hm
    obtain ⟨l, l1, l2⟩ := g4.left
    refine ⟨es, en, clk, since, seen, c0, (cut_H hm.1.1).trans g1, g2, g3, g4.old, g4.sc, g4.sk, ⟨l, l1, l2.cut hm.1.2⟩, ?_⟩
    have := g4.cur
    cases cur with
    | none => trivial
    | some p =>
      obtain ⟨x, a, s, b, c, d, e⟩ := this
      have h2 := hm.2
      simp only [Option.all_some, Bool.and_eq_true] at h2
      exact ⟨x, a, s, b, c, d.cut h2.1, e.cut h2.2⟩
  toks := fun i g hi => by
    obtain ⟨h1, h2⟩ := cut_tok hi
    obtain ⟨arr, lo, hi', tp, sz, k1, k2, k3, k4⟩ := hr.toks i g h2
    exact ⟨arr, lo, hi', tp, sz, k1, by rw [cut_T h1]; exact k2, k3, k4⟩
  own := fun g hg => hr.own g (cut_owns hg)
  hh := fun b b' g h1 h2 => hr.hh b b' g (cut_blk h1) (cut_blk h2)
  ht := fun b i g h1 h2 => hr.ht b i g (cut_blk h1) (cut_tok h2).2
  tt := fun i i' g h1 h2 => hr.tt i i' g (cut_tok h1).2 (cut_tok h2).2

theorem ext_cut {hk tk : Nat} (h1 : hk ≤ h) (h2 : tk ≤ t) : ExtN hk tk γ (γ.cut h t) where
  bad := rfl
  lo := rfl
  size := Nat.le_refl _
  os := rfl
  tape := rfl
  output := rfl
  cell := fun _ _ _ hc => cut_cell hc
  blk := fun _ _ _ _ hb hx => cut_cxblk (by omega) hx
  tip := fun _ _ _ _ hi hx => cut_cxtip (by omega) hx
  own := fun _ _ _ h => h
  frame := fun _ _ _ => .inl rfl
  owns := fun _ ho => .inl (cut_owns ho)
end

/-- A state of which less is known, and less owned. -/
structure Wm (s0 s : St) : Prop where
  m : s0.m = s.m ∨ (∃ G X, s.m = ⟨s0.m.H ++ G, s0.m.T ++ X⟩) ∧ s0.m.H.all (cloB s0.m.H.length s0.m.T.length) = true ∧ ∀ t, clo s0.m.H.length s0.m.T.length (lk s0.env t) = true
  le : ∀ t, lk s0.env t = lk s.env t ∨ lk s0.env t = .dead

theorem Holds.less {n hk tk : Nat} {γ : Ghost} {s0 s : St} {a : Act} (hw : Wm s0 s) (h1 : hk ≤ s0.m.H.length) (h2 : tk ≤ s0.m.T.length) (hh : Holds n γ s a) : ∃ γ', γ'.w = γ.w ∧ ExtN hk tk γ γ' ∧ Holds n γ' s0 a := by
  rcases hw.m with hm | ⟨⟨G, X, hm⟩, hB, hE⟩
  · refine ⟨γ, rfl, ExtN.refl γ, hh.rl, hh.m.trans hm.symm, fun t => ?_, hh.size⟩
    rcases hw.le t with h | h
    · rw [h]; exact hh.er t
    · rw [h]; exact .dead _
  · have hS : (γ.cut s0.m.H.length s0.m.T.length).S = s0.m := by
      have := hh.m
      simp only [Ghost.cut, this, hm, List.take_left']
    refine ⟨γ.cut s0.m.H.length s0.m.T.length, rfl, ext_cut h1 h2, rl_cut hh.rl ?_, hS, fun t => ?_, hh.size⟩
    · have := hh.m
      rw [this, hm]
      simpa only [List.take_left'] using hB
    · rcases hw.le t with h | h
      · have := hE t
        rw [h] at this ⊢
        exact (hh.er t).cut this
      · rw [h]; exact .dead _
end Go.Hk
