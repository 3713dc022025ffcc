/- Sets of places in memory: told up to order, and laid anew behind what came in. -/
import Derived.Test.YtdimacffjdpkfaaHkQ21
import Derived.Test.YtdimacffjdpkfaaHkQ20
import GoSem.Extern.MapsClone
set_option linter.unusedSimpArgs false
set_option linter.unusedVariables false
namespace Go.Hk
/-! ### Order does not count -/
theorem AL.uncons {κ : Cx} {e : AVal × AVal} {es : List (AVal × AVal)} {l : List MapEntry} (h : AL κ (e :: es) l) : ∃ a r, l = a :: r ∧ VR κ e.1 a.key ∧ VR κ e.2 a.val ∧ AL κ es r := by
  obtain ⟨h1, h2⟩ := h
  cases l with
  | nil => simp at h1
  | cons a r =>
    have h0 := h2 0 (by simp) (by simp)
    exact ⟨a, r, rfl, h0.1, h0.2, by simpa using h1, fun j hj hj' => h2 (j + 1) (by simpa using hj) (by simpa using hj')⟩
theorem AL.cons {κ : Cx} {e : AVal × AVal} {es : List (AVal × AVal)} {a : MapEntry} {l : List MapEntry} (h1 : VR κ e.1 a.key) (h2 : VR κ e.2 a.val) (h : AL κ es l) : AL κ (e :: es) (a :: l) := by
  refine ⟨by simp [h.1], fun j hj hj' => ?_⟩
  cases j with
  | zero => exact ⟨h1, h2⟩
  | succ j => exact h.2 j (by simpa using hj) (by simpa using hj')
theorem AL.perm {κ : Cx} {es es' : List (AVal × AVal)} (hp : es.Perm es') : ∀ l, AL κ es l → ∃ l', l'.Perm l ∧ AL κ es' l' := by
  induction hp with
  | nil => exact fun l h => ⟨l, .refl _, h⟩
  | cons e _ ih =>
    intro l h
    obtain ⟨a, r, rfl, h1, h2, h3⟩ := h.uncons
    obtain ⟨r', k1, k2⟩ := ih r h3
    exact ⟨a :: r', k1.cons a, k2.cons h1 h2⟩
  | swap e f es =>
    intro l h
    obtain ⟨a, r, rfl, h1, h2, h3⟩ := h.uncons
    obtain ⟨b, r, rfl, k1, k2, k3⟩ := h3.uncons
    exact ⟨b :: a :: r, .swap _ _ _, (k3.cons h1 h2).cons k1 k2⟩
  | trans _ _ ih1 ih2 =>
    intro l h
    obtain ⟨l1, h1, h2⟩ := ih1 l h
    obtain ⟨l2, k1, k2⟩ := ih2 l1 h2
    exact ⟨l2, k1.trans h1, k2⟩
theorem MR.of_perm {κ : Cx} {es es' : List (AVal × AVal)} {en : Array MapEntry} {clk : Nat} (hp : es.Perm es') (h : MR κ es en clk) : MR κ es' en clk := by
  obtain ⟨l, h1, h2⟩ := h.perm
  obtain ⟨l', k1, k2⟩ := AL.perm hp l h2
  exact ⟨h.born, h.lt, l', k1.trans h1, k2⟩
def Ghost.perm (γ : Ghost) (b : Nat) (es : List (AVal × AVal)) : Ghost := { γ with S := ⟨γ.S.H.set b (.amap es), γ.S.T⟩ }
section
variable {γ : Ghost} {b : Nat} {es es' : List (AVal × AVal)}
theorem perm_H (hb : γ.S.H[b]? = some (.amap es)) {x : Nat} {y : ABlk} (hx : (γ.perm b es').S.H[x]? = some y) : (x = b ∧ y = .amap es') ∨ (x ≠ b ∧ γ.S.H[x]? = some y) := by
  simp only [Ghost.perm, List.getElem?_set] at hx
  split at hx
  · rename_i h
    split at hx
    · cases hx; exact .inl ⟨h.symm, rfl⟩
    · cases hx
  · rename_i h; exact .inr ⟨fun e => h e.symm, hx⟩
theorem perm_H2 (hb : γ.S.H[b]? = some (.amap es)) {x : Nat} (hx : x ≠ b) : (γ.perm b es').S.H[x]? = γ.S.H[x]? := by
  simp only [Ghost.perm, List.getElem?_set, if_neg (Ne.symm hx)]
theorem perm_H3 (hb : γ.S.H[b]? = some (.amap es)) : (γ.perm b es').S.H[b]? = some (.amap es') := by
  simp only [Ghost.perm, List.getElem?_set, if_true, (List.getElem?_eq_some_iff.1 hb).1]
theorem perm_blkOwns {x g : Nat} : (γ.perm b es').blkOwns x g ↔ γ.blkOwns x g := by simp [Ghost.blkOwns, Ghost.perm]
theorem perm_owns {g : Nat} : (γ.perm b es').owns g ↔ γ.owns g := by
  simp only [Ghost.owns, perm_blkOwns]
  exact Iff.rfl
theorem perm_le (hb : γ.S.H[b]? = some (.amap es)) : γ.cx.le (γ.perm b es').cx where
  cell := fun g o v hc => ⟨hc.1, hc.2.1, hc.2.2.1, fun b hb => hc.2.2.2.1 b (perm_blkOwns.1 hb), hc.2.2.2.2⟩
  blk := fun x e g c ⟨y, h1, h2, h3⟩ => by
    by_cases hx : x = b
    · subst hx
      rw [hb] at h1
      cases h1
      exact ⟨.amap es', perm_H3 hb, h2, h3⟩
    · exact ⟨y, (perm_H2 hb hx).trans h1, h2, h3⟩
  tip := fun _ _ _ _ h => h
  own := fun _ _ _ h => h
theorem rl_perm (hr : Rl γ) (hb : γ.S.H[b]? = some (.amap es)) (hp : es.Perm es') : Rl (γ.perm b es') where
  lo := hr.lo
  bad := hr.bad
  objs := fun x y hx => by
    rcases perm_H hb hx with ⟨rfl, rfl⟩ | ⟨_, hx⟩
    · obtain ⟨en, clk, h1, h2⟩ := hr.maps x es hb
      exact ⟨_, h1, en, clk, rfl, (h2.of_perm hp).mono (perm_le hb)⟩
    · obtain ⟨o, h1, h2⟩ := hr.objs x y hx
      exact ⟨o, h1, h2.mono (perm_le hb)⟩
  its := fun x mb left cur hx => by
    rcases perm_H hb hx with ⟨_, h⟩ | ⟨_, hx⟩
    · cases h
    · obtain ⟨es1, en, clk, since, seen, c0, g1, g2, g3, g4⟩ := hr.its x mb left cur hx
      by_cases hm : mb = b
      · subst hm
        exact ⟨es', en, clk, since, seen, c0, perm_H3 hb, g2, g3, g4.mono (perm_le hb)⟩
      · exact ⟨es1, en, clk, since, seen, c0, (perm_H2 hb hm).trans g1, g2, g3, g4.mono (perm_le hb)⟩
  toks := hr.toks
  own := fun g hg => hr.own g (perm_owns.1 hg)
  hh := fun x y g h1 h2 => hr.hh x y g (perm_blkOwns.1 h1) (perm_blkOwns.1 h2)
  ht := fun x t g h1 h2 => hr.ht x t g (perm_blkOwns.1 h1) h2
  tt := hr.tt
theorem ext_perm (hb : γ.S.H[b]? = some (.amap es)) : Ext γ (γ.perm b es') where
  bad := rfl
  lo := rfl
  size := Nat.le_refl _
  os := rfl
  tape := rfl
  output := rfl
  cell := (perm_le hb).cell
  blk := (perm_le hb).blk
  tip := fun _ _ _ _ h => h
  own := fun _ _ _ h => h
  frame := fun _ _ _ => .inl rfl
  owns := fun k h => .inl (perm_owns.1 h)
end
/-! ### A map's block is laid anew, right behind the first n -/
def Ghost.adopt (γ : Ghost) (g : Nat) (es : List (AVal × AVal)) : Ghost :=
  { γ with S := ⟨γ.S.H ++ [.amap es], γ.S.T⟩, ι := { γ.ι with h := fun b => if b = γ.S.H.length then g else γ.ι.h b } }
section
variable {γ : Ghost} {g : Nat} {es : List (AVal × AVal)} {en : Array MapEntry} {clk : Nat}
theorem adopt_H {x : Nat} (hx : x < γ.S.H.length) : (γ.adopt g es).S.H[x]? = γ.S.H[x]? := List.getElem?_append_left hx
theorem adopt_H' {x : Nat} {y : ABlk} (h : (γ.adopt g es).S.H[x]? = some y) : (x = γ.S.H.length ∧ y = .amap es) ∨ (x < γ.S.H.length ∧ γ.S.H[x]? = some y) := by
  simp only [Ghost.adopt] at h
  by_cases hx : x < γ.S.H.length
  · rw [List.getElem?_append_left hx] at h; exact .inr ⟨hx, h⟩
  · rw [List.getElem?_append_right (by omega)] at h
    have : x - γ.S.H.length = 0 := by
      rcases Nat.eq_zero_or_pos (x - γ.S.H.length) with h0 | h0
      · exact h0
      · rw [List.getElem?_eq_none (by simp; omega)] at h; cases h
    rw [this] at h
    cases h
    exact .inl ⟨by omega, rfl⟩
theorem adopt_h {x : Nat} (hx : x < γ.S.H.length) : (γ.adopt g es).ι.h x = γ.ι.h x := by simp [Ghost.adopt, Nat.ne_of_lt hx]
theorem adopt_blk {x k : Nat} (h : (γ.adopt g es).blkOwns x k) : (x = γ.S.H.length ∧ k = g) ∨ γ.blkOwns x k := by
  obtain ⟨h1, h2⟩ := h
  simp only [Ghost.adopt, List.length_append, List.length_singleton] at h1 h2
  split at h2
  · rename_i h; exact .inl ⟨h, h2.symm⟩
  · exact .inr ⟨by omega, h2⟩
theorem adopt_owns {k : Nat} (h : (γ.adopt g es).owns k) : k = g ∨ γ.owns k := by
  rcases h with ⟨b, hb⟩ | ⟨t, ht⟩
  · rcases adopt_blk hb with ⟨_, h⟩ | h
    · exact .inl h
    · exact .inr (.inl ⟨b, h⟩)
  · exact .inr (.inr ⟨t, ht⟩)
theorem adopt_le (hg : γ.w.heap[g]? = some (.map en clk)) : γ.cx.le (γ.adopt g es).cx where
  cell := fun q o v hc => ⟨hc.1, hc.2.1, hc.2.2.1, fun b hb => by
    rcases adopt_blk hb with ⟨_, rfl⟩ | h
    · have := hc.1
      simp [World.cell?, hg] at this
    · exact hc.2.2.2.1 b h, hc.2.2.2.2⟩
  blk := fun x e q c ⟨y, h1, h2, h3⟩ => by
    have hx := (List.getElem?_eq_some_iff.1 h1).1
    exact ⟨y, (adopt_H hx).trans h1, h2, fun he => ⟨(adopt_h hx).trans (h3 he).1, (h3 he).2⟩⟩
  tip := fun _ _ _ _ h => h
  own := fun _ _ _ h => h
theorem rl_adopt (hr : Rl γ) (hg : γ.w.heap[g]? = some (.map en clk)) (hm : MR γ.cx es en clk) (hlo : γ.lo ≤ g) (hno : ¬ γ.owns g) : Rl (γ.adopt g es) where
  lo := hr.lo
  bad := hr.bad
  objs := fun x y hx => by
    rcases adopt_H' hx with ⟨rfl, rfl⟩ | ⟨hl, hx⟩
    · exact ⟨_, by show γ.w.heap[if _ = _ then _ else _]? = _; rw [if_pos rfl]; exact hg, en, clk, rfl, hm.mono (adopt_le hg)⟩
    · obtain ⟨o, h1, h2⟩ := hr.objs x y hx
      exact ⟨o, by rw [adopt_h hl]; exact h1, h2.mono (adopt_le hg)⟩
  its := fun x mb left cur hx => by
    rcases adopt_H' hx with ⟨_, h⟩ | ⟨hl, hx⟩
    · cases h
    · obtain ⟨es1, en1, clk1, since, seen, c0, g1, g2, g3, g4⟩ := hr.its x mb left cur hx
      have hmb := (List.getElem?_eq_some_iff.1 g1).1
      exact ⟨es1, en1, clk1, since, seen, c0, (adopt_H hmb).trans g1, by rw [adopt_h hl, adopt_h hmb]; exact g2, by rw [adopt_h hmb]; exact g3, g4.mono (adopt_le hg)⟩
  toks := hr.toks
  own := fun k hk => by
    rcases adopt_owns hk with rfl | h
    · exact ⟨hlo, (Array.getElem?_eq_some_iff.1 hg).1⟩
    · exact hr.own k h
  hh := fun x y k h1 h2 => by
    rcases adopt_blk h1 with ⟨e1, f1⟩ | g1 <;> rcases adopt_blk h2 with ⟨e2, f2⟩ | g2
    · rw [e1, e2]
    · rw [f1] at g2; exact (hno (.inl ⟨_, g2⟩)).elim
    · rw [f2] at g1; exact (hno (.inl ⟨_, g1⟩)).elim
    · exact hr.hh x y k g1 g2
  ht := fun x t k h1 h2 => by
    rcases adopt_blk h1 with ⟨_, rfl⟩ | h1
    · exact hno (.inr ⟨t, h2⟩)
    · exact hr.ht x t k h1 h2
  tt := hr.tt
end
/-! ### Sets -/
def sents (ks : List Nat) : List (AVal × AVal) := ks.map fun k => (.int .i64 ((k : Nat) : Int), .agg [])
theorem sents_clo {ks : List Nat} {h t : Nat} : (sents ks).all (fun p => clo h t p.1 && clo h t p.2) = true := by
  simp only [sents, List.all_map, List.all_eq_true]
  intro x _
  simp [clo, cloL]
theorem sents_cloB {ks : List Nat} {h t : Nat} : cloB h t (.amap (sents ks)) = true := sents_clo
theorem sents_perm {ks os : List Nat} (h : ks.Perm os) : (sents ks).Perm (sents os) := h.map _
/-- A set, laid behind what came in; others of its kind may lie beside it. -/
def SetOf (G : List ABlk) (T : List (Nat × (Nat × Nat))) (ks : List Nat) (r : AVal) (m : AMem) : Prop :=
  ∃ j L os, r = .map (G.length + j) ∧ m = ⟨G ++ L, T⟩ ∧ L[j]? = some (.amap (sents os)) ∧ os.Perm ks
/-- A set that came in is another one now. -/
def SetAt (G : List ABlk) (T : List (Nat × (Nat × Nat))) (b : Nat) (ks : List Nat) (r0 r : AVal) (m : AMem) : Prop :=
  strip r0 = some r ∧ ∃ L os, m = ⟨G.set b (.amap (sents os)) ++ L, T⟩ ∧ os.Perm ks
section
variable {P : Program} {Γ : Gam} {mu : Bool} {G : List ABlk} {T : List (Nat × (Nat × Nat))} {ks : List Nat}
theorem RCall.of_wset {f : FuncId} {fn : Func} {c : Code} {args : List AVal} (hs : shut ⟨G, T⟩ = true) (hΓ : Sound P Γ) (hm : P.follows .mixedOrders = true) (hf : P.funcs[f]? = some fn) (hb : fn.body = some c) (hen : enterable P f = true) (hn : args.length ≤ fn.ntmps) (hok : codeOKx Γ mu fn.ntmps c = true)
    (h : W P Γ mu G.length T.length c (FnQ P fn.results.toList fun r0 s => SetOf G T ks r0 s.m) ⟨envFrom 0 args, ⟨G, T⟩⟩) : RCall P f args ⟨G, T⟩ (.map G.length) ⟨G ++ [.amap (sents ks)], T⟩ := by
  refine ⟨hen, fun γ vals hr hmm hv => calls_of_awp hf hb (enter_holds hr hmm hv hn) (AWp.w hΓ hm c _ _ hok h) fun γ' s' r0 u hr' hm' he hrr hvr => ?_⟩
  obtain ⟨j, L, os, rfl, hS, hj, hp⟩ := hrr
  rw [hS] at hm'
  have hjl := (List.getElem?_eq_some_iff.1 hj).1
  have hk : γ'.S.H[G.length + j]? = some (.amap (sents os)) := by rw [hm']; rw [List.getElem?_append_right (by omega), Nat.add_sub_cancel_left]; exact hj
  have hcS : (γ'.cut G.length T.length).S = ⟨G, T⟩ := by simp only [Ghost.cut, hm', List.take_left', List.take_length]
  have hcr : Rl (γ'.cut G.length T.length) := rl_cut hr' (by rw [hm', List.take_left' rfl]; exact hs)
  obtain ⟨en, clk, h1, h2⟩ := hr'.maps _ _ hk
  have hown : γ'.owns (γ'.ι.h (G.length + j)) := .inl ⟨_, by rw [hm']; simp; omega, rfl⟩
  obtain ⟨hlo, hsz⟩ := hr'.own _ hown
  have hno : ¬ (γ'.cut G.length T.length).owns (γ'.ι.h (G.length + j)) := by
    rintro (⟨b, h1, h2⟩ | ⟨t, ht⟩)
    · have h1' : b < G.length := by rw [hcS] at h1; exact h1
      have := hr'.hh b (G.length + j) _ ⟨by rw [hm']; simp; omega, h2⟩ ⟨by rw [hm']; simp; omega, rfl⟩
      omega
    · exact hr'.ht _ t _ ⟨by rw [hm']; simp; omega, rfl⟩ (cut_tok ht).2
  have hmr : MR (γ'.cut G.length T.length).cx (sents ks) en clk := by
    obtain ⟨l, k1, k2⟩ := (h2.of_perm (sents_perm hp)).perm
    exact ⟨h2.born, h2.lt, l, k1, k2.cut sents_clo⟩
  have hle := adopt_le (γ := γ'.cut G.length T.length) (es := sents ks) h1
  have e1 : ExtN G.length T.length γ (γ'.cut G.length T.length) := he.trans (ext_cut (Nat.le_refl _) (Nat.le_refl _))
  have e2 : ExtN γ.S.H.length γ.S.T.length γ ((γ'.cut G.length T.length).adopt (γ'.ι.h (G.length + j)) (sents ks)) := by
    rw [hmm]
    exact { bad := e1.bad, lo := e1.lo, size := e1.size, os := e1.os, tape := e1.tape, output := e1.output
            cell := fun _ _ _ h => hle.cell _ _ _ (e1.cell _ _ _ h), blk := fun _ _ _ _ hb h => hle.blk _ _ _ _ (e1.blk _ _ _ _ hb h)
            tip := fun _ _ _ _ hb h => hle.tip _ _ _ _ (e1.tip _ _ _ _ hb h), own := fun _ _ _ h => hle.own _ _ _ (e1.own _ _ _ h), frame := e1.frame
            owns := fun k hk => by
              rcases adopt_owns hk with rfl | h
              · exact he.owns _ hown
              · exact e1.owns k h }
  have hlen : (γ'.cut G.length T.length).S.H.length = G.length := by rw [hcS]
  refine ⟨u, (γ'.cut G.length T.length).adopt (γ'.ι.h (G.length + j)) (sents ks), rfl, rfl, by simp only [Ghost.adopt, hcS], ExtN.full e2, rl_adopt hcr h1 hmr hlo hno, ?_⟩
  cases hvr with
  | map _ g c hblk =>
    obtain ⟨y, hy, _, hy2⟩ := hblk
    rw [hk] at hy
    cases hy
    obtain ⟨hg, _⟩ := hy2 rfl
    subst hg
    refine .map _ _ (γ'.ι.c G.length) ⟨.amap (sents ks), by simp [Ghost.adopt, hcS], ⟨Nat.zero_le _, fun _ => rfl⟩, fun _ => ⟨?_, rfl⟩⟩
    show (if G.length = (γ'.cut G.length T.length).S.H.length then _ else _) = _
    rw [hlen, if_pos rfl]
theorem RCall.of_wput {f : FuncId} {fn : Func} {c : Code} {args : List AVal} {b : Nat} {r : AVal} (hbl : b < G.length) (hs : shut ⟨G, T⟩ = true) (hΓ : Sound P Γ) (hm : P.follows .mixedOrders = true) (hf : P.funcs[f]? = some fn) (hb : fn.body = some c) (hen : enterable P f = true) (hn : args.length ≤ fn.ntmps) (hok : codeOKx Γ mu fn.ntmps c = true)
    (h : W P Γ mu G.length T.length c (FnQ P fn.results.toList fun r0 s => SetAt G T b ks r0 r s.m) ⟨envFrom 0 args, ⟨G, T⟩⟩) : RCall P f args ⟨G, T⟩ r ⟨G.set b (.amap (sents ks)), T⟩ := by
  refine ⟨hen, fun γ vals hr hmm hv => calls_of_awp hf hb (enter_holds hr hmm hv hn) (AWp.w hΓ hm c _ _ hok h) fun γ' s' r0 u hr' hm' he hrr hvr => ?_⟩
  obtain ⟨hst, L, os, hS, hp⟩ := hrr
  rw [hS] at hm'
  have hgl : (G.set b (.amap (sents os))).length = G.length := by simp
  have hcS : (γ'.cut G.length T.length).S = ⟨G.set b (.amap (sents os)), T⟩ := by
    have := List.take_left' (l₁ := G.set b (.amap (sents os))) (l₂ := L) hgl
    simp only [Ghost.cut, hm', this, List.take_length]
  have hcr : Rl (γ'.cut G.length T.length) := rl_cut hr' (by
    rw [hm', List.take_left' hgl]
    have := shut_set (b := b) hs (sents_cloB (ks := os) (h := G.length) (t := T.length))
    simpa only [shut, hgl] using this)
  have hat : (γ'.cut G.length T.length).S.H[b]? = some (.amap (sents os)) := by rw [hcS]; simp [hbl]
  refine ⟨u, (γ'.cut G.length T.length).perm b (sents ks), rfl, rfl, by simp only [Ghost.perm, hcS, List.set_set], ExtN.full ?_, rl_perm hcr hat (sents_perm hp), ?_⟩
  · rw [hmm]
    exact (he.trans (ext_cut (Nat.le_refl _) (Nat.le_refl _))).trans (ext_perm hat).toN
  · exact ((strip_sound (fun _ _ _ h => h) hvr _ hst).cut (clo_strip _ _ hst)).mono (perm_le hat)
end
end Go.Hk
namespace Go.Hk
open Go.RowKit
theorem run_clone {P : Program} (w : World) {r : Nat} {es : Array MapEntry} {clk : Nat} (t : TypeId) (hb : w.heap[r]? = some (.map es clk)) :
    (Extern.MapsClone.clone #[.iface t (.map (some r))]).run P w = .ok (.iface t (.map (some w.heap.size))) (w.alloc (.map es clk)) := by
  have e : Extern.MapsClone.clone #[.iface t (.map (some r))] = (getObj r >>= fun o => match o with
      | .map entries clock => (newObj (.map entries clock) >>= fun n => pure (.iface t (.map (some n))))
      | _ => stuck "maps.clone: a map expected") := rfl
  have hgo : (getObj r).run P w = .ok (.map es clk) w := by simp [getObj, Sem.run, hb]
  have hno : ∀ o, (newObj o).run P w = .ok w.heap.size (w.alloc o) := fun o => by simp [newObj, Sem.run]
  rw [e]
  simp only [Sem.run_bind, hgo, Result.andThen_ok, hno]
  rfl
/-- maps.clone, that the model runs in one step. -/
theorem lcall_clone {P : Program} {f : FuncId} {fn : Func} (hf : P.funcs[f]? = some fn) (hname : (fn.name == "runtime.NumGoroutine") = false) (hb : fn.body.isNone = true) (hn : Extern.findNext fn = none)
    (he : Extern.find fn = some Extern.MapsClone.clone) (t : TypeId) (b : Nat) (es : List (AVal × AVal)) (m : AMem) (hm : m.H[b]? = some (.amap es)) : LCall P f [.ifc t (.map b)] m (.ifc t (.map m.H.length)) ⟨m.H ++ [.amap es], m.T⟩ := by
  intro γ vals hr hS hv
  obtain ⟨hs, hv⟩ := hv
  have h0 := hv 0 (by simp)
  have hvals := vals_one (by simpa using hs)
  simp only [List.getElem_cons_zero] at h0
  generalize vals.getD 0 undef = x at *
  subst hS
  cases h0 with
  | ifc _ _ u hu =>
    cases hu with
    | map _ g c hblk =>
      obtain ⟨y, hy, _, hy2⟩ := hblk
      rw [hm] at hy
      cases hy
      obtain ⟨hg, _⟩ := hy2 rfl
      subst hg
      obtain ⟨en, clk, h1, h2⟩ := hr.maps b es hm
      refine ⟨.iface t (.map (some γ.w.heap.size)), γ.push (.amap es) 0 0 (.map en clk), ?_, ext_push, rl_push' hr ⟨en, clk, rfl, h2⟩ trivial, rfl, .ifc _ _ _ (.map _ _ 0 (push_blk rfl))⟩
      rw [run_callFunc_extern hf hname hb hn he, hvals, run_clone γ.w t h1]
      rfl
end Go.Hk
