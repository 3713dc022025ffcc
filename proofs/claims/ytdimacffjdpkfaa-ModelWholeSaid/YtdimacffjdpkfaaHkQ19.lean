import Derived.Test.YtdimacffjdpkfaaHkQ18
import Derived.Test.YtdimacffjdpkfaaHkQ17
import GoSem.Extern.MapsClone
/- Sets of places in memory: told up to order, and laid anew behind what came in. -/
set_option linter.unusedSimpArgs false
set_option linter.unusedVariables false
namespace Go.Hk
/-! ### Order does not count -/
theorem AL.uncons {κ : Cx} {e : AVal × AVal} {es : List (AVal × AVal)} {l : List MapEntry} (h : AL κ (e :: es) l) : ∃ a r, l = a :: r ∧ VR κ e.1 a.key ∧ VR κ e.2 a.val ∧ AL κ es r := by
  obtain ⟨h1, h2⟩ := h
  cases l with
  | nil => simp at h1
  | cons a r =>
    have h0 := h2 0 (by simp) (by simp)
    exact ⟨a, r, rfl, h0.1, h0.2, by simpa using h1, fun j hj hj' => h2 (j + 1) (by simpa using hj) (by simpa using hj')⟩
theorem AL.cons {κ : Cx} {e : AVal × AVal} {es : List (AVal × AVal)} {a : MapEntry} {l : List MapEntry} (h1 : VR κ e.1 a.key) (h2 : VR κ e.2 a.val) (h : AL κ es l) : AL κ (e :: es) (a :: l) := by
  refine ⟨by simp [h.1], fun j hj hj' => ?_⟩
  cases j with
  | zero => exact ⟨h1, h2⟩
  | succ j => exact h.2 j (by simpa using hj) (by simpa using hj')
theorem AL.perm {κ : Cx} {es es' : List (AVal × AVal)} (hp : es.Perm es') : ∀ l, AL κ es l → ∃ l', l'.Perm l ∧ AL κ es' l' := by
  induction hp with
  | nil => exact fun l h => ⟨l, .refl _, h⟩
  | cons e _ ih =>
    intro l h
    obtain ⟨a, r, rfl, h1, h2, h3⟩ := h.uncons
    obtain ⟨r', k1, k2⟩ := ih r h3
    exact ⟨a :: r', k1.cons a, k2.cons h1 h2⟩
  | swap e f es =>
    intro l h
    obtain ⟨a, r, rfl, h1, h2, h3⟩ := h.uncons
    obtain ⟨b, r, rfl, k1, k2, k3⟩ := h3.uncons
    exact ⟨b :: a :: r, .swap _ _ _, (k3.cons h1 h2).cons k1 k2⟩
  | trans _ _ ih1 ih2 =>
    intro l h
    obtain ⟨l1, h1, h2⟩ := ih1 l h
    obtain ⟨l2, k1, k2⟩ := ih2 l1 h2
    exact ⟨l2, k1.trans h1, k2⟩
theorem MR.of_perm {κ : Cx} {es es' : List (AVal × AVal)} {en : Array MapEntry} {clk : Nat} (hp : es.Perm es') (h : MR κ es en clk) : MR κ es' en clk := by
  obtain ⟨l, h1, h2⟩ := h.perm
  obtain ⟨l', k1, k2⟩ := AL.perm hp l h2
  exact ⟨h.born, h.lt, l', k1.trans h1, k2⟩
def Ghost.perm (γ : Ghost) (b : Nat) (es : List (AVal × AVal)) : Ghost := { γ with S := ⟨γ.S.H.set b (.amap es), γ.S.T⟩ }
section
variable {γ : Ghost} {b : Nat} {es es' : List (AVal × AVal)}
theorem perm_H (hb : γ.S.H[b]? = some (.amap es)) {x : Nat} {y : ABlk} (hx : (γ.perm b es').S.H[x]? = some y) : (x = b ∧ y = .amap es') ∨ (x ≠ b ∧ γ.S.H[x]? = some y) := by
  simp only [Ghost.perm, List.getElem?_set] at hx
  split at hx
  · rename_i h
    split at hx
    · cases hx; exact .inl ⟨h.symm, rfl⟩
    · cases hx
  · rename_i h; exact .inr ⟨fun e => h e.symm, hx⟩
theorem perm_H2 (hb : γ.S.H[b]? = some (.amap es)) {x : Nat} (hx : x ≠ b) : (γ.perm b es').S.H[x]? = γ.S.H[x]? := by
  simp only [Ghost.perm, List.getElem?_set, if_neg (Ne.symm hx)]
theorem perm_H3 (hb : γ.S.H[b]? = some (.amap es)) : (γ.perm b es').S.H[b]? = some (.amap es') := by
  simp only [Ghost.perm, List.getElem?_set, if_true, (List.getElem?_eq_some_iff.1 hb).1]
theorem perm_blkOwns {x g : Nat} : (γ.perm b es').blkOwns x g ↔ γ.blkOwns x g := by simp [Ghost.blkOwns, Ghost.perm]
theorem perm_owns {g : Nat} : (γ.perm b es').owns g ↔ γ.owns g := by
  simp only [Ghost.owns, perm_blkOwns]
  exact Iff.rfl
theorem perm_le (hb : γ.S.H[b]? = some (.amap es)) : γ.cx.le (γ.perm b es').cx where
  cell := fun g o v hc => ⟨hc.1, hc.2.1, hc.2.2.1, fun b hb => hc.2.2.2.1 b (perm_blkOwns.1 hb), hc.2.2.2.2⟩
  blk := fun x e g c ⟨y, h1, h2, h3⟩ => by
    by_cases hx : x = b
    · subst hx
      rw [hb] at h1
      cases h1
      exact ⟨.amap es', perm_H3 hb, h2, h3⟩
    · exact ⟨y, (perm_H2 hb hx).trans h1, h2, h3⟩
  tip := fun _ _ _ _ h => h
  own := fun _ _ _ h => h
theorem rl_perm (hr : Rl γ) (hb : γ.S.H[b]? = some (.amap es)) (hp : es.Perm es') : Rl (γ.perm b es') where
  lo := hr.lo
  bad := hr.bad
  objs := fun x y hx => by
    rcases perm_H hb hx with ⟨rfl, rfl⟩ | ⟨_, hx⟩
    · obtain ⟨en, clk, h1, h2⟩ := hr.maps x es hb
      exact ⟨_, h1, en, clk, rfl, (h2.of_perm hp).mono (perm_le hb)⟩
    · obtain ⟨o, h1, h2⟩ := hr.objs x y hx
      exact ⟨o, h1, h2.mono (perm_le hb)⟩
  its := fun x mb left cur hx => by
    rcases perm_H hb hx with ⟨_, h⟩ | ⟨_, hx⟩
    · cases h
    · obtain ⟨es1, en, clk, since, seen, c0, g1, g2, g3, g4⟩ := hr.its x mb left cur hx
      by_cases hm : mb = b
      · subst hm
        exact ⟨es', en, clk, since, seen, c0, perm_H3 hb, g2, g3, g4.mono (perm_le hb)⟩
      · exact ⟨es1, en, clk, since, seen, c0, (perm_H2 hb hm).trans g1, g2, g3, g4.mono (perm_le hb)⟩
  toks := hr.toks
  own := fun g hg => hr.own g (perm_owns.1 hg)
  hh := fun x y g h1 h2 => hr.hh x y g (perm_blkOwns.1 h1) (perm_blkOwns.1 h2)
  ht := fun x t g h1 h2 => hr.ht x t g (perm_blkOwns.1 h1) h2
  tt := hr.tt
theorem ext_perm (hb : γ.S.H[b]? = some (.amap es)) : Ext γ (γ.perm b es') where
  bad := rfl
  lo := rfl
  size := Nat.le_refl _
  os := rfl
  tape := rfl
  output := rfl
  cell := (perm_le hb).cell
  blk := (perm_le hb).blk
  tip := fun _ _ _ _ h => h
  own := fun _ _ _ h => h
  frame := fun _ _ _ => .inl rfl
  owns := fun k h => .inl (perm_owns.1 h)
end
/-! ### A map's block is laid anew, right behind the first n -/
def Ghost.adopt (γ : Ghost) (g : Nat) (es : List (AVal × AVal)) : Ghost :=
  { γ with S := ⟨γ.S.H ++ [.amap es], γ.S.T⟩, ι := { γ.ι with h := fun b => if b = γ.S.H.length then g else γ.ι.h b } }
section
variable {γ : Ghost} {g : Nat} {es : List (AVal × AVal)} {en : Array MapEntry} {clk : Nat}
theorem adopt_H {x : Nat} (hx : x < γ.S.H.length) : (γ.adopt g es).S.H[x]? = γ.S.H[x]? := List.getElem?_append_left hx
theorem adopt_H' {x : Nat} {y : ABlk} (h : (γ.adopt g es).S.H[x]? = some y) : (x = γ.S.H.length ∧ y = .amap es) ∨ (x < γ.S.H.length ∧ γ.S.H[x]? = some y) := by
  simp only [Ghost.adopt] at h
  by_cases hx : x < γ.S.H.length
  · rw [List.getElem?_append_left hx] at h; exact .inr ⟨hx, h⟩
  · rw [List.getElem?_append_right (by omega)] at h
    have : x - γ.S.H.length = 0 := by
      rcases Nat.eq_zero_or_pos (x - γ.S.H.length) with h0 | h0
      · exact h0
      · rw [List.getElem?_eq_none (by simp; omega)] at h; cases h
    rw [this] at h
    cases h
    exact .inl ⟨by omega, rfl⟩
theorem adopt_h {x : Nat} (hx : x < γ.S.H.length) : (γ.adopt g es).ι.h x = γ.ι.h x := by simp [Ghost.adopt, Nat.ne_of_lt hx]
theorem adopt_blk {x k : Nat} (h : (γ.adopt g es).blkOwns x k) : (x = γ.S.H.length ∧ k = g) ∨ γ.blkOwns x k := by
  obtain ⟨h1, h2⟩ := h
  simp only [Ghost.adopt, List.length_append, List.length_singleton] at h1 h2
  split at h2
  · rename_i h; exact .inl ⟨h, h2.symm⟩
  · exact .inr ⟨by omega, h2⟩
theorem adopt_owns {k : Nat} (h : (γ.adopt g es).owns k) : k = g ∨ γ.owns k := by
  rcases h with ⟨b, hb⟩ | ⟨t, ht⟩
  · rcases adopt_blk hb with ⟨_, h⟩ | h
    · exact .inl h
    · exact .inr (.inl ⟨b, h⟩)
  · exact .inr (.inr ⟨t, ht⟩)
theorem adopt_le (hg : γ.w.heap[g]? = some (.map en clk)) : γ.cx.le (γ.adopt g es).cx where
  cell := fun q o v hc => ⟨hc.1, hc.2.1, hc.2.2.1, fun b hb => by
    rcases adopt_blk hb with ⟨_, rfl⟩ | h
    · have := hc.1
      simp [World.cell?, hg] at this
    · exact hc.2.2.2.1 b h, hc.2.2.2.2⟩
  blk := fun x e q c ⟨y, h1, h2, h3⟩ => by
    have hx := (List.getElem?_eq_some_iff.1 h1).1
    exact ⟨y, (adopt_H hx).trans h1, h2, fun he => ⟨(adopt_h hx).trans (h3 he).1, (h3 he).2⟩⟩
  tip := fun _ _ _ _ h => h
  own := fun _ _ _ h => h
theorem rl_adopt (hr : Rl γ) (hg : γ.w.heap[g]? = some (.map en clk)) (hm : MR γ.cx es en clk) (hlo : γ.lo ≤ g) (hno : ¬ γ.owns g) : Rl (γ.adopt g es) where
  lo := hr.lo
  bad := hr.bad
  objs := fun x y hx => by
    rcases adopt_H' hx with ⟨rfl, rfl⟩ | ⟨hl, hx⟩
    · exact ⟨_, by show γ.w.heap[if _ = _ then _ else _]? = _; rw [if_pos rfl]; exact hg, en, clk, rfl, hm.mono (adopt_le hg)⟩
    · obtain ⟨o, h1, h2⟩ := hr.objs x y hx
      exact ⟨o, by rw [adopt_h hl]; exact h1, h2.mono (adopt_le hg)⟩
  its := fun x mb left cur hx => by
    rcases adopt_H' hx with ⟨_, h⟩ | ⟨hl, hx⟩
    · cases h
    · obtain ⟨es1, en1, clk1, since, seen, c0, g1, g2, g3, g4⟩ := hr.its x mb left cur hx
      have hmb := (List.getElem?_eq_some_iff.1 g1).1
      exact ⟨es1, en1, clk1, since, seen, c0, (adopt_H hmb).trans g1, by rw [adopt_h hl, adopt_h hmb]; exact g2, by rw [adopt_h hmb]; exact g3, g4.mono (adopt_le hg)⟩
  toks := hr.toks
  own := fun k hk => by
    rcases adopt_owns hk with rfl | h
    · exact ⟨hlo, (Array.getElem?_eq_some_iff.1 hg).1⟩
    · exact hr.own k h
  hh := fun x y k h1 h2 => by
    rcases adopt_blk h1 with ⟨e1, f1⟩ | g1 <;> rcases adopt_blk h2 with ⟨e2, f2⟩ | g2
    · rw [e1, e2]
    · rw [f1] at g2; exact (hno (.inl ⟨_, g2⟩)).elim
    · rw [f2] at g1; exact (hno (.inl ⟨_, g1⟩)).elim
    · exact hr.hh x y k g1 g2
  ht := fun x t k h1 h2 => by
    rcases adopt_blk h1 with ⟨_, rfl⟩ | h1
    · exact hno (.inr ⟨t, h2⟩)
    · exact hr.ht x t k h1 h2
  tt := hr.tt
end
/-! ### Sets -/
def sents (ks : List Nat) : List (AVal × AVal) := ks.map fun k => (.int .i64 ((k : Nat) : Int), .agg [])
theorem sents_clo {ks : List Nat} {h t : Nat} : (sents ks).all (fun p => clo h t p.1 && clo h t p.2) = true := by
  simp only [sents, List.all_map, List.all_eq_true]
  intro x _
  simp [clo, cloL]
theorem sents_cloB {ks : List Nat} {h t : Nat} : cloB h t (.amap (sents ks)) = true := sents_clo
theorem sents_perm {ks os : List Nat} (h : ks.Perm os) : (sents ks).Perm (sents os) := h.map _
/-- A set, laid behind what came in; others of its kind may lie beside it. -/
def SetOf (G : List ABlk) (T : List (Nat × (Nat × Nat))) (ks : List Nat) (r : AVal) (m : AMem) : Prop :=
  ∃ j L os, r = .map (G.length + j) ∧ m = ⟨G ++ L, T⟩ ∧ L[j]? = some (.amap (sents os)) ∧ os.Perm ks
/-- A set that came in is another one now. -/
def SetAt (G : List ABlk) (T : List (Nat × (Nat × Nat))) (b : Nat) (ks : List Nat) (r0 r : AVal) (m : AMem) : Prop :=
  strip r0 = some r ∧ ∃ L os, m = ⟨G.set b (.amap (sents os)) ++ L, T⟩ ∧ os.Perm ks
section
variable {P : Program} {Γ : Gam} {mu : Bool} {G : List ABlk} {T : List (Nat × (Nat × Nat))} {ks : List Nat}
theorem RCall.of_wset {f : FuncId} {fn : Func} {c : Code} {args : List AVal} (hs : shut ⟨G, T⟩ = true) (hΓ : Sound P Γ) (hm : P.follows .mixedOrders = true) (hf : P.funcs[f]? = some fn) (hb : fn.body = some c) (hen : enterable P f = true) (hn : args.length ≤ fn.ntmps) (hok : codeOKx Γ mu fn.ntmps c = true)
    (h : W P Γ mu G.length T.length c (FnQ P fn.results.toList fun r0 s => SetOf G T ks r0 s.m) ⟨envFrom 0 args, ⟨G, T⟩⟩) : RCall P f args ⟨G, T⟩ (.map G.length) ⟨G ++ [.amap (sents ks)], T⟩ := by
  refine ⟨hen, fun γ vals hr hmm hv => calls_of_awp hf hb (enter_holds hr hmm hv hn) (AWp.w hΓ hm c _ _ hok h) fun γ' s' r0 u hr' hm' he hrr hvr => ?_⟩
  obtain ⟨j, L, os, rfl, hS, hj, hp⟩ := hrr
  rw [hS] at hm'
  have hjl := (List.getElem?_eq_some_iff.1 hj).1
  have hk : γ'.S.H[G.length + j]? = some (.amap (sents os)) := by rw [hm']; rw [List.getElem?_append_right (by omega), Nat.add_sub_cancel_left]; exact hj
  have hcS : (γ'.cut G.length T.length).S = ⟨G, T⟩ := by simp only [Ghost.cut, hm', List.take_left', List.take_length]
  have hcr : Rl (γ'.cut G.length T.length) := rl_cut hr' (by rw [hm', List.take_left' rfl]; exact hs)
  obtain ⟨en, clk, h1, h2⟩ := hr'.maps _ _ hk
  have hown : γ'.owns (γ'.ι.h (G.length + j)) := .inl ⟨_, by rw [hm']; simp; omega, rfl⟩
  obtain ⟨hlo, hsz⟩ := hr'.own _ hown
  have hno : ¬ (γ'.cut G.length T.length).owns (γ'.ι.h (G.length + j)) := by
    rintro (⟨b, h1, h2⟩ | ⟨t, ht⟩)
    · have h1' : b < G.length := by rw [hcS] at h1; exact h1
      have := hr'.hh b (G.length + j) _ ⟨by rw [hm']; simp; omega, h2⟩ ⟨by rw [hm']; simp; omega, rfl⟩
      omega
    · exact hr'.ht _ t _ ⟨by rw [hm']; simp; omega, rfl⟩ (cut_tok ht).2
  have hmr : MR (γ'.cut G.length T.length).cx (sents ks) en clk := by
    obtain ⟨l, k1, k2⟩ := (h2.of_perm (sents_perm hp)).perm
    exact ⟨h2.born, h2.lt, l, k1, k2.cut sents_clo⟩
  have hle := adopt_le (γ := γ'.cut G.length T.length) (es := sents ks) h1
  have e1 : ExtN G.length T.length γ (γ'.cut G.length T.length) := he.trans (ext_cut (Nat.le_refl _) (Nat.le_refl _))
  have e2 : ExtN γ.S.H.length γ.S.T.length γ ((γ'.cut G.length T.length).adopt (γ'.ι.h (G.length + j)) (sents ks)) := by
    rw [hmm]
    exact { bad := e1.bad, lo := e1.lo, size := e1.size, os := e1.os, tape := e1.tape, output := e1.output
            cell := fun _ _ _ h => hle.cell _ _ _ (e1.cell _ _ _ h), blk := fun _ _ _ _ hb h => hle.blk _ _ _ _ (e1.blk _ _ _ _ hb h)
            tip := fun _ _ _ _ hb h => hle.tip _ _ _ _ (e1.tip _ _ _ _ hb h), own := fun _ _ _ h => hle.own _ _ _ (e1.own _ _ _ h), frame := e1.frame
            owns := fun k hk => by
              rcases adopt_owns hk with rfl | h
              · exact he.owns _ hown
              · exact e1.owns k h }
  have hlen : (γ'.cut G.length T.length).S.H.length = G.length := by rw [hcS]
  refine ⟨u, (γ'.cut G.length T.length).adopt (γ'.ι.h (G.length + j)) (sents ks), rfl, rfl, by simp only [Ghost.adopt, hcS], ExtN.full e2, rl_adopt hcr h1 hmr hlo hno, ?_⟩
  cases hvr with
  | map _ g c hblk =>
    obtain ⟨y, hy, _, hy2⟩ := hblk
    rw [hk] at hy
    cases hy
    obtain ⟨hg, _⟩ := hy2 rfl
    subst hg
    refine .map _ _ (γ'.ι.c G.length) ⟨.amap (sents ks), by simp [Ghost.adopt, hcS], ⟨Nat.zero_le _, fun _ => rfl⟩, fun _ => ⟨?_, rfl⟩⟩
    show (if G.length = (γ'.cut G.length T.length).S.H.length then _ else _) = _
    rw [hlen, if_pos rfl]
theorem RCall.of_wput {f : FuncId} {fn : Func} {c : Code} {args : List AVal} {b : Nat} {r : AVal} (hbl : b < G.length) (hs : shut ⟨G, T⟩ = true) (hΓ : Sound P Γ) (hm : P.follows .mixedOrders = true) (hf : P.funcs[f]? = some fn) (hb : fn.body = some c) (hen : enterable P f = true) (hn : args.length ≤ fn.ntmps) (hok : codeOKx Γ mu fn.ntmps c = true)
    (h : W P Γ mu G.length T.length c (FnQ P fn.results.toList fun r0 s => SetAt G T b ks r0 r s.m) ⟨envFrom 0 args, ⟨G, T⟩⟩) : RCall P f args ⟨G, T⟩ r ⟨G.set b (.amap (sents ks)), T⟩ := by
  refine ⟨hen, fun γ vals hr hmm hv => calls_of_awp hf hb (enter_holds hr hmm hv hn) (AWp.w hΓ hm c _ _ hok h) fun γ' s' r0 u hr' hm' he hrr hvr => ?_⟩
  obtain ⟨hst, L, os, hS, hp⟩ := hrr
  rw [hS] at hm'
  have hgl : (G.set b (.amap (sents os))).length = G.length := by simp
  have hcS : (γ'.cut G.length T.length).S = ⟨G.set b (.amap (sents os)), T⟩ := by
    have := List.take_left' (l₁ := G.set b (.amap (sents os))) (l₂ := L) hgl
    simp only [Ghost.cut, hm', this, List.take_length]
  have hcr : Rl (γ'.cut G.length T.length) := rl_cut hr' (by
    rw [hm', List.take_left' hgl]
    have := shut_set (b := b) hs (sents_cloB (ks := os) (h := G.length) (t := T.length))
    simpa only [shut, hgl] using this)
  have hat : (γ'.cut G.length T.length).S.H[b]? = some (.amap (sents os)) := by rw [hcS]; simp [hbl]
  refine ⟨u, (γ'.cut G.length T.length).perm b (sents ks), rfl, rfl, by simp only [Ghost.perm, hcS, List.set_set], ExtN.full ?_, rl_perm hcr hat (sents_perm hp), ?_⟩
  · rw [hmm]
    exact (he.trans (ext_cut (Nat.le_refl _) (Nat.le_refl _))).trans (ext_perm hat).toN
  · exact ((strip_sound (fun _ _ _ h => h) hvr _ hst).cut (clo_strip _ _ hst)).mono (perm_le hat)
end
end Go.Hk
namespace Go.Hk
open Go.RowKit
theorem run_clone {P : Program} (w : World) {r : Nat} {es : Array MapEntry} {clk : Nat} (t : TypeId) (hb : w.heap[r]? = some (.map es clk)) :
    (Extern.MapsClone.clone #[.iface t (.map (some r))]).run P w = .ok (.iface t (.map (some w.heap.size))) (w.alloc (.map es clk)) := by
  have e : Extern.MapsClone.clone #[.iface t (.map (some r))] = (getObj r >>= fun o => match o with
      | .map entries clock => (newObj (.map entries clock) >>= fun n => pure (.iface t (.map (some n))))
      | _ => stuck "maps.clone: a map expected") := rfl
  have hgo : (getObj r).run P w = .ok (.map es clk) w := by simp [getObj, Sem.run, hb]
  have hno : ∀ o, (newObj o).run P w = .ok w.heap.size (w.alloc o) := fun o => by simp [newObj, Sem.run]
  rw [e]
  simp only [Sem.run_bind, hgo, Result.andThen_ok, hno]
  rfl
/-- maps.clone, that the model runs in one step. -/
theorem lcall_clone {P : Program} {f : FuncId} {fn : Func} (hf : P.funcs[f]? = some fn) (hname : (fn.name == "runtime.NumGoroutine") = false) (hb : fn.body.isNone = true) (hn : Extern.findNext fn = none)
    (he : Extern.find fn = some Extern.MapsClone.clone) (t : TypeId) (b : Nat) (es : List (AVal × AVal)) (m : AMem) (hm : m.H[b]? = some (.amap es)) : LCall P f [.ifc t (.map b)] m (.ifc t (.map m.H.length)) ⟨m.H ++ [.amap es], m.T⟩ := by
  intro γ vals hr hS hv
  obtain ⟨hs, hv⟩ := hv
  have h0 := hv 0 (by simp)
  have hvals := vals_one (by simpa using hs)
  simp only [List.getElem_cons_zero] at h0
  generalize vals.getD 0 undef = x at *
  subst hS
  cases h0 with
  | ifc _ _ u hu =>
    cases hu with
    | map _ g c hblk =>
      obtain ⟨y, hy, _, hy2⟩ := hblk
      rw [hm] at hy
      cases hy
      obtain ⟨hg, _⟩ := hy2 rfl
      subst hg
      obtain ⟨en, clk, h1, h2⟩ := hr.maps b es hm
      refine ⟨.iface t (.map (some γ.w.heap.size)), γ.push (.amap es) 0 0 (.map en clk), ?_, ext_push, rl_push' hr ⟨en, clk, rfl, h2⟩ trivial, rfl, .ifc _ _ _ (.map _ _ 0 (push_blk rfl))⟩
      rw [run_callFunc_extern hf hname hb hn he, hvals, run_clone γ.w t h1]
      rfl
end Go.Hk
/- Sets of places: written, looked into, walked over. -/
namespace Go.Hk
/-! ### Plain -/
def sput (ks : List Nat) (k : Nat) : List Nat := if k ∈ ks then ks else ks ++ [k]
def uni : List Nat → List Nat → List Nat
  | os, [] => os
  | os, k :: ks => uni (sput os k) ks
theorem sput_mem {ks : List Nat} {k j : Nat} : j ∈ sput ks k ↔ j ∈ ks ∨ j = k := by
  unfold sput
  split
  · rename_i h
    constructor
    · exact .inl
    · rintro (h1 | rfl)
      · exact h1
      · exact h
  · simp
theorem sput_nodup {ks : List Nat} {k : Nat} (h : ks.Nodup) : (sput ks k).Nodup := by
  unfold sput
  split
  · exact h
  · rename_i hk
    rw [List.nodup_append]
    refine ⟨h, by simp, ?_⟩
    intro a ha b hb
    simp only [List.mem_singleton] at hb
    subst hb
    exact fun e => hk (e ▸ ha)
theorem uni_mem : ∀ {ks os : List Nat} {j : Nat}, j ∈ uni os ks ↔ j ∈ os ∨ j ∈ ks
  | [], os, j => by simp [uni]
  | k :: ks, os, j => by
    simp only [uni]
    rw [uni_mem, sput_mem, List.mem_cons, or_assoc]
theorem uni_nodup : ∀ {ks os : List Nat}, os.Nodup → (uni os ks).Nodup
  | [], os, h => h
  | k :: ks, os, h => by simp only [uni]; exact uni_nodup (sput_nodup h)
theorem perm_of_mem : ∀ {a b : List Nat}, a.Nodup → b.Nodup → (∀ j, j ∈ a ↔ j ∈ b) → a.Perm b
  | a, b, ha, hb, h => (List.perm_ext_iff_of_nodup ha hb).2 h
open Classical in
/-- A set of places below n, in order. -/
noncomputable def cset (n : Nat) (S : Nat → Prop) : List Nat := (List.range n).filter fun j => decide (S j)
theorem cset_mem {n : Nat} {S : Nat → Prop} {j : Nat} : j ∈ cset n S ↔ j < n ∧ S j := by
  simp [cset]
theorem cset_nodup {n : Nat} {S : Nat → Prop} : (cset n S).Nodup := List.Nodup.sublist List.filter_sublist List.nodup_range
theorem cset_congr {n : Nat} {S S' : Nat → Prop} (h : ∀ j, j < n → (S j ↔ S' j)) : cset n S = cset n S' := by
  unfold cset
  refine List.filter_congr fun j hj => ?_
  simp only [List.mem_range] at hj
  exact decide_eq_decide.2 (h j hj)
theorem cset_len {n : Nat} {S : Nat → Prop} : (cset n S).length ≤ n := by
  have := List.length_filter_le (fun j => @decide (S j) (Classical.propDecidable _)) (List.range n)
  simpa [cset] using this
theorem nodup_len {l : List Nat} {n : Nat} (h : l.Nodup) (hb : ∀ j ∈ l, j < n) : l.length ≤ n := by
  have hp : l.Perm (cset n fun j => j ∈ l) := perm_of_mem h cset_nodup fun j => by
    rw [cset_mem]
    exact ⟨fun hj => ⟨hb j hj, hj⟩, fun hj => hj.2⟩
  rw [hp.length_eq]
  exact cset_len
theorem sents_inj : ∀ {a b : List Nat}, sents a = sents b → a = b
  | [], [], _ => rfl
  | [], _ :: _, h => by simp [sents] at h
  | _ :: _, [], h => by simp [sents] at h
  | x :: a, y :: b, h => by
    simp only [sents, List.map_cons, List.cons.injEq, Prod.mk.injEq, AVal.int.injEq, true_and, and_true] at h
    have h2 := sents_inj (a := a) (b := b) h.2
    have h1 : x = y := by omega
    rw [h1, h2]
theorem sents_len {ks : List Nat} : (sents ks).length = ks.length := by simp [sents]
theorem sents_get {ks : List Nat} {i : Nat} (h : i < (sents ks).length) : (sents ks)[i] = (.int .i64 ((ks[i]'(by simpa [sents] using h) : Nat) : Int), .agg []) := by simp [sents]
theorem sents_erase {ks : List Nat} {i : Nat} : (sents ks).eraseIdx i = sents (ks.eraseIdx i) := by
  induction ks generalizing i with
  | nil => simp [sents]
  | cons k ks ih =>
    cases i with
    | zero => simp [sents]
    | succ i => simp only [sents, List.map_cons, List.eraseIdx_cons_succ] at ih ⊢; rw [ih]
theorem perm_eraseIdx {ks : List Nat} {i : Nat} (h : i < ks.length) : ks.Perm (ks[i] :: ks.eraseIdx i) := by
  induction ks generalizing i with
  | nil => simp at h
  | cons k ks ih =>
    cases i with
    | zero => simp
    | succ i =>
      simp only [List.getElem_cons_succ, List.eraseIdx_cons_succ]
      exact ((ih (by simpa using h)).cons k).trans (.swap _ _ _)
/-! ### No iterator goes over what is new -/
theorem noIt_shut {G : List ABlk} {T : List (Nat × (Nat × Nat))} {b : Nat} (h : shut ⟨G, T⟩ = true) (hb : G.length ≤ b) : noIt b G = true := by
  simp only [shut, noIt, List.all_eq_true] at h ⊢
  intro x hx
  have := h x hx
  cases x <;> simp only [noIt1]
  simp only [cloB, Bool.and_eq_true, decide_eq_true_eq] at this
  simp only [bne_iff_ne, ne_eq]
  omega
theorem noIt_app {b : Nat} {G L : List ABlk} : noIt b (G ++ L) = (noIt b G && noIt b L) := List.all_append
theorem dcur_noIt {b : Nat} : ∀ {G : List ABlk}, noIt b G = true → G.map (dcur1 b) = G
  | [], _ => rfl
  | x :: G, h => by
    simp only [noIt, List.all_cons, Bool.and_eq_true] at h
    rw [List.map_cons, dcur_noIt (G := G) h.2]
    congr 1
    cases x <;> simp only [dcur1]
    simp only [noIt1, bne_iff_ne, ne_eq] at h
    rw [if_neg h.1]
theorem del_noIt {P : Program} {kt : TypeId} {b : Nat} {k : AVal} : ∀ {G : List ABlk}, noIt b G = true → G.all (delOK1 P kt b k) = true
  | [], _ => rfl
  | x :: G, h => by
    simp only [noIt, List.all_cons, Bool.and_eq_true] at h ⊢
    refine ⟨?_, del_noIt (G := G) h.2⟩
    cases x <;> simp only [delOK1]
    simp only [noIt1] at h
    simp [h.1]
/-! ### In memory -/
section
variable {P : Program} {t kt et : TypeId} {I K E : TI}
def kN (k : Nat) : AVal := .int .i64 (k : Int)
def vU (_ : Unit) : AVal := .agg []
theorem sents_ment (ks : List Nat) : sents ks = ment kN vU (ks.map fun k => (k, ())) := by
  simp [sents, ment, kN, vU, Function.comp_def]
theorem ndk_set {ks : List Nat} (h : ks.Nodup) : ndk (ks.map fun k => (k, ())) := by
  simpa [ndk, Function.comp_def] using h
theorem mget_set {ks : List Nat} {k : Nat} : mget (ks.map fun k => (k, ())) k = if k ∈ ks then some () else none := by
  induction ks with
  | nil => simp [mget]
  | cons a ks ih =>
    simp only [List.map_cons, mget, ih, List.mem_cons]
    by_cases h : k = a <;> simp [h]
theorem mput_set {ks : List Nat} {k : Nat} : mput (ks.map fun k => (k, ())) k () = (sput ks k).map fun k => (k, ()) := by
  induction ks with
  | nil => simp [mput, sput]
  | cons a ks ih =>
    simp only [List.map_cons, mput]
    by_cases h : k = a
    · subst h
      simp [sput]
    · rw [if_neg h, ih]
      by_cases hm : k ∈ ks
      · simp [sput, hm]
      · simp [sput, hm, h]
theorem key_int {k : Int} (hK : tiOf P kt = some K) (hk : K.k = .int .i64) : akey P 20 kt (.int .i64 k) = true := by
  simp [akey, hK, hk]
theorem eq_int {a b : Int} (hK : tiOf P kt = some K) (hk : K.k = .int .i64) : aeq P 20 kt (.int .i64 a) (.int .i64 b) = some (decide (a = b)) := by
  simp only [aeq, hK, hk, if_true]
  congr 1
theorem kN_eq (hK : tiOf P kt = some K) (hk : K.k = .int .i64) (a b : Nat) : aeq P 20 kt (kN a) (kN b) = some (decide (a = b)) := by
  rw [kN, kN, eq_int hK hk]
  congr 1
  exact decide_eq_decide.2 (by omega)
theorem set_put (hI : tiOf P t = some I) (hk : I.k = .map kt et) (hK : tiOf P kt = some K) (hKk : K.k = .int .i64) {H : List ABlk} {T : List (Nat × (Nat × Nat))} {b : Nat} {ks : List Nat} {k : Nat}
    (hb : H[b]? = some (.amap (sents ks))) (hn : ks.Nodup) (hi : noIt b H = true) :
    amput P t ⟨H, T⟩ (.map b) (.int .i64 (k : Int)) (.agg []) = some (.undef, ⟨H.set b (.amap (sents (sput ks k))), T⟩) := by
  have := amput_ment (P := P) (t := t) (kV := kN) (vV := vU) (T := T) hI hk (fun a => key_int hK hKk) (kN_eq hK hKk) (fun a => by simp [abits, abit1, kN]) (es := ks.map fun k => (k, ())) (by rw [hb, sents_ment]) (ndk_set hn) hi (k := k) (v := ())
  rw [mput_set, ← sents_ment] at this
  exact this
theorem set_look (hI : tiOf P t = some I) (hk : I.k = .map kt et) (hK : tiOf P kt = some K) (hKk : K.k = .int .i64) (hE : tiOf P et = some E) (hz : E.zero = some (.agg [])) {m : AMem} {b : Nat} {ks : List Nat} {k : Nat}
    (hb : m.H[b]? = some (.amap (sents ks))) (hn : ks.Nodup) : alookup P t m (.map b) (.int .i64 (k : Int)) true = some (.tup (.agg []) [.bool (decide (k ∈ ks))]) := by
  have := alookup_ment (P := P) (t := t) (kV := kN) (vV := vU) hI hk hE hz (fun a => key_int hK hKk) (kN_eq hK hKk) (m := m) (es := ks.map fun k => (k, ())) (by rw [hb, sents_ment]) (ndk_set hn) (k := k) (ok := true)
  rw [mget_set] at this
  rw [kN] at this
  rw [this]
  by_cases h : k ∈ ks <;> simp [h, mapR, afound, vU]
theorem find_set (hK : tiOf P kt = some K) (hKk : K.k = .int .i64) {k : Nat} : ∀ (ks : List Nat) (i : Nat), ks.Nodup → afind P kt (.int .i64 (k : Int)) (sents ks) i = some (if k ∈ ks then some (i + ks.idxOf k) else none)
  | [], i, _ => by simp [sents, afind]
  | a :: ks, i, h => by
    have hn := List.nodup_cons.1 h
    have ih := find_set hK hKk (k := k) ks (i + 1) hn.2
    have he : aeq P 20 kt (.int .i64 (k : Int)) (.int .i64 (a : Int)) = some (decide (k = a)) := by
      rw [eq_int hK hKk]; congr 1; exact decide_eq_decide.2 (by omega)
    by_cases hka : k = a
    · subst hka
      have hall : (sents ks).all (fun e' => aeq P 20 kt (.int .i64 (k : Int)) e'.1 == some false) = true := by
        simp only [sents, List.all_map, List.all_eq_true, Function.comp_apply]
        intro x hx
        rw [eq_int hK hKk]
        have hne : ¬ ((k : Int) = (x : Int)) := fun e => hn.1 (Int.ofNat.inj e ▸ hx)
        rw [decide_eq_false hne]
        rfl
      have hs : sents (k :: ks) = (.int .i64 (k : Int), .agg []) :: sents ks := rfl
      rw [hs]
      simp only [afind, he, decide_true, hall, if_true]
      simp
    · have hs : sents (a :: ks) = (.int .i64 (a : Int), .agg []) :: sents ks := rfl
      rw [hs]
      simp only [afind, he, hka, decide_false, ih]
      by_cases hm : k ∈ ks
      · have hm2 : k ∈ a :: ks := List.mem_cons_of_mem _ hm
        rw [if_pos hm, if_pos hm2, List.idxOf_cons]
        have : (a == k) = false := by simp; exact fun e => hka e.symm
        rw [this]
        simp only [cond_false, Bool.false_eq_true, if_false, Option.some.injEq]
        omega
      · have hm2 : ¬ k ∈ a :: ks := by simp [hka, hm]
        rw [if_neg hm, if_neg hm2]
theorem set_del (hI : tiOf P t = some I) (hk : I.k = .map kt et) (hK : tiOf P kt = some K) (hKk : K.k = .int .i64) {H : List ABlk} {T : List (Nat × (Nat × Nat))} {b : Nat} {ks : List Nat} {k : Nat}
    (hb : H[b]? = some (.amap (sents ks))) (hn : ks.Nodup) (hm : k ∈ ks) (hd : H.all (delOK1 P kt b (.int .i64 (k : Int))) = true) :
    adelete P t ⟨H, T⟩ (.map b) (.int .i64 (k : Int)) = some (.undef, ⟨(H.map (dcur1 b)).set b (.amap (sents (ks.eraseIdx (ks.idxOf k)))), T⟩) := by
  simp only [adelete, hI, hk, hb, key_int hK hKk, hd, and_self, if_true, find_set hK hKk ks 0 hn, if_pos hm, sents_erase, Nat.zero_add]
end
/-! ### A walk over a set -/
section
variable {P : Program} {mu : Bool} {hk tk : Nat} {Q : Exit → St → Prop} {e : List (Nat × AVal)} {m : AMem}
theorem w_next {ks : List Nat} {dy : Bool} {yl : Nat → List AVal → AMem → Option (AVal × AMem)} {n : Nat} {L : List (FuncId × Con)} {l : List Oper} {id : Nat} {d : Bool} {dst : Option Nat} {it : Operand} {rest : List Oper} {b mb : Nat} {left : List Nat} {cur : Option (AVal × AVal)}
    (hx : (gamg ks dy yl n L).nx id = true) (hn : isNext l = some (dst, it, rest)) (hi : ev e it = .ptr b 0 0) (hb : m.H[b]? = some (.iter mb (sents left) cur))
    (h0 : left = [] → regW (opsO P (gamg ks dy yl n L) mu (prep l rest) (some ⟨put e dst (.tup (.bool false) []), m⟩)) Q)
    (h1 : ∀ k left', left.Perm (k :: left') → regW (opsO P (gamg ks dy yl n L) mu (prep l rest) (some ⟨put e dst (.tup (.bool true) [.int .i64 ((k : Nat) : Int), .agg []]), ⟨m.H.set b (.iter mb (sents left') (some (.int .i64 ((k : Nat) : Int), .agg []))), m.T⟩⟩)) Q) :
    W P (gamg ks dy yl n L) mu hk tk (.region id l.toArray d) Q ⟨e, m⟩ := by
  rw [W_eq]
  have hl : isNext l.toArray.toList = some (dst, it, rest) := hn
  simp only [W0, hx, if_true, hl]
  have key : ∀ s : St, regW (opsO P (gamg ks dy yl n L) mu (prep l rest) (some s)) Q → ∃ s', aops P (gamg ks dy yl n L) mu l.toArray rest s = some s' ∧ Q .normal s' := fun s h => by
    rw [← aops_opsO] at h
    cases hs : aops P (gamg ks dy yl n L) mu l.toArray rest s with
    | none => rw [hs] at h; exact h.elim
    | some s' => rw [hs] at h; exact ⟨s', rfl, h⟩
  refine ⟨b, mb, sents left, cur, hi, hb, fun h => ?_, fun i hi2 => ?_⟩
  · refine key _ (h0 ?_)
    cases left with
    | nil => rfl
    | cons a l => simp [sents] at h
  · have hil : i < left.length := by simpa [sents] using hi2
    have := key _ (h1 left[i] (left.eraseIdx i) (perm_eraseIdx hil))
    rw [sents_get hi2, sents_erase]
    exact this
end
end Go.Hk
namespace Go.Hk
section
variable {P : Program} {t kt et : TypeId} {I K E : TI} {G l : List ABlk} {T : List (Nat × (Nat × Nat))} {d b mb : Nat} {os : List Nat}
theorem range_at {m : AMem} {es : List (AVal × AVal)} (hI : tiOf P t = some I) (hk : I.k = .map kt et) (h : m.H[b]? = some (.amap es)) : arange P t m (.map b) = some (.ptr m.H.length 0 0, ⟨m.H ++ [.iter b es none], m.T⟩) := by
  simp [arange, hI, hk, h]
theorem noIt_set {x : ABlk} (h : noIt b G = true) (hx : noIt1 b x = true) : noIt b (G.set d x) = true := by
  simp only [noIt, List.all_eq_true] at h ⊢
  intro y hy
  rcases List.mem_or_eq_of_mem_set hy with h1 | rfl
  · exact h y h1
  · exact hx
/-- A set that came in is written. -/
theorem set_putS (hI : tiOf P t = some I) (hk : I.k = .map kt et) (hK : tiOf P kt = some K) (hKk : K.k = .int .i64) (hd : d < G.length) (hG : noIt d G = true) (hl : noIt d l = true) (hn : os.Nodup) (k : Nat) :
    amput P t ⟨G.set d (.amap (sents os)) ++ l, T⟩ (.map d) (.int .i64 (k : Int)) (.agg []) = some (.undef, ⟨G.set d (.amap (sents (sput os k))) ++ l, T⟩) := by
  rw [set_put hI hk hK hKk (ks := os) (by rw [m_atS hd]; simp [hd]) hn (by rw [noIt_app, noIt_set hG rfl, hl]; rfl), m_setS hd, List.set_set]
/-- A set of one's own is written. -/
theorem set_putO (hI : tiOf P t = some I) (hk : I.k = .map kt et) (hK : tiOf P kt = some K) (hKk : K.k = .int .i64) {j : Nat} (hj : l[j]? = some (.amap (sents os))) (hG : noIt (G.length + j) G = true) (hl : noIt (G.length + j) l = true) (hn : os.Nodup) (k : Nat) :
    amput P t ⟨G ++ l, T⟩ (.map (G.length + j)) (.int .i64 (k : Int)) (.agg []) = some (.undef, ⟨G ++ l.set j (.amap (sents (sput os k))), T⟩) := by
  rw [set_put hI hk hK hKk (ks := os) (by rw [m_own]; exact hj) hn (by rw [noIt_app, hG, hl]; rfl), m_put]
theorem set_delS (hI : tiOf P t = some I) (hk : I.k = .map kt et) (hK : tiOf P kt = some K) (hKk : K.k = .int .i64) (hd : d < G.length) (hG : noIt d G = true) (hn : os.Nodup) {k : Nat} (hm : k ∈ os) (hl : l.all (delOK1 P kt d (.int .i64 (k : Int))) = true) :
    adelete P t ⟨G.set d (.amap (sents os)) ++ l, T⟩ (.map d) (.int .i64 (k : Int)) = some (.undef, ⟨G.set d (.amap (sents (os.eraseIdx (os.idxOf k)))) ++ l.map (dcur1 d), T⟩) := by
  have hG2 : noIt d (G.set d (.amap (sents os))) = true := noIt_set hG rfl
  rw [set_del hI hk hK hKk (ks := os) (by rw [m_atS hd]; simp [hd]) hn hm (by rw [List.all_append, hl, del_noIt hG2]; rfl), List.map_append, dcur_noIt hG2, m_setS hd, List.set_set]
end
/-- What came last, or nothing yet. -/
def curN (c : Option Nat) : Option (AVal × AVal) := c.map fun k => (.int .i64 ((k : Nat) : Int), .agg [])
theorem curN_clo {c : Option Nat} {h t : Nat} : (curN c).all (fun p => clo h t p.1 && clo h t p.2) = true := by
  cases c <;> simp [curN, clo, cloL]
theorem iter_clo {h t mb : Nat} {l : List Nat} {c : Option Nat} (hm : mb < h) : cloB h t (.iter mb (sents l) (curN c)) = true := by
  simp [cloB, sents_clo, curN_clo, hm]
end Go.Hk
namespace Go.Hk
theorem set_same {α : Type} {l : List α} {i : Nat} {x : α} (h : l[i]? = some x) : l.set i x = l := by
  obtain ⟨hi, rfl⟩ := List.getElem?_eq_some_iff.1 h
  exact List.set_getElem_self _
end Go.Hk
namespace Go.Hk
def entO : Option ABlk → Option AVal
  | some (.iter _ _ (some p)) => some (.tup p.1 [p.2])
  | _ => none
theorem q_entry {H : List ABlk} {T : List (Nat × (Nat × Nat))} {b : Nat} : aentry ⟨H, T⟩ (.ptr b 0 0) = entO H[b]? := by
  cases hh : H[b]? with
  | none => simp [aentry, entO, hh]
  | some x =>
    cases x with
    | iter mb l c => cases c <;> simp [aentry, entO, hh]
    | _ => simp [aentry, entO, hh]
theorem q_entO {mb : Nat} {l : List (AVal × AVal)} {p : AVal × AVal} : entO (some (.iter mb l (some p))) = some (.tup p.1 [p.2]) := rfl
attribute [go_sem] q_entry q_entO
theorem shut_setl {G l : List ABlk} {T : List (Nat × (Nat × Nat))} {d : Nat} {os : List Nat} (hs : shut ⟨G, T⟩ = true) (hl : l.all (cloB (G.length + l.length) T.length) = true) :
    (G.set d (.amap (sents os)) ++ l).all (cloB (G.set d (.amap (sents os)) ++ l).length T.length) = true :=
  shut_two hs sents_cloB fun h hh => by
    rw [List.all_eq_true] at hl ⊢
    exact fun x hx => cloB_mono hh (Nat.le_refl _) (hl x hx)
end Go.Hk
namespace Go.Hk
theorem cells0_clo {h t : Nat} : cloB h t (.cells 0 []) = true := rfl
theorem idx_erase {q : List Nat} {k : Nat} : q.eraseIdx (q.idxOf k) = q.erase k := (List.erase_eq_eraseIdx_of_idxOf rfl).symm
theorem del_left {P : Program} {kt : TypeId} {K : TI} (hK : tiOf P kt = some K) (hKk : K.k = .int .i64) {d k : Nat} {left : List Nat} {c : Option (AVal × AVal)} (h : k ∉ left) : delOK1 P kt d (.int .i64 (k : Int)) (.iter d (sents left) c) = true := by
  simp only [delOK1, bne_self_eq_false, Bool.false_or, sents, List.all_map, List.all_eq_true, Function.comp_apply]
  intro x hx
  rw [eq_int hK hKk]
  have hne : ¬ ((k : Int) = (x : Int)) := fun e => h (Int.ofNat.inj e ▸ hx)
  rw [decide_eq_false hne]
  rfl
end Go.Hk
namespace Go.Hk
def clR (t : TypeId) (H : List ABlk) (T : List (Nat × (Nat × Nat))) : Option ABlk → Option (AVal × AMem)
  | some (.amap es) => some (.ifc t (.map H.length), ⟨H ++ [.amap es], T⟩)
  | _ => none
def iCl (xs : List AVal) (m : AMem) : Option (AVal × AMem) :=
  match xs with
  | [.ifc t (.map b)] => clR t m.H m.T m.H[b]?
  | _ => none
theorem iCl_eq {t b : Nat} {H : List ABlk} {T : List (Nat × (Nat × Nat))} : iCl [.ifc t (.map b)] ⟨H, T⟩ = clR t H T H[b]? := rfl
theorem iCl_spec {xs : List AVal} {m m' : AMem} {v : AVal} (h : iCl xs m = some (v, m')) : ∃ t b es, xs = [.ifc t (.map b)] ∧ m.H[b]? = some (.amap es) ∧ v = .ifc t (.map m.H.length) ∧ m' = ⟨m.H ++ [.amap es], m.T⟩ := by
  unfold iCl at h
  split at h
  · rename_i t b
    unfold clR at h
    split at h
    · rename_i es hb
      cases h
      exact ⟨t, b, es, rfl, hb, rfl, rfl⟩
    · cases h
  · cases h
theorem q_clR {t : Nat} {H : List ABlk} {T : List (Nat × (Nat × Nat))} {es : List (AVal × AVal)} : clR t H T (some (.amap es)) = some (.ifc t (.map H.length), ⟨H ++ [.amap es], T⟩) := rfl
attribute [go_sem] q_clR
end Go.Hk
namespace Go.Hk
theorem one_step {ks left left' o : List Nat} {k : Nat} (Q : Nat → Prop) (hp : left.Perm (k :: left')) (hkl : k ∉ left') (hkk : k ∈ ks) (h : ∀ j, j ∈ o ↔ ∃ i, (i ∈ ks ∧ i ∉ left) ∧ Q i ∧ j = i + 1) :
    (Q k → ∀ j, j ∈ sput o (k + 1) ↔ ∃ i, (i ∈ ks ∧ i ∉ left') ∧ Q i ∧ j = i + 1) ∧ (¬ Q k → ∀ j, j ∈ o ↔ ∃ i, (i ∈ ks ∧ i ∉ left') ∧ Q i ∧ j = i + 1) := by
  have hj := fun j => hp.mem_iff (a := j)
  simp only [List.mem_cons] at hj
  have key : ∀ j, (∃ i, (i ∈ ks ∧ i ∉ left') ∧ Q i ∧ j = i + 1) ↔ (j ∈ o ∨ (Q k ∧ j = k + 1)) := fun j => by
    rw [h j]
    constructor
    · rintro ⟨i, ⟨h1, h2⟩, h3, h4⟩
      by_cases e : i = k
      · subst e; exact .inr ⟨h3, h4⟩
      · exact .inl ⟨i, ⟨h1, fun hl => by rcases (hj i).1 hl with a | a; exact e a; exact h2 a⟩, h3, h4⟩
    · rintro (⟨i, ⟨h1, h2⟩, h3, h4⟩ | ⟨h3, h4⟩)
      · exact ⟨i, ⟨h1, fun hl => h2 ((hj i).2 (.inr hl))⟩, h3, h4⟩
      · exact ⟨k, ⟨hkk, hkl⟩, h3, h4⟩
  refine ⟨fun hq j => ?_, fun hq j => ?_⟩
  · rw [sput_mem, key j]
    constructor
    · rintro (a | a)
      · exact .inl a
      · exact .inr ⟨hq, a⟩
    · rintro (a | ⟨_, a⟩)
      · exact .inl a
      · exact .inr a
  · rw [key j]
    exact ⟨.inl, fun a => by rcases a with a | ⟨a, _⟩; exact a; exact absurd a hq⟩
end Go.Hk
