/- Layer 6, the plain law: a text is of one set of rules only. -/
import Derived.Test.YtpbepclmcjmlbaaDoorHkSp2
set_option linter.unusedSimpArgs false
set_option linter.unusedVariables false
namespace Go.Hk
abbrev nulR : Rx := .mk 0 0 0 0 []
/-- A rule that may be, told. -/
structure RuOk (l : List Cd) (r : Ru) : Prop where
  cs : ∀ c ∈ r.conds, 0 ≤ c ∧ c < l.length
  al : r.all = true → r.conds = []
  ac : (r.act = 3 ∧ 0 ≤ r.to ∧ r.to < l.length) ∨ ((r.act = 1 ∨ r.act = 2) ∧ r.to = 0)
  mt : (r.eof = true ∧ r.bol = false ∧ r.rx = nulR ∧ r.trail = nulR) ∨ (r.eof = false ∧ WR r.rx ∧ (r.trail = nulR ∨ (noneX r.trail = false ∧ WR r.trail)))
theorem rightT_WR {x : Rx} (h : okX x) (hr : rightT x = true) : WR x := by
  unfold rightT at hr
  simp only [Bool.and_eq_true] at hr
  exact ⟨h, 20, hr.1.1⟩
theorem ruleB_ok {l : List Cd} {r : Ru} (h : ruleB l.length r = true) (h1 : okX r.rx) (h2 : okX r.trail) : RuOk l r := by
  unfold ruleB holdsB doesB matchB at h
  simp only [Bool.and_eq_true] at h
  obtain ⟨⟨⟨ha, hb⟩, hc⟩, hd⟩ := h
  refine ⟨rise_bd _ _ (by omega) ha, fun h => ?_, ?_, ?_⟩
  · rw [h] at hb
    simpa using hb
  · split at hc
    · simp only [Bool.and_eq_true, decide_eq_true_eq] at hc
      exact .inl ⟨by assumption, hc.1, hc.2⟩
    · simp only [Bool.and_eq_true, Bool.or_eq_true, decide_eq_true_eq] at hc
      exact .inr hc
  · split at hd
    · simp only [Bool.and_eq_true, Bool.not_eq_true'] at hd
      exact .inl ⟨by assumption, hd.1.1, noneX_eq hd.1.2, noneX_eq hd.2⟩
    · rename_i he
      simp only [Bool.and_eq_true, Bool.or_eq_true] at hd
      refine .inr ⟨by simpa using he, rightT_WR h1 hd.1, ?_⟩
      cases hn : noneX r.trail
      · rw [hn] at hd
        simp at hd
        exact .inr ⟨rfl, rightT_WR h2 hd.2⟩
      · exact .inl (noneX_eq hn)
theorem where_cases {l : List Cd} {r : Ru} (h : RuOk l r) : (r.all = true ∧ r.conds = [] ∧ whereT l r = [60, 42, 62]) ∨ (r.all = false ∧ r.conds = [] ∧ whereT l r = []) ∨
    (r.all = false ∧ ∃ c q, r.conds = c :: q ∧ whereT l r = 60 :: (joinS [44] (nameAt l c :: q.map (nameAt l)) ++ [62])) := by
  unfold whereT
  cases ha : r.all
  · cases hc : r.conds with
    | nil => exact .inr (.inl ⟨rfl, rfl, by simp⟩)
    | cons c q => exact .inr (.inr ⟨rfl, c, q, rfl, by simp⟩)
  · exact .inl ⟨rfl, h.al ha, by simp⟩
theorem nm_st {l : List Cd} (hl : CdsOk l) {c : Int} {q : List (List UInt8)} (hc : 0 ≤ c ∧ c < l.length) : ∃ b t, joinS [44] (nameAt l c :: q) = b :: t ∧ nb b = true := by
  obtain ⟨h1, h2⟩ := nameB_nb (nameAt_ok hl hc)
  cases hn : nameAt l c with
  | nil => exact absurd hn h2
  | cons b t => exact ⟨b, _, by rw [joinS]; rfl, h1 b (by rw [hn]; simp)⟩
theorem nulR_none : noneX nulR = true := rfl
theorem ru_st {l : List Cd} {r : Ru} (h : RuOk l r) : (∃ t, ruT r = 60 :: 60 :: t) ∨ (∃ b t, ruT r = b :: t ∧ b ≠ 60) := by
  unfold ruT
  rcases h.mt with ⟨h1, h2, h3, h4⟩ | ⟨h1, h2, h3⟩
  · rw [h1]; exact .inl ⟨_, rfl⟩
  · obtain ⟨b, t, e, hb⟩ := text_st2 h2
    rw [h1]
    refine .inr ?_
    cases r.bol
    · refine ⟨b, _, by rw [e]; rfl, fun hb' => ?_⟩
      rw [hb'] at hb
      exact absurd hb (by decide)
    · exact ⟨94, _, rfl, by decide⟩
theorem where_inj {l : List Cd} (hl : CdsOk l) {r q : Ru} (hr : RuOk l r) (hq : RuOk l q) {u v : List UInt8} (h : whereT l r ++ (ruT r ++ u) = whereT l q ++ (ruT q ++ v)) : r.all = q.all ∧ r.conds = q.conds ∧ ruT r ++ u = ruT q ++ v := by
  have sr := ru_st hr
  have sq := ru_st hq
  rcases where_cases hr with ⟨a1, a2, a3⟩ | ⟨a1, a2, a3⟩ | ⟨a1, c, x, a2, a3⟩ <;> rcases where_cases hq with ⟨b1, b2, b3⟩ | ⟨b1, b2, b3⟩ | ⟨b1, d, y, b2, b3⟩ <;> rw [a3, b3] at h
  · exact ⟨by rw [a1, b1], by rw [a2, b2], by simpa using h⟩
  · exfalso
    rcases sq with ⟨t, e⟩ | ⟨b, t, e, hb⟩ <;> rw [e] at h <;> simp at h
    exact hb h.1.symm
  · exfalso
    obtain ⟨b, t, e, hb⟩ := nm_st hl (c := d) (q := y.map (nameAt l)) (hq.cs d (by rw [b2]; simp))
    rw [e] at h
    simp at h
    exact (nb_ne b hb).2.2.2.2.1 h.1.symm
  · exfalso
    rcases sr with ⟨t, e⟩ | ⟨b, t, e, hb⟩ <;> rw [e] at h <;> simp at h
    exact hb h.1
  · exact ⟨by rw [a1, b1], by rw [a2, b2], by simpa using h⟩
  · exfalso
    obtain ⟨b, t, e, hb⟩ := nm_st hl (c := d) (q := y.map (nameAt l)) (hq.cs d (by rw [b2]; simp))
    rw [e] at h
    rcases sr with ⟨t, e⟩ | ⟨b', t, e, hb'⟩ <;> rw [e] at h <;> simp at h
    · exact (nb_ne b hb).2.2.2.2.2 h.1.symm
    · exact hb' h.1
  · exfalso
    obtain ⟨b, t, e, hb⟩ := nm_st hl (c := c) (q := x.map (nameAt l)) (hr.cs c (by rw [a2]; simp))
    rw [e] at h
    simp at h
    exact (nb_ne b hb).2.2.2.2.1 h.1
  · exfalso
    obtain ⟨b, t, e, hb⟩ := nm_st hl (c := c) (q := x.map (nameAt l)) (hr.cs c (by rw [a2]; simp))
    rw [e] at h
    rcases sq with ⟨t, e⟩ | ⟨b', t, e, hb'⟩ <;> rw [e] at h <;> simp at h
    · exact (nb_ne b hb).2.2.2.2.2 h.1
    · exact hb' h.1.symm
  · simp only [List.cons_append, List.append_assoc, List.nil_append, List.cons.injEq, true_and] at h
    have k1 : ∀ z ∈ nameAt l c :: x.map (nameAt l), nameB z = true := by
      intro z hz
      obtain ⟨w, hw, rfl⟩ := List.mem_map.1 (show z ∈ (c :: x).map (nameAt l) from hz)
      exact nameAt_ok hl (hr.cs w (by rw [a2]; exact hw))
    have k2 : ∀ z ∈ nameAt l d :: y.map (nameAt l), nameB z = true := by
      intro z hz
      obtain ⟨w, hw, rfl⟩ := List.mem_map.1 (show z ∈ (d :: y).map (nameAt l) from hz)
      exact nameAt_ok hl (hq.cs w (by rw [b2]; exact hw))
    obtain ⟨e, f⟩ := js_inj k1 k2 h
    have := names_inj hl (c :: x) (d :: y) (fun w hw => hr.cs w (by rw [a2]; exact hw)) (fun w hw => hq.cs w (by rw [b2]; exact hw)) e
    exact ⟨by rw [a1, b1], by rw [a2, b2, this], f⟩
theorem tb_ne {b c : UInt8} (h : tb b = true) (hc : tb c = false) : b ≠ c := fun e => by rw [e, hc] at h; cases h
theorem ru_inj {l : List Cd} {r q : Ru} (hr : RuOk l r) (hq : RuOk l q) {u v : List UInt8} (h : ruT r ++ 32 :: u = ruT q ++ 32 :: v) : r.eof = q.eof ∧ r.bol = q.bol ∧ r.rx = q.rx ∧ r.trail = q.trail ∧ u = v := by
  have two : ∀ {r q : Ru}, WR r.rx → WR q.rx → (r.trail = nulR ∨ (noneX r.trail = false ∧ WR r.trail)) → (q.trail = nulR ∨ (noneX q.trail = false ∧ WR q.trail)) → ∀ {u v : List UInt8},
      text r.rx ++ ((if noneX r.trail then [] else 47 :: text r.trail) ++ 32 :: u) = text q.rx ++ ((if noneX q.trail then [] else 47 :: text q.trail) ++ 32 :: v) → r.rx = q.rx ∧ r.trail = q.trail ∧ u = v := by
    intro r q h1 h2 h3 h4 u v h
    rcases h3 with h3 | ⟨h3, k3⟩ <;> rcases h4 with h4 | ⟨h4, k4⟩
    · rw [h3, h4, nulR_none] at h
      obtain ⟨e, _, f⟩ := text_in h1 h2 (a := 32) (b := 32) (by decide) (by decide) (by simpa using h)
      exact ⟨e, by rw [h3, h4], f⟩
    · rw [h3, h4, nulR_none] at h
      have := (text_in h1 h2 (a := 32) (b := 47) (by decide) (by decide) (by simpa using h)).2.1
      exact absurd this (by decide)
    · rw [h3, h4, nulR_none] at h
      have := (text_in h1 h2 (a := 47) (b := 32) (by decide) (by decide) (by simpa using h)).2.1
      exact absurd this (by decide)
    · rw [h3, h4] at h
      obtain ⟨e, _, f⟩ := text_in h1 h2 (a := 47) (b := 47) (by decide) (by decide) (by simpa using h)
      obtain ⟨e2, _, f2⟩ := text_in k3 k4 (a := 32) (b := 32) (by decide) (by decide) f
      exact ⟨e, e2, f2⟩
  unfold ruT at h
  rcases hr.mt with ⟨h1, h2, h3, h4⟩ | ⟨h1, h2, h3⟩ <;> rcases hq.mt with ⟨k1, k2, k3, k4⟩ | ⟨k1, k2, k3⟩ <;> rw [h1, k1] at h
  · refine ⟨by rw [h1, k1], by rw [h2, k2], by rw [h3, k3], by rw [h4, k4], by simpa using h⟩
  · exfalso
    obtain ⟨b, t, e, hb⟩ := text_st2 k2
    cases hbl : q.bol <;> rw [hbl, e] at h <;> simp at h
    exact tb_ne hb (by decide) h.1.symm
  · exfalso
    obtain ⟨b, t, e, hb⟩ := text_st2 h2
    cases hbl : r.bol <;> rw [hbl, e] at h <;> simp at h
    exact tb_ne hb (by decide) h.1
  · obtain ⟨b, t, e, hb⟩ := text_st2 h2
    obtain ⟨c, t', e', hc⟩ := text_st2 k2
    cases hbl : r.bol <;> cases hbq : q.bol <;> rw [hbl, hbq] at h
    · obtain ⟨f1, f2, f3⟩ := two h2 k2 h3 k3 (by simpa using h)
      exact ⟨by rw [h1, k1], rfl, f1, f2, f3⟩
    · exfalso
      rw [e] at h; simp at h
      exact tb_ne hb (by decide) h.1
    · exfalso
      rw [e'] at h; simp at h
      exact tb_ne hc (by decide) h.1.symm
    · obtain ⟨f1, f2, f3⟩ := two h2 k2 h3 k3 (by simpa using h)
      exact ⟨by rw [h1, k1], rfl, f1, f2, f3⟩
theorem act_st {l : List Cd} {r : Ru} : ∃ t, actT l r = 32 :: t := by
  unfold actT
  split
  · exact ⟨_, rfl⟩
  · split <;> exact ⟨_, rfl⟩
theorem act_cases {l : List Cd} {r : Ru} (h : RuOk l r) : (r.act = 1 ∧ r.to = 0 ∧ actT l r = [32, 101, 109, 105, 116]) ∨ (r.act = 2 ∧ r.to = 0 ∧ actT l r = [32, 115, 107, 105, 112]) ∨ (r.act = 3 ∧ 0 ≤ r.to ∧ r.to < l.length ∧ actT l r = [32, 98, 101, 103, 105, 110, 32] ++ nameAt l r.to) := by
  unfold actT
  rcases h.ac with ⟨h1, h2, h3⟩ | ⟨h1 | h1, h2⟩
  · exact .inr (.inr ⟨h1, h2, h3, by rw [h1]; rfl⟩)
  · exact .inl ⟨h1, h2, by rw [h1]; rfl⟩
  · exact .inr (.inl ⟨h1, h2, by rw [h1]; rfl⟩)
theorem act_inj {l : List Cd} (hl : CdsOk l) {r q : Ru} (hr : RuOk l r) (hq : RuOk l q) {u v : List UInt8} (h : actT l r ++ 10 :: u = actT l q ++ 10 :: v) : r.act = q.act ∧ r.to = q.to ∧ u = v := by
  rcases act_cases hr with ⟨a1, a2, a3⟩ | ⟨a1, a2, a3⟩ | ⟨a1, a2, a3, a4⟩ <;> rcases act_cases hq with ⟨b1, b2, b3⟩ | ⟨b1, b2, b3⟩ | ⟨b1, b2, b3, b4⟩
  · rw [a3, b3] at h; exact ⟨by rw [a1, b1], by rw [a2, b2], by simpa using h⟩
  · rw [a3, b3] at h; simp at h
  · rw [a3, b4] at h; simp at h
  · rw [a3, b3] at h; simp at h
  · rw [a3, b3] at h; exact ⟨by rw [a1, b1], by rw [a2, b2], by simpa using h⟩
  · rw [a3, b4] at h; simp at h
  · rw [a4, b3] at h; simp at h
  · rw [a4, b3] at h; simp at h
  · rw [a4, b4] at h
    simp only [List.cons_append, List.nil_append, List.cons.injEq, true_and] at h
    obtain ⟨e, _, f⟩ := nm_cut (nameAt_ok hl ⟨a2, a3⟩) (nameAt_ok hl ⟨b2, b3⟩) (a := 10) (b := 10) (by decide) (by decide) h
    exact ⟨by rw [a1, b1], nameAt_inj hl ⟨a2, a3⟩ ⟨b2, b3⟩ e, f⟩
theorem line_inj {l : List Cd} (hl : CdsOk l) {r q : Ru} (hr : RuOk l r) (hq : RuOk l q) {u v : List UInt8} (h : lineT l r ++ u = lineT l q ++ v) : r = q ∧ u = v := by
  simp only [lineT, List.append_assoc, List.cons_append, List.nil_append] at h
  obtain ⟨e1, e2, h⟩ := where_inj hl hr hq h
  obtain ⟨t, ht⟩ := act_st (l := l) (r := r)
  obtain ⟨t', ht'⟩ := act_st (l := l) (r := q)
  have h' := h
  rw [ht, ht'] at h'
  obtain ⟨f1, f2, f3, f4, f5⟩ := ru_inj hr hq (u := t ++ 10 :: u) (v := t' ++ 10 :: v) (by simpa using h')
  obtain ⟨g1, g2, g3⟩ := act_inj hl hr hq (u := u) (v := v) (by rw [ht, ht']; simpa using f5)
  refine ⟨?_, g3⟩
  cases r; cases q
  simp only at e1 e2 f1 f2 f3 f4 g1 g2
  subst e1; subst e2; subst f1; subst f2; subst f3; subst f4; subst g1; subst g2
  rfl
theorem line_pos {l : List Cd} {r : Ru} : lineT l r ≠ [] := by
  intro h
  have := congrArg List.length h
  simp [lineT] at this
theorem lines_inj {l : List Cd} (hl : CdsOk l) : ∀ a b : List Ru, (∀ r ∈ a, RuOk l r) → (∀ r ∈ b, RuOk l r) → linesT l a = linesT l b → a = b
  | [], [], _, _, _ => rfl
  | [], q :: b, _, _, h => by
    simp only [linesT] at h
    exact absurd (List.append_eq_nil_iff.1 h.symm).1 line_pos
  | r :: a, [], _, _, h => by
    simp only [linesT] at h
    exact absurd (List.append_eq_nil_iff.1 h).1 line_pos
  | r :: a, q :: b, ha, hb, h => by
    simp only [linesT] at h
    obtain ⟨e, f⟩ := line_inj hl (ha r (by simp)) (hb q (by simp)) h
    rw [e, lines_inj hl a b (fun z hz => ha z (by simp [hz])) (fun z hz => hb z (by simp [hz])) f]
theorem head_st {s : Sp} {u : List UInt8} : ∃ c t, headT s ++ u = 37 :: c :: t ∧ c ≠ 120 ∧ c ≠ 115 := by
  unfold headT
  split
  · exact ⟨37, _, rfl, by decide, by decide⟩
  · exact ⟨110, _, rfl, by decide, by decide⟩
theorem conds_inj {s t : Sp} : ∀ (a b : List Cd) (u v : List UInt8), (∀ c ∈ a, nameB c.name = true) → (∀ c ∈ b, nameB c.name = true) → condsT a ++ (headT s ++ u) = condsT b ++ (headT t ++ v) → a = b ∧ headT s ++ u = headT t ++ v
  | [], [], u, v, _, _, h => ⟨rfl, h⟩
  | [], d :: b, u, v, _, _, h => by
    obtain ⟨c, q, e, h1, h2⟩ := head_st (s := s) (u := u)
    simp only [condsT, condT, List.nil_append, e] at h
    simp only [List.append_assoc, List.cons_append, List.nil_append, List.cons.injEq, true_and] at h
    have h := h.1
    split at h
    · exact absurd h h1
    · exact absurd h h2
  | d :: a, [], u, v, _, _, h => by
    obtain ⟨c, q, e, h1, h2⟩ := head_st (s := t) (u := v)
    simp only [condsT, condT, List.nil_append, e] at h
    simp only [List.append_assoc, List.cons_append, List.nil_append, List.cons.injEq, true_and] at h
    have h := h.1
    split at h
    · exact absurd h.symm h1
    · exact absurd h.symm h2
  | c :: a, d :: b, u, v, ha, hb, h => by
    simp only [condsT, condT, List.append_assoc, List.cons_append, List.nil_append, List.cons.injEq, true_and] at h
    obtain ⟨h1, h2⟩ := h
    obtain ⟨e, _, f⟩ := nm_cut (ha c (by simp)) (hb d (by simp)) (a := 10) (b := 10) (by decide) (by decide) h2
    obtain ⟨g, k⟩ := conds_inj a b u v (fun z hz => ha z (by simp [hz])) (fun z hz => hb z (by simp [hz])) f
    refine ⟨?_, k⟩
    cases c; cases d
    simp only at h1 e
    subst e
    rw [g]
    congr 2
    split at h1 <;> split at h1 <;> simp_all
theorem head_inj {s t : Sp} {u v : List UInt8} (h : headT s ++ u = headT t ++ v) : s.deft = t.deft ∧ u = v := by
  unfold headT at h
  cases hs : s.deft <;> cases ht : t.deft <;> rw [hs, ht] at h <;> simp at h
  · exact ⟨rfl, h⟩
  · exact ⟨rfl, h⟩
/-- Rules that may be, of patterns that are small. -/
structure SpOk (s : Sp) : Prop where
  right : rightS s = true
  ok : ∀ r ∈ s.rules, okX r.rx ∧ okX r.trail
theorem SpOk.cds {s : Sp} (h : SpOk s) : CdsOk s.conds := by
  have := h.right
  simp only [rightS, Bool.and_eq_true, List.all_eq_true] at this
  exact ⟨fun c hc => this.1.1.2 c hc, this.1.2⟩
theorem SpOk.rls {s : Sp} (h : SpOk s) : ∀ r ∈ s.rules, RuOk s.conds r := by
  have := h.right
  simp only [rightS, Bool.and_eq_true, List.all_eq_true] at this
  exact fun r hr => ruleB_ok (this.2 r hr) (h.ok r hr).1 (h.ok r hr).2
theorem SpOk.first {s : Sp} (h : SpOk s) : ∃ l, s.conds = ⟨initial, false⟩ :: l := by
  have := h.right
  simp only [rightS, Bool.and_eq_true, decide_eq_true_eq, Bool.not_eq_true'] at this
  obtain ⟨⟨⟨⟨⟨⟨⟨h1, _⟩, _⟩, h2⟩, h3⟩, _⟩, _⟩, _⟩ := this
  cases hc : s.conds with
  | nil => rw [hc] at h1; simp at h1
  | cons c l =>
    rw [hc] at h2 h3
    simp only [List.getD_cons_zero] at h2 h3
    cases c
    simp only at h2 h3
    subst h2; subst h3
    exact ⟨l, rfl⟩
/-- Two of one text are the same. -/
theorem printS_inj {s t : Sp} (hs : SpOk s) (ht : SpOk t) (h : printS s = printS t) : s = t := by
  obtain ⟨l, hl⟩ := hs.first
  obtain ⟨q, hq⟩ := ht.first
  have n1 := hs.cds.names
  have n2 := ht.cds.names
  have c1 := hs.cds
  have r1 := hs.rls
  have r2 := ht.rls
  unfold printS at h
  rw [hl] at h n1 c1 r1
  rw [hq] at h n2 r2
  simp only [List.drop_succ_cons, List.drop_zero] at h
  obtain ⟨e, h⟩ := conds_inj l q _ _ (fun z hz => n1 z (by simp [hz])) (fun z hz => n2 z (by simp [hz])) h
  obtain ⟨e2, h⟩ := head_inj h
  subst e
  have e3 := lines_inj c1 _ _ r1 r2 h
  cases s; cases t
  simp only at hl hq e2 e3
  subst hl; subst hq; subst e2; subst e3
  rfl
end Go.Hk
