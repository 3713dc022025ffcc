/- A range over a function; its rounds; a step of a walk over a map. -/
import Derived.Test.YtojahfdjfacgaaaHkQ17
set_option linter.unusedSimpArgs false
set_option linter.unusedVariables false
namespace Go.Hk

/-- What is done when the function that was ranged over has come back. -/
def pendQ (Q : Exit → St → Prop) : Option Code → St → Prop
  | none, s => Q .normal s
  | some .ret, s => Q .ret s
  | some (.exit i), s => Q (.exit i) s
  | _, _ => False
theorem pendQ.mono {Q Q' : Exit → St → Prop} (hq : ∀ e s, Q e s → Q' e s) {p : Option Code} {s : St} (h : pendQ Q p s) : pendQ Q' p s := by
  unfold pendQ at h ⊢
  split at h <;> first | exact hq _ _ h | exact h.elim

theorem ER.bind {κ : Cx} : ∀ (ps : List Nat) (args : List AVal) (vals : List Value) (env : List (Nat × AVal)) (tmps : Array Value), ER κ env tmps → (∀ p ∈ ps, p < tmps.size) → args.length = ps.length → vals.length = ps.length →
    (∀ (j : Nat) (h : j < args.length), VR κ args[j] (vals.getD j undef)) → ER κ ((ps.zip args).foldl (fun e p => p :: e) env) ((ps.zip vals).foldl (fun t p => t.setIfInBounds p.1 p.2) tmps)
  | [], args, vals, env, tmps, he, _, _, _, _ => by simpa using he
  | p :: ps, [], vals, env, tmps, _, _, h, _, _ => by simp at h
  | p :: ps, a :: args, [], env, tmps, _, _, _, h, _ => by simp at h
  | p :: ps, a :: args, v :: vals, env, tmps, he, hp, h1, h2, hv => by
    simp only [List.zip_cons_cons, List.foldl_cons]
    refine ER.bind ps args vals ((p, a) :: env) (tmps.setIfInBounds p v) (he.put (hp p (by simp)) (hv 0 (by simp))) (fun q hq => by simpa using hp q (by simp [hq])) (by simpa using h1) (by simpa using h2) fun j hj => ?_
    exact hv (j + 1) (by simpa using hj)
/-- The loop's variables, bound. -/
def bindP (ps : List Nat) (args : List AVal) (env : List (Nat × AVal)) : List (Nat × AVal) := (ps.zip args).foldl (fun e p => p :: e) env

theorem set_loop {γ : Ghost} {b : Nat} {st st' : LoopState} {pend pend' : Option Code} {ps : Array Tmp} {asg body : Code} {env : List (Nat × AVal)} {n : Nat} (hr : Rl γ) (hb : γ.S.H[b]? = some (.loop st pend ps asg body env n)) {r : Loop} (hg : γ.w.heap[γ.ι.h b]? = some (.loop r)) :
    ∃ γ', γ'.w = γ.w.putObj (γ.ι.h b) (.loop { r with state := st', pending := pend' }) ∧ Ext γ γ' ∧ Rl γ' ∧ γ'.S = { γ.S with H := γ.S.H.set b (.loop st' pend' ps asg body env n) } := by
  obtain ⟨o, h1, r', rfl, k1, k2, k3, k4, k5, k6, k7⟩ := hr.objs b _ hb
  rw [hg] at h1
  cases h1
  have hm : Mset γ.S.H b (.loop st' pend' ps asg body env n) (γ.S.H.set b (.loop st' pend' ps asg body env n)) := .put hb
  refine ⟨γ.mset b (γ.S.H.set b (.loop st' pend' ps asg body env n)) (.loop { r with state := st', pending := pend' }), rfl, ext_mset hr hb rfl rfl hm, rl_mset hr hb rfl rfl hm ⟨_, rfl, rfl, rfl, k3, k4, k5, k6, k7⟩ (fun _ _ _ h => by cases h) (fun x l c c' _ hx _ => ?_), rfl⟩
  obtain ⟨es, en, clk, since, seen, c0, g1, _⟩ := hr.its x b l c hx
  rw [hb] at g1; cases g1

section
variable {P : Program} {n hk tk : Nat}

/-- A range over a function: it is called with yield; what a round has left pending is done behind it. -/
theorem awp_rangeFunc {g : Operand} {ps : Array Tmp} {asg body : Code} {f : FuncId} {first caps : List AVal} {r : AVal} {s : St} {m2 : AMem} {st : LoopState} {pend : Option Code} {Q : Exit → St → Prop} (hg : ev s.env g = .fn f first caps)
    (hcall : RCall P f (first ++ [.yld s.m.H.length] ++ caps) ⟨s.m.H ++ [.loop .ready none ps asg body s.env n], s.m.T⟩ r m2)
    (h2 : m2.H[s.m.H.length]? = some (.loop st pend ps asg body s.env n)) (hst : st ≠ .busy)
    (hq : pendQ Q pend ⟨s.env, { m2 with H := m2.H.set s.m.H.length (.loop .exhausted pend ps asg body s.env n) }⟩) : AWp P n hk tk (.rangeFunc g ps asg body) Q s := by
  intro ro z γ a hro hh hmk
  obtain ⟨rfl, hzo⟩ := hro rfl
  have hv := hh.er.ev g
  rw [hg] at hv
  cases hav : a.eval g <;> rw [hav] at hv <;> cases hv
  rename_i xs ys hx1 kx1 hx2 kx2
  refine wpIn_rangeFunc fun fn _ => ?_
  -- the two blocks
  have hgr : Grow γ.w (γ.w.alloc (.deferred (some []))) := Grow.alloc _ _
  have hra := rl_grow hh.rl hgr
  have hea := ext_grow (γ := γ) hgr
  generalize hγa : ({ γ with w := γ.w.alloc (.deferred (some [])) } : Ghost) = γa at hra hea
  have hSa : γa.S = s.m := by rw [← hγa]; exact hh.m
  have hwa : γa.w = γ.w.alloc (.deferred (some [])) := by rw [← hγa]
  have hsza : γa.w.heap.size = γ.w.heap.size + 1 := by rw [hwa]; simp
  let rec0 : Loop := { state := .ready, pending := none, fn, tmps := a.tmps, params := ps, assign := asg, body, defers := γ.w.heap.size }
  have hBR : BR γa.cx 0 0 (.loop .ready none ps asg body s.env n) (.loop rec0) := ⟨rec0, rfl, rfl, rfl, rfl, rfl, rfl, hh.er.mono hea.le, hh.size⟩
  have hrb := rl_push' (c := 0) (z := 0) (x := .loop .ready none ps asg body s.env n) (o := .loop rec0) hra hBR trivial
  have heb : Ext γa (γa.push (.loop .ready none ps asg body s.env n) 0 0 (.loop rec0)) := ext_push
  have hblk : (γa.push (.loop .ready none ps asg body s.env n) 0 0 (.loop rec0)).cx.blk γa.S.H.length 0 γa.w.heap.size 0 := push_blk rfl
  generalize hγb : γa.push (.loop .ready none ps asg body s.env n) 0 0 (.loop rec0) = γb at hrb heb hblk
  have hSb : γb.S = ⟨s.m.H ++ [.loop .ready none ps asg body s.env n], s.m.T⟩ := by rw [← hγb]; simp only [Ghost.push, hSa]
  have hwb : γb.w = (γ.w.alloc (.deferred (some []))).alloc (.loop rec0) := by rw [← hγb]; simp only [Ghost.push, hwa]
  have heab := hea.trans heb
  rw [hSa, hsza] at hblk
  -- the call
  have hargs : VRs γb.cx (first ++ [.yld s.m.H.length] ++ caps) (xs ++ #[Value.func (.yield (γ.w.heap.size + 1)) #[] #[]] ++ ys) := by
    have hmono := heab.le
    refine VRs.append (VRs.append ⟨hx1, fun j hj => (kx1 j hj).mono hmono⟩ ⟨rfl, fun j hj => ?_⟩) ⟨hx2, fun j hj => (kx2 j hj).mono hmono⟩
    have : j = 0 := by simp at hj; omega
    subst this
    exact .yld _ _ _ hblk
  refine ⟨γ.w.heap.size + 1, [mark γ.w.heap.size], γb.w, { target := .fn (.func f) ys, args := xs ++ #[Value.func (.yield (γ.w.heap.size + 1)) #[] #[]] }, γb.w, f, xs ++ #[Value.func (.yield (γ.w.heap.size + 1)) #[] #[]] ++ ys, γb.w, ?_, ?_, fun _ _ => trivial, ?_, fun h => by simp [wfen, Fence.wide] at h, ?_⟩
  · rw [hwb]
    exact run_enterLoop_outer fn a.tmps ps asg body
  · have e1 : (resolve a.eval (rangeCall g (γ.w.heap.size + 1)) 0) = Deferred.ofValue (a.eval g) #[Value.func (.yield (γ.w.heap.size + 1)) #[] #[]] := by
      simp only [rangeCall, resolve, Array.map_singleton, List.map_toArray, List.map_cons, List.map_nil]
      rfl
    rw [e1, hav]
    rfl
  · simp only [invoke]
    have := run_callFunc hcall.1 (xs ++ #[Value.func (.yield (γ.w.heap.size + 1)) #[] #[]] ++ ys) γb.w
    simpa using this
  refine callsIn_wd ((hcall.2 γb _ hrb hSb hargs).mono ?_)
  rintro e w' ⟨v, γ', rfl, rfl, hS', he', hr', hvr⟩
  have hb' : γ'.S.H[s.m.H.length]? = some (.loop st pend ps asg body s.env n) := by rw [hS']; exact h2
  have hl : γ'.ι.h s.m.H.length = γ.w.heap.size + 1 := by
    obtain ⟨y, hy, _, hy2⟩ := he'.blk _ _ _ _ hblk
    rw [hb'] at hy
    cases hy
    exact (hy2 rfl).1
  obtain ⟨o, ho, r1, rfl, k1, k2, k3, k4, k5, k6, k7⟩ := hr'.objs _ _ hb'
  obtain ⟨γ'', g1, g2, g3, g4⟩ := set_loop (st' := .exhausted) (pend' := pend) hr' hb' ho
  rw [hl] at ho g1
  refine ⟨r1.pending, γ''.w, ?_, ?_⟩
  · rw [g1]
    have := run_endLoop (P := P) ho (by rw [k1]; exact hst)
    rw [k2] at this ⊢
    exact this
  have hDb : γb.w.heap[γ.w.heap.size]? = some (.deferred (some [])) ∧ ¬ γb.owns γ.w.heap.size := by
    refine ⟨?_, fun ho => ?_⟩
    · rw [hwb]
      exact (Grow.alloc (γ.w.alloc (.deferred (some []))) (.loop rec0)).block _ (by simp) |>.trans (heap_alloc_new _ _)
    · rcases heb.owns _ ho with h | h
      · have : γ.owns γ.w.heap.size := by rw [← hγa] at h; exact h
        have := (hh.rl.own _ this).2
        omega
      · omega
  have hD' := ((he'.trans g2).toN (hk := 0) (tk := 0)).unowned hDb.1 hDb.2
  have hall := heab.trans (he'.trans g2)
  have hmk' : Mk z γ'' ([mark γ.w.heap.size] ++ a.defers) := by
    have hle := hmk.le
    obtain ⟨p0, _, _⟩ := hmk.ext (hall.toN (hk := 0) (tk := 0))
    obtain ⟨Ds, q1, q2, q3⟩ := hmk.dm
    refine ⟨p0, ⟨γ.w.heap.size :: Ds, by rw [q1]; rfl, List.nodup_cons.2 ⟨fun hm => ?_, q2⟩, fun D hD => ?_⟩, fun h => by rw [hzo] at h; cases h⟩
    · have := heap_lt (q3 _ hm).2.1; omega
    · rcases List.mem_cons.1 hD with rfl | hD
      · exact ⟨hle, hD'⟩
      · obtain ⟨j1, j2, j3⟩ := q3 D hD
        exact ⟨j1, (hall.toN (hk := 0) (tk := 0)).unowned j2 j3⟩
  have hfin : ∀ e, Q e ⟨s.env, { m2 with H := m2.H.set s.m.H.length (.loop .exhausted pend ps asg body s.env n) }⟩ → AQ z hk tk γ n Q e { a with defers := [mark γ.w.heap.size] ++ a.defers } γ''.w := fun e hq =>
    ⟨γ'', ⟨s.env, { m2 with H := m2.H.set s.m.H.length (.loop .exhausted pend ps asg body s.env n) }⟩, rfl, hall.toN, ⟨⟨g3, by rw [g4, hS'], hh.er.mono hall.le, hh.size⟩, hmk'⟩, hq⟩
  rw [k2]
  unfold pendQ at hq
  split at hq
  · exact hfin _ hq
  · exact wpIn_ret (hfin _ hq)
  · exact wpIn_exit (hfin _ hq)
  · exact hq.elim

/-- What a round must have come to: ars what it leaves its body, what yield gives, and the memory. -/
def roundQ (b : Nat) (ps : Array Tmp) (asg body : Code) (env : List (Nat × AVal)) (n : Nat) (r : AVal) (m' : AMem) : Exit → St → Prop := fun e s =>
  (∃ st p, s.m.H[b]? = some (.loop st p ps asg body env n)) ∧ match e with
  | .normal => r = .bool true ∧ LeftM m' { s.m with H := s.m.H.set b (.loop .ready none ps asg body env n) }
  | .ret => r = .bool false ∧ LeftM m' { s.m with H := s.m.H.set b (.loop .done (some .ret) ps asg body env n) }
  | .exit i => r = .bool false ∧ LeftM m' { s.m with H := s.m.H.set b (.loop .done (some (.exit i)) ps asg body env n) }
  | _ => False

theorem YCall.of_body {b : Nat} {args : List AVal} {m m' : AMem} {r : AVal} {pend : Option Code} {ps : Array Tmp} {asg body : Code} {env : List (Nat × AVal)}
    (hb : m.H[b]? = some (.loop .ready pend ps asg body env n)) (hps : args.length = ps.size) (hpn : ps.toList.all (decide <| · < n) = true) (ha : rf asg = false) (hbd : rf body = false) (hH : m.H.length ≤ m'.H.length) (hT : m.T.length ≤ m'.T.length)
    (h : AWp P n m.H.length m.T.length asg (fun e s1 => e = .normal ∧ s1.m.H[b]? = some (.loop .ready pend ps asg body env n) ∧
      AWp P n m.H.length m.T.length body (roundQ b ps asg body env n r m') ⟨s1.env, { s1.m with H := s1.m.H.set b (.loop .busy pend ps asg body env n) }⟩) ⟨bindP ps.toList args env, m⟩) : YCall P b args m r m' := by
  intro γ vals hr hm hv
  subst hm
  refine ⟨_, hb, rfl, ?_⟩
  obtain ⟨o, ho, r1, rfl, k1, k2, k3, k4, k5, k6, k7⟩ := hr.objs b _ hb
  have hsz : vals.size = ps.size := by rw [hv.1]; exact hps
  refine ⟨r1.fn, (r1.params.zip vals).foldl (fun tmps (t, a) => tmps.setIfInBounds t a) r1.tmps, r1.assign, r1.body, run_yield ho (by rw [k3]; exact hsz), ?_⟩
  rw [k3, k4, k5]
  have her : ER γ.cx (bindP ps.toList args env) ((ps.zip vals).foldl (fun tmps (t, a) => tmps.setIfInBounds t a) r1.tmps) := by
    have := ER.bind (κ := γ.cx) ps.toList args vals.toList env r1.tmps k6 (fun p hp => by
      have := List.all_eq_true.1 hpn p hp
      rw [k7]; simpa using this) (by simpa using hps) (by simpa using hsz) (fun j hj => by
        have := hv.2 j hj
        simpa [Array.getD_eq_getD_getElem?, List.getD_eq_getElem?_getD] using this)
    have e : (ps.zip vals).foldl (fun tmps (t, a) => tmps.setIfInBounds t a) r1.tmps = (ps.toList.zip vals.toList).foldl (fun t p => t.setIfInBounds p.1 p.2) r1.tmps := by
      rw [← Array.foldl_toList, Array.toList_zip]
    rw [e]
    exact this
  have hsize : ((ps.zip vals).foldl (fun tmps (t, a) => tmps.setIfInBounds t a) r1.tmps).size = n := by
    rw [← Array.foldl_toList]
    have : ∀ (l : List (Tmp × Value)) (t : Array Value), (l.foldl (fun tmps (t, a) => tmps.setIfInBounds t a) t).size = t.size := by
      intro l
      induction l with
      | nil => intro t; rfl
      | cons p l ih => intro t; simp only [List.foldl_cons]; rw [ih]; simp
    rw [this]; exact k7
  refine roundIn_of_wpIn (F := Fence.wide) trivial ?_
  have hh : Holds n γ ⟨bindP ps.toList args env, γ.S⟩ { tmps := (ps.zip vals).foldl (fun tmps (t, a) => tmps.setIfInBounds t a) r1.tmps, defers := [] } := ⟨hr, rfl, her, hsize⟩
  refine wpIn_mono (h (some (γ.ι.h b)) ⟨γ.w.heap.size, [], true⟩ γ _ (fun h => by rw [ha] at h; cases h) hh (Mk.nil (Nat.le_refl _))) fun e a' w' hq => ?_
  obtain ⟨γ1, s1, rfl, e1, ⟨hh1, hm1⟩, rfl, hb1, hbody⟩ := hq
  have hl1 : γ1.ι.h b = γ.ι.h b := by
    obtain ⟨y, hy, _, hy2⟩ := e1.blk b 0 (γ.ι.h b) (γ.ι.c b) (by exact (List.getElem?_eq_some_iff.1 hb).1) ⟨_, hb, ⟨Nat.zero_le _, fun _ => rfl⟩, fun _ => ⟨rfl, rfl⟩⟩
    have := hh1.m
    rw [this, hb1] at hy
    cases hy
    exact (hy2 rfl).1
  obtain ⟨o, ho1, r2, rfl, j1, j2, j3, j4, j5, j6, j7⟩ := hh1.rl.objs b _ (by rw [hh1.m]; exact hb1)
  obtain ⟨γ2, g1, g2, g3, g4⟩ := set_loop (st' := .busy) (pend' := pend) hh1.rl (by rw [hh1.m]; exact hb1) ho1
  rw [hl1] at ho1 g1
  have hbr := run_beginRound (P := P) ho1 j1
  refine ⟨γ2.w, ?_, ?_⟩
  · rw [g1, ← j2]; exact hbr
  have hh2 : Holds n γ2 ⟨s1.env, { s1.m with H := s1.m.H.set b (.loop .busy pend ps asg body env n) }⟩ a' := ⟨g3, by rw [g4, hh1.m], hh1.er.mono g2.le, hh1.size⟩
  refine wpIn_mono (hbody (some (γ.ι.h b)) ⟨γ.w.heap.size, [], true⟩ γ2 a' (fun h => by rw [hbd] at h; cases h) hh2 (hm1.ext (g2.toN (hk := 0) (tk := 0)))) fun e a'' w'' hq => ?_
  obtain ⟨γ3, s3, rfl, e3, ⟨hh3, hm3⟩, ⟨st, p, hb3⟩, hq⟩ := hq
  have he13 : ExtN γ.S.H.length γ.S.T.length γ γ3 := e1.trans (g2.toN.trans e3)
  have hl3 : γ3.ι.h b = γ.ι.h b := by
    obtain ⟨y, hy, _, hy2⟩ := he13.blk b 0 (γ.ι.h b) (γ.ι.c b) (by exact (List.getElem?_eq_some_iff.1 hb).1) ⟨_, hb, ⟨Nat.zero_le _, fun _ => rfl⟩, fun _ => ⟨rfl, rfl⟩⟩
    rw [hh3.m, hb3] at hy
    cases hy
    exact (hy2 rfl).1
  obtain ⟨o, ho3, r3, rfl, i1, i2, i3, i4, i5, i6, i7⟩ := hh3.rl.objs b _ (by rw [hh3.m]; exact hb3)
  -- the round's end
  have fin : ∀ (jump : Option Code) (st' : LoopState), (if jump.isNone then LoopState.ready else .done) = st' → LeftM m' { s3.m with H := s3.m.H.set b (.loop st' jump ps asg body env n) } →
      ∃ v w', (Instr.endRound (γ.ι.h b) jump).run P γ3.w = .ok v w' ∧ ∃ u γ', Ending.returned v = Ending.returned u ∧ γ'.w = w' ∧ γ'.S = m' ∧ Ext γ γ' ∧ Rl γ' ∧ VR γ'.cx (.bool jump.isNone) u := by
    intro jump st' hst hl
    obtain ⟨γ4, f1, f2, f3, f4⟩ := set_loop (st' := st') (pend' := jump) hh3.rl (by rw [hh3.m]; exact hb3) ho3
    rw [hl3] at f1
    have ho3' := ho3
    rw [hl3] at ho3'
    have hrun := run_endRound (P := P) jump ho3'
    rw [hst, ← f1] at hrun
    have hm4 : γ4.S = { s3.m with H := s3.m.H.set b (.loop st' jump ps asg body env n) } := by rw [f4, hh3.m]
    have he4 : ExtN γ.S.H.length γ.S.T.length γ γ4 := he13.trans f2.toN
    refine ⟨_, γ4.w, hrun, ?_⟩
    rcases hl with hl | ⟨⟨G, X, hl⟩, hB⟩
    · exact ⟨_, γ4, rfl, rfl, hm4.trans hl, ExtN.full he4, f3, .bool _⟩
    · have hS : (γ4.cut m'.H.length m'.T.length).S = m' := by
        simp only [Ghost.cut, hm4, hl, List.take_left']
      refine ⟨_, γ4.cut m'.H.length m'.T.length, rfl, rfl, hS, ExtN.full (he4.trans (ext_cut hH hT)), rl_cut f3 ?_, .bool _⟩
      rw [hm4, hl]
      simpa only [List.take_left'] using hB
  cases e <;> simp only at hq
  case normal => obtain ⟨rfl, hl⟩ := hq; exact fin none .ready rfl hl
  case ret => obtain ⟨rfl, hl⟩ := hq; exact fin (some .ret) .done rfl hl
  case exit i => obtain ⟨rfl, hl⟩ := hq; exact fin (some (.exit i)) .done rfl hl
  all_goals exact hq.elim

/-- A step of a walk over a map: nothing is left, or one of those left comes. -/
def nextW (P : Program) (Γ : Gam) (mu : Bool) (ops : Array Oper) (dst : Option Nat) (it : Operand) (rest : List Oper) (Q : Exit → St → Prop) (s : St) : Prop :=
  ∃ b mb left cur, ev s.env it = .ptr b 0 0 ∧ s.m.H[b]? = some (.iter mb left cur) ∧
    (left = [] → ∃ s', aops P Γ mu ops rest ⟨put s.env dst (.tup (.bool false) []), s.m⟩ = some s' ∧ Q .normal s') ∧
    ∀ (i : Nat) (hi : i < left.length), ∃ s', aops P Γ mu ops rest ⟨put s.env dst (.tup (.bool true) [left[i].1, left[i].2]), { s.m with H := s.m.H.set b (.iter mb (left.eraseIdx i) (some left[i])) }⟩ = some s' ∧ Q .normal s'

theorem awp_next {Γ : Gam} (hΓ : Sound P Γ) {mu : Bool} {id : Nat} {ops : Array Oper} {dst : Option Nat} {it : Operand} {rest : List Oper} {Q : Exit → St → Prop} {s : St} (hd : dstOK n ops.toList = true) (hn : isNext ops.toList = some (dst, it, rest)) (h : nextW P Γ mu ops dst it rest Q s) :
    AWp P n hk tk (.region id ops false) Q s := by
  intro ro z γ a hro hh hmk
  refine wpIn_region_list ?_
  unfold isNext at hn
  split at hn
  case h_2 => cases hn
  rename_i d0 i0 ty pos af rest0 hops
  cases hn
  have hops0 := hops
  rw [hops] at hd ⊢
  have hdr : dstOK n rest = true := by
    simp only [dstOK, List.all_cons, Bool.and_eq_true] at hd ⊢
    exact hd.2
  have hd0 : ∀ x, dst = some x → x < a.tmps.size := fun x hx => by
    rw [hh.size]
    exact dstOK_spec hd ⟨dst, .next it false, ty, pos, af, none⟩ (by simp) x hx
  obtain ⟨b, mb, left, cur, e1, e2, e3, e4⟩ := h
  have hv := hh.er.ev it
  rw [e1] at hv
  have hb : γ.S.H[b]? = some (.iter mb left cur) := by rw [hh.m]; exact e2
  have hu := ptr_at hb rfl hv
  simp only [wpListIn, Region.wanted, if_true]
  refine ⟨fun _ _ => trivial, ?_⟩
  rw [Oper.semAt_eq _ _ _ (fun c => by simp)]
  have hx : execOp a.eval ⟨dst, .next it false, ty, pos, af, none⟩ = (do pure (.value (← Instr.next (a.eval it) false ty)) : Sem Next) := rfl
  have go : ∀ (γ1 : Ghost) (v : AVal) (u : Value) (m1 : AMem) (s' : St), Ext γ γ1 → Rl γ1 → γ1.S = m1 → VR γ1.cx v u → aops P Γ mu ops rest ⟨put s.env dst v, m1⟩ = some s' → Q .normal s' →
      wpListIn (wfen ro) 0 P ops (AQ z hk tk γ n Q) rest (a.put dst u) γ1.w := by
    intro γ1 v u m1 s' he hr1 hS1 hv1 has hQ
    have hh1 : Holds n γ1 ⟨put s.env dst v, m1⟩ (a.put dst u) := ⟨hr1, hS1, (hh.er.mono he.le).put' hd0 hv1, put_size.trans hh.size⟩
    exact aops_sound hΓ rest γ1 (a.put dst u) _ s' (dstOK_spec hdr) hh1 has fun a'' γ'' h'' he'' hdf => ⟨γ'', s', rfl, (he.trans he'').toN, ⟨h'', by rw [hdf, put_defers]; exact hmk.ext ((he.trans he'').toN (hk := 0) (tk := 0))⟩, hQ⟩
  rcases next_sound (P := P) hh.rl hb ty with ⟨h0, hrun⟩ | ⟨i, hi, γ1, k, v, hrun, he, hr1, hS1, hk1, hv1⟩
  · obtain ⟨s', h1, h2⟩ := e3 h0
    rw [hx, hu]
    simp only [Sem.run_bind, hrun, Result.andThen_ok, Sem.run_pure, Oper.uponIn_value]
    exact go γ _ _ s.m s' (Ext.refl γ) hh.rl hh.m (.tup (.bool false) [] _ rfl fun j hj => by
      have : j = 0 := by simp at hj; exact hj
      subst this
      exact .bool false) h1 h2
  · obtain ⟨s', h1, h2⟩ := e4 i hi
    rw [hx, hu]
    simp only [Sem.run_bind, hrun, Result.andThen_ok, Sem.run_pure, Oper.uponIn_value]
    refine go γ1 _ _ _ s' he hr1 (by rw [hS1, hh.m]) (.tup (.bool true) [left[i].1, left[i].2] _ rfl fun j hj => ?_) h1 h2
    have hj3 : j < 3 := hj
    match j, hj3 with
    | 0, _ => exact .bool true
    | 1, _ => exact hk1
    | 2, _ => exact hv1
end
end Go.Hk
