import Derived.Test.YtdimacffjdpkfaaGreatHkQ17
import GoSem.Extern.MapsClone
set_option linter.unusedSimpArgs false
set_option linter.unusedVariables false
namespace Go.Hk
def pkR (b : Nat) (n : Int) (H : List ABlk) (T : List (Nat × (Nat × Nat))) (x : Option ABlk) : Option (AVal × AMem) :=
  match x with
  | some (.cells 0 [.sl .no k cs, .int .i64 a]) => (match bytesOf cs with
    | some L => if k = L.length ∧ L.length < 1000000 ∧ 0 ≤ a ∧ a < 1000000 ∧ 0 < n ∧ n < 1000000 then some (.int .i64 (pickV L a.toNat n.toNat : Nat), ⟨H.set b (.cells 0 [.sl .no k cs, .int .i64 (a + 1)]), T⟩) else none
    | none => none)
  | _ => none
def iPk (xs : List AVal) (m : AMem) : Option (AVal × AMem) :=
  match xs with
  | [.ptr b 0 0, .int .i64 n] => pkR b n m.H m.T m.H[b]?
  | _ => none
section
variable {b : Nat} {n : Int} {H : List ABlk} {T : List (Nat × (Nat × Nat))} {k a p : Nat} {L : List UInt8}
theorem iPk_eq : iPk [.ptr b 0 0, .int .i64 n] ⟨H, T⟩ = pkR b n H T H[b]? := rfl
theorem pk_on (hk : k = L.length) (hL : L.length < 1000000) (ha2 : a < 1000000) (hn : 0 < n) (hn2 : n < 1000000) : pkR b n H T (some (.cells 0 [.sl .no k (fl cU L), .int .i64 (a : Nat)])) =
    some (.int .i64 (pickV L a n.toNat : Nat), ⟨H.set b (.cells 0 [.sl .no k (fl cU L), .int .i64 ((a + 1 : Nat) : Int)]), T⟩) := by
  have h0 : (0 : Int) ≤ a := by omega
  have h1 : (a : Int) < 1000000 := by omega
  simp only [pkR, bytesOf_cU, hk, hL, hn, hn2, h0, h1, and_self, if_true, Int.toNat_natCast]
  rfl
end
def mkC (k : Nat) (L : List UInt8) (a : Int) : ABlk := .cells 0 [.sl .no k (fl cU L), .int .i64 a]
theorem mkC_clo {h t k : Nat} {L : List UInt8} {a : Int} : cloB h t (mkC k L a) = true := by
  simp only [mkC, cloB, cloL, clo, cloR, cloL_strip _ _ l_s_cU, Bool.and_self]
def mkR (ok : List UInt8 → Nat → Prop) [∀ L a, Decidable (ok L a)] (F : List UInt8 → Nat → AVal × Nat) (b : Nat) (H : List ABlk) (T : List (Nat × (Nat × Nat))) (x : Option ABlk) : Option (AVal × AMem) :=
  match x with
  | some (.cells 0 [.sl .no k cs, .int .i64 a]) => (match bytesOf cs with
    | some L => if k = L.length ∧ L.length < 1000000 ∧ 0 ≤ a ∧ ok L a.toNat ∧ shut ⟨H, T⟩ = true then some ((F L a.toNat).1, ⟨H.set b (mkC k L (F L a.toNat).2), T⟩) else none
    | none => none)
  | _ => none
section
variable {ok : List UInt8 → Nat → Prop} [∀ L a, Decidable (ok L a)] {F : List UInt8 → Nat → AVal × Nat} {b : Nat} {H : List ABlk} {T : List (Nat × (Nat × Nat))} {k a : Nat} {L : List UInt8}
theorem mk_on (hk : k = L.length) (hL : L.length < 1000000) (ho : ok L a) (hs : shut ⟨H, T⟩ = true) : mkR ok F b H T (some (.cells 0 [.sl .no k (fl cU L), .int .i64 (a : Nat)])) =
    some ((F L a).1, ⟨H.set b (.cells 0 [.sl .no k (fl cU L), .int .i64 ((F L a).2 : Nat)]), T⟩) := by
  have h0 : (0 : Int) ≤ a := by omega
  simp only [mkR, bytesOf_cU, hk, hL, h0, hs, Int.toNat_natCast, ho, and_self, if_true, mkC]
theorem mk_on0 (hk : k = L.length) (hL : L.length < 1000000) (ho : ok L 0) (hs : shut ⟨H, T⟩ = true) : mkR ok F b H T (some (.cells 0 [.sl .no k (fl cU L), .int .i64 0])) =
    some ((F L 0).1, ⟨H.set b (.cells 0 [.sl .no k (fl cU L), .int .i64 ((F L 0).2 : Nat)]), T⟩) := mk_on (a := 0) hk hL ho hs
theorem mk_cases {r : AVal} {m' : AMem} {x : Option ABlk} (h : mkR ok F b H T x = some (r, m')) : ∃ L a, x = some (mkC L.length L ((a : Nat) : Int)) ∧ L.length < 1000000 ∧ ok L a ∧ shut ⟨H, T⟩ = true ∧ r = (F L a).1 ∧ m' = ⟨H.set b (mkC L.length L (F L a).2), T⟩ := by
  unfold mkR at h
  split at h
  · split at h
    · rename_i a L hb
      split at h
      · rename_i hc
        obtain ⟨rfl, hL, h0, ho, hs⟩ := hc
        obtain ⟨a, rfl⟩ := Int.eq_ofNat_of_zero_le h0
        have := bytesOf_spec _ _ hb
        rw [← fl_cU_map] at this
        subst this
        cases h
        exact ⟨L, a, rfl, hL, ho, hs, rfl, rfl⟩
      · cases h
    · cases h
  · cases h
end
def iLf (xs : List AVal) (m : AMem) : Option (AVal × AMem) :=
  match xs with
  | [.ptr b 0 0] => mkR (fun _ a => a < 900000) (fun L a => (rV (leafM L a).1, (leafM L a).2)) b m.H m.T m.H[b]?
  | _ => none
theorem iLf_eq {b : Nat} {H : List ABlk} {T : List (Nat × (Nat × Nat))} : iLf [.ptr b 0 0] ⟨H, T⟩ = mkR (fun _ a => a < 900000) (fun L a => (rV (leafM L a).1, (leafM L a).2)) b H T H[b]? := rfl
end Go.Hk
namespace Go.Hk
def iRxn (n : Nat) (xs : List AVal) (m : AMem) : Option (AVal × AMem) :=
  match xs with
  | [.ptr b 0 0, .int .i64 d] => if d.toNat < n ∧ -2 ≤ d then mkR (fun _ a => d.toNat ≤ 10 ∧ a + 8 * 2 ^ d.toNat ≤ 100000) (fun L a => (rV (rxM L d.toNat a).1, (rxM L d.toNat a).2)) b m.H m.T m.H[b]? else none
  | _ => none
theorem iRxn_eq {n b : Nat} {d : Int} {H : List ABlk} {T : List (Nat × (Nat × Nat))} (h : d.toNat < n ∧ -2 ≤ d) : iRxn n [.ptr b 0 0, .int .i64 d] ⟨H, T⟩ = mkR (fun _ a => d.toNat ≤ 10 ∧ a + 8 * 2 ^ d.toNat ≤ 100000) (fun L a => (rV (rxM L d.toNat a).1, (rxM L d.toNat a).2)) b H T H[b]? := if_pos h
def iRx (xs : List AVal) (m : AMem) : Option (AVal × AMem) := iRxn 11 xs m
theorem iRx_eq {b : Nat} {d : Int} {H : List ABlk} {T : List (Nat × (Nat × Nat))} (h : d.toNat < 11 ∧ -2 ≤ d) : iRx [.ptr b 0 0, .int .i64 d] ⟨H, T⟩ = mkR (fun _ a => d.toNat ≤ 10 ∧ a + 8 * 2 ^ d.toNat ≤ 100000) (fun L a => (rV (rxM L d.toNat a).1, (rxM L d.toNat a).2)) b H T H[b]? := if_pos h
theorem l_s_cR2 {x y : Rx} : stripL (cR x ++ cR y) = some (cR x ++ cR y) := s_append (cR_strip x) (cR_strip y)
attribute [go_sem] l_s_cR2
theorem cR_strip' {x : Rx} : stripL (cR x) = some (cR x) := cR_strip x
attribute [go_sem] cR_strip'
theorem good_join {k : Int} {x y : Rx} {d e : Int} {n m : Nat} (hx : Good x d n) (hy : Good y e m) (h : n + m < 1000000) : (∀ z ∈ [x, y], okX z) ∧ [x, y].length < 1000000 ∧ (flatK k [x, y]).length < 1000000 := by
  refine ⟨fun z hz => ?_, by simp, ?_⟩
  · simp only [List.mem_cons, List.not_mem_nil, or_false] at hz
    rcases hz with rfl | rfl
    · exact hx.ok
    · exact hy.ok
  · have h1 := len_szs (flat1 k x)
    have h2 := len_szs (flat1 k y)
    have h3 := flat1_sz k x
    have h4 := flat1_sz k y
    have h5 := hx.sz
    have h6 := hy.sz
    simp only [flatK, List.flatMap_cons, List.flatMap_nil, List.append_nil, List.length_append]
    omega
end Go.Hk
namespace Go.Hk
section
variable {P : Program} {Γ : Gam} {mu : Bool} {n hk tk : Nat} {Q : Exit → St → Prop} {e : List (Nat × AVal)} {m : AMem}
theorem w_rangeFunc {g : Operand} {ps : Array Tmp} {asg body : Code} (f : FuncId) (first caps : List AVal) (r : AVal) (m2 : AMem) (st : LoopState) (pend : Option Code) (hg : ev e g = .fn f first caps)
    (hc : RCall P f (first ++ [.yld m.H.length] ++ caps) ⟨m.H ++ [.loop .ready none ps asg body e Γ.nt], m.T⟩ r m2)
    (h2 : m2.H[m.H.length]? = some (.loop st pend ps asg body e Γ.nt)) (hst : st ≠ .busy)
    (hq : pendQ Q pend ⟨e, { m2 with H := m2.H.set m.H.length (.loop .exhausted pend ps asg body e Γ.nt) }⟩) : W P Γ mu hk tk (.rangeFunc g ps asg body) Q ⟨e, m⟩ := by
  rw [W_eq]
  exact ⟨f, first, caps, r, m2, st, pend, hg, hc, h2, hst, hq⟩
theorem w_region_3 {x : List (Nat × OT)} {L : List (FuncId × Con)} {l : List Oper} {id : Nat} {d : Bool} {t : OT} {l1 l2 l3 : List Oper} (h : (gamx x L).ex id = some t) (ho : (orders t).map (pickO' l.toArray) = [some l1, some l2, some l3])
    (h1 : regW (opsO P (gamx x L) mu (prep l l1) (some ⟨e, m⟩)) Q) (h2 : regW (opsO P (gamx x L) mu (prep l l2) (some ⟨e, m⟩)) Q) (h3 : regW (opsO P (gamx x L) mu (prep l l3) (some ⟨e, m⟩)) Q) : W P (gamx x L) mu hk tk (.region id l.toArray d) Q ⟨e, m⟩ := by
  rw [W_eq]
  have hn : (gamx x L).nx id = false := rfl
  simp only [W0, h, hn, Bool.false_eq_true, if_false]
  refine otW_orders t _ fun p hp => ?_
  have hm : pickO' l.toArray p ∈ [some l1, some l2, some l3] := by rw [← ho]; exact List.mem_map.2 ⟨p, hp, rfl⟩
  simp only [List.mem_cons, List.not_mem_nil, or_false] at hm
  have key : ∀ l', regW (opsO P (gamx x L) mu (prep l l') (some ⟨e, m⟩)) Q → pickO' l.toArray p = some l' → ∃ l'' s', pickO' l.toArray p = some l'' ∧ aops P (gamx x L) mu l.toArray l'' ⟨e, m⟩ = some s' ∧ Q .normal s' := fun l' h' hp' => by
    rw [← aops_opsO] at h'
    cases hs : aops P (gamx x L) mu l.toArray l' ⟨e, m⟩ with
    | none => rw [hs] at h'; exact h'.elim
    | some s' => rw [hs] at h'; exact ⟨l', s', hp', hs, h'⟩
  rcases hm with hm | hm | hm
  · exact key _ h1 hm
  · exact key _ h2 hm
  · exact key _ h3 hm
theorem e_w_regionx2 {k k2 : Nat} {t t2 : OT} {L : List (FuncId × Con)} {l : List Oper} {id : Nat} {d : Bool} (h : ¬ id = k) (h2 : ¬ id = k2) : W P (gamx [(k, t), (k2, t2)] L) mu hk tk (.region id l.toArray d) Q ⟨e, m⟩ = regW (opsO P (gamx [(k, t), (k2, t2)] L) mu (prep l l) (some ⟨e, m⟩)) Q := e_w_region0 (by
  have h1 : (k == id) = false := beq_eq_false_iff_ne.2 fun h' => h h'.symm
  have h3 : (k2 == id) = false := beq_eq_false_iff_ne.2 fun h' => h2 h'.symm
  simp only [gamx, List.find?, h1, h3]; rfl) rfl
attribute [go_sem] e_w_regionx2
theorem YCall.of_w {b : Nat} {args : List AVal} {m' : AMem} {r : AVal} {pend : Option Code} {ps : Array Tmp} {asg body : Code} {env : List (Nat × AVal)} (hΓ : Sound P Γ) (hm : P.follows .mixedOrders = true)
    (hb : m.H[b]? = some (.loop .ready pend ps asg body env n)) (hps : args.length = ps.size) (hpn : ps.toList.all (decide <| · < n) = true) (ha : rf asg = false) (hbd : rf body = false) (hH : m.H.length ≤ m'.H.length) (hT : m.T.length ≤ m'.T.length)
    (ok1 : codeOKx Γ mu n asg = true) (ok2 : codeOKx Γ mu n body = true)
    (h : W P Γ mu m.H.length m.T.length asg (fun x s1 => x = .normal ∧ s1.m.H[b]? = some (.loop .ready pend ps asg body env n) ∧
      W P Γ mu m.H.length m.T.length body (roundQ b ps asg body env n r m') ⟨s1.env, { s1.m with H := s1.m.H.set b (.loop .busy pend ps asg body env n) }⟩) ⟨bindP ps.toList args env, m⟩) : YCall P b args m r m' :=
  YCall.of_body hb hps hpn ha hbd hH hT (AWp.w hΓ hm asg _ _ ok1 (h.mono fun x s1 h' => ⟨h'.1, h'.2.1, AWp.w hΓ hm body _ _ ok2 h'.2.2⟩))
end
end Go.Hk
namespace Go.Hk
end Go.Hk
namespace Go.Hk
theorem AL.uncons {κ : Cx} {e : AVal × AVal} {es : List (AVal × AVal)} {l : List MapEntry} (h : AL κ (e :: es) l) : ∃ a r, l = a :: r ∧ VR κ e.1 a.key ∧ VR κ e.2 a.val ∧ AL κ es r := by
  obtain ⟨h1, h2⟩ := h
  cases l with
  | nil => simp at h1
  | cons a r =>
    have h0 := h2 0 (by simp) (by simp)
    exact ⟨a, r, rfl, h0.1, h0.2, by simpa using h1, fun j hj hj' => h2 (j + 1) (by simpa using hj) (by simpa using hj')⟩
theorem AL.cons {κ : Cx} {e : AVal × AVal} {es : List (AVal × AVal)} {a : MapEntry} {l : List MapEntry} (h1 : VR κ e.1 a.key) (h2 : VR κ e.2 a.val) (h : AL κ es l) : AL κ (e :: es) (a :: l) := by
  refine ⟨by simp [h.1], fun j hj hj' => ?_⟩
  cases j with
  | zero => exact ⟨h1, h2⟩
  | succ j => exact h.2 j (by simpa using hj) (by simpa using hj')
theorem AL.perm {κ : Cx} {es es' : List (AVal × AVal)} (hp : es.Perm es') : ∀ l, AL κ es l → ∃ l', l'.Perm l ∧ AL κ es' l' := by
  induction hp with
  | nil => exact fun l h => ⟨l, .refl _, h⟩
  | cons e _ ih =>
    intro l h
    obtain ⟨a, r, rfl, h1, h2, h3⟩ := h.uncons
    obtain ⟨r', k1, k2⟩ := ih r h3
    exact ⟨a :: r', k1.cons a, k2.cons h1 h2⟩
  | swap e f es =>
    intro l h
    obtain ⟨a, r, rfl, h1, h2, h3⟩ := h.uncons
    obtain ⟨b, r, rfl, k1, k2, k3⟩ := h3.uncons
    exact ⟨b :: a :: r, .swap _ _ _, (k3.cons h1 h2).cons k1 k2⟩
  | trans _ _ ih1 ih2 =>
    intro l h
    obtain ⟨l1, h1, h2⟩ := ih1 l h
    obtain ⟨l2, k1, k2⟩ := ih2 l1 h2
    exact ⟨l2, k1.trans h1, k2⟩
theorem MR.of_perm {κ : Cx} {es es' : List (AVal × AVal)} {en : Array MapEntry} {clk : Nat} (hp : es.Perm es') (h : MR κ es en clk) : MR κ es' en clk := by
  obtain ⟨l, h1, h2⟩ := h.perm
  obtain ⟨l', k1, k2⟩ := AL.perm hp l h2
  exact ⟨h.born, h.lt, l', k1.trans h1, k2⟩
def Ghost.perm (γ : Ghost) (b : Nat) (es : List (AVal × AVal)) : Ghost := { γ with S := ⟨γ.S.H.set b (.amap es), γ.S.T⟩ }
section
variable {γ : Ghost} {b : Nat} {es es' : List (AVal × AVal)}
theorem perm_H (hb : γ.S.H[b]? = some (.amap es)) {x : Nat} {y : ABlk} (hx : (γ.perm b es').S.H[x]? = some y) : (x = b ∧ y = .amap es') ∨ (x ≠ b ∧ γ.S.H[x]? = some y) := by
  simp only [Ghost.perm, List.getElem?_set] at hx
  split at hx
  · rename_i h
    split at hx
    · cases hx; exact .inl ⟨h.symm, rfl⟩
    · cases hx
  · rename_i h; exact .inr ⟨fun e => h e.symm, hx⟩
theorem perm_H2 (hb : γ.S.H[b]? = some (.amap es)) {x : Nat} (hx : x ≠ b) : (γ.perm b es').S.H[x]? = γ.S.H[x]? := by
  simp only [Ghost.perm, List.getElem?_set, if_neg (Ne.symm hx)]
theorem perm_H3 (hb : γ.S.H[b]? = some (.amap es)) : (γ.perm b es').S.H[b]? = some (.amap es') := by
  simp only [Ghost.perm, List.getElem?_set, if_true, (List.getElem?_eq_some_iff.1 hb).1]
theorem perm_blkOwns {x g : Nat} : (γ.perm b es').blkOwns x g ↔ γ.blkOwns x g := by simp [Ghost.blkOwns, Ghost.perm]
theorem perm_owns {g : Nat} : (γ.perm b es').owns g ↔ γ.owns g := by
  simp only [Ghost.owns, perm_blkOwns]
  exact Iff.rfl
theorem perm_le (hb : γ.S.H[b]? = some (.amap es)) : γ.cx.le (γ.perm b es').cx where
  cell := fun g o v hc => ⟨hc.1, hc.2.1, hc.2.2.1, fun b hb => hc.2.2.2.1 b (perm_blkOwns.1 hb), hc.2.2.2.2⟩
  blk := fun x e g c ⟨y, h1, h2, h3⟩ => by
    by_cases hx : x = b
    · subst hx
      rw [hb] at h1
      cases h1
      exact ⟨.amap es', perm_H3 hb, h2, h3⟩
    · exact ⟨y, (perm_H2 hb hx).trans h1, h2, h3⟩
  tip := fun _ _ _ _ h => h
  own := fun _ _ _ h => h
theorem rl_perm (hr : Rl γ) (hb : γ.S.H[b]? = some (.amap es)) (hp : es.Perm es') : Rl (γ.perm b es') where
  lo := hr.lo
  bad := hr.bad
  objs := fun x y hx => by
    rcases perm_H hb hx with ⟨rfl, rfl⟩ | ⟨_, hx⟩
    · obtain ⟨en, clk, h1, h2⟩ := hr.maps x es hb
      exact ⟨_, h1, en, clk, rfl, (h2.of_perm hp).mono (perm_le hb)⟩
    · obtain ⟨o, h1, h2⟩ := hr.objs x y hx
      exact ⟨o, h1, h2.mono (perm_le hb)⟩
  its := fun x mb left cur hx => by
    rcases perm_H hb hx with ⟨_, h⟩ | ⟨_, hx⟩
    · cases h
    · obtain ⟨es1, en, clk, since, seen, c0, g1, g2, g3, g4⟩ := hr.its x mb left cur hx
      by_cases hm : mb = b
      · subst hm
        exact ⟨es', en, clk, since, seen, c0, perm_H3 hb, g2, g3, g4.mono (perm_le hb)⟩
      · exact ⟨es1, en, clk, since, seen, c0, (perm_H2 hb hm).trans g1, g2, g3, g4.mono (perm_le hb)⟩
  toks := hr.toks
  own := fun g hg => hr.own g (perm_owns.1 hg)
  hh := fun x y g h1 h2 => hr.hh x y g (perm_blkOwns.1 h1) (perm_blkOwns.1 h2)
  ht := fun x t g h1 h2 => hr.ht x t g (perm_blkOwns.1 h1) h2
  tt := hr.tt
theorem ext_perm (hb : γ.S.H[b]? = some (.amap es)) : Ext γ (γ.perm b es') where
  bad := rfl
  lo := rfl
  size := Nat.le_refl _
  os := rfl
  tape := rfl
  output := rfl
  cell := (perm_le hb).cell
  blk := (perm_le hb).blk
  tip := fun _ _ _ _ h => h
  own := fun _ _ _ h => h
  frame := fun _ _ _ => .inl rfl
  owns := fun k h => .inl (perm_owns.1 h)
end
def Ghost.adopt (γ : Ghost) (g : Nat) (es : List (AVal × AVal)) : Ghost :=
  { γ with S := ⟨γ.S.H ++ [.amap es], γ.S.T⟩, ι := { γ.ι with h := fun b => if b = γ.S.H.length then g else γ.ι.h b } }
section
variable {γ : Ghost} {g : Nat} {es : List (AVal × AVal)} {en : Array MapEntry} {clk : Nat}
theorem adopt_H {x : Nat} (hx : x < γ.S.H.length) : (γ.adopt g es).S.H[x]? = γ.S.H[x]? := List.getElem?_append_left hx
theorem adopt_H' {x : Nat} {y : ABlk} (h : (γ.adopt g es).S.H[x]? = some y) : (x = γ.S.H.length ∧ y = .amap es) ∨ (x < γ.S.H.length ∧ γ.S.H[x]? = some y) := by
  simp only [Ghost.adopt] at h
  by_cases hx : x < γ.S.H.length
  · rw [List.getElem?_append_left hx] at h; exact .inr ⟨hx, h⟩
  · rw [List.getElem?_append_right (by omega)] at h
    have : x - γ.S.H.length = 0 := by
      rcases Nat.eq_zero_or_pos (x - γ.S.H.length) with h0 | h0
      · exact h0
      · rw [List.getElem?_eq_none (by simp; omega)] at h; cases h
    rw [this] at h
    cases h
    exact .inl ⟨by omega, rfl⟩
theorem adopt_h {x : Nat} (hx : x < γ.S.H.length) : (γ.adopt g es).ι.h x = γ.ι.h x := by simp [Ghost.adopt, Nat.ne_of_lt hx]
theorem adopt_blk {x k : Nat} (h : (γ.adopt g es).blkOwns x k) : (x = γ.S.H.length ∧ k = g) ∨ γ.blkOwns x k := by
  obtain ⟨h1, h2⟩ := h
  simp only [Ghost.adopt, List.length_append, List.length_singleton] at h1 h2
  split at h2
  · rename_i h; exact .inl ⟨h, h2.symm⟩
  · exact .inr ⟨by omega, h2⟩
theorem adopt_owns {k : Nat} (h : (γ.adopt g es).owns k) : k = g ∨ γ.owns k := by
  rcases h with ⟨b, hb⟩ | ⟨t, ht⟩
  · rcases adopt_blk hb with ⟨_, h⟩ | h
    · exact .inl h
    · exact .inr (.inl ⟨b, h⟩)
  · exact .inr (.inr ⟨t, ht⟩)
theorem adopt_le (hg : γ.w.heap[g]? = some (.map en clk)) : γ.cx.le (γ.adopt g es).cx where
  cell := fun q o v hc => ⟨hc.1, hc.2.1, hc.2.2.1, fun b hb => by
    rcases adopt_blk hb with ⟨_, rfl⟩ | h
    · have := hc.1
      simp [World.cell?, hg] at this
    · exact hc.2.2.2.1 b h, hc.2.2.2.2⟩
  blk := fun x e q c ⟨y, h1, h2, h3⟩ => by
    have hx := (List.getElem?_eq_some_iff.1 h1).1
    exact ⟨y, (adopt_H hx).trans h1, h2, fun he => ⟨(adopt_h hx).trans (h3 he).1, (h3 he).2⟩⟩
  tip := fun _ _ _ _ h => h
  own := fun _ _ _ h => h
theorem rl_adopt (hr : Rl γ) (hg : γ.w.heap[g]? = some (.map en clk)) (hm : MR γ.cx es en clk) (hlo : γ.lo ≤ g) (hno : ¬ γ.owns g) : Rl (γ.adopt g es) where
  lo := hr.lo
  bad := hr.bad
  objs := fun x y hx => by
    rcases adopt_H' hx with ⟨rfl, rfl⟩ | ⟨hl, hx⟩
    · exact ⟨_, by show γ.w.heap[if _ = _ then _ else _]? = _; rw [if_pos rfl]; exact hg, en, clk, rfl, hm.mono (adopt_le hg)⟩
    · obtain ⟨o, h1, h2⟩ := hr.objs x y hx
      exact ⟨o, by rw [adopt_h hl]; exact h1, h2.mono (adopt_le hg)⟩
  its := fun x mb left cur hx => by
    rcases adopt_H' hx with ⟨_, h⟩ | ⟨hl, hx⟩
    · cases h
    · obtain ⟨es1, en1, clk1, since, seen, c0, g1, g2, g3, g4⟩ := hr.its x mb left cur hx
      have hmb := (List.getElem?_eq_some_iff.1 g1).1
      exact ⟨es1, en1, clk1, since, seen, c0, (adopt_H hmb).trans g1, by rw [adopt_h hl, adopt_h hmb]; exact g2, by rw [adopt_h hmb]; exact g3, g4.mono (adopt_le hg)⟩
  toks := hr.toks
  own := fun k hk => by
    rcases adopt_owns hk with rfl | h
    · exact ⟨hlo, (Array.getElem?_eq_some_iff.1 hg).1⟩
    · exact hr.own k h
  hh := fun x y k h1 h2 => by
    rcases adopt_blk h1 with ⟨e1, f1⟩ | g1 <;> rcases adopt_blk h2 with ⟨e2, f2⟩ | g2
    · rw [e1, e2]
    · rw [f1] at g2; exact (hno (.inl ⟨_, g2⟩)).elim
    · rw [f2] at g1; exact (hno (.inl ⟨_, g1⟩)).elim
    · exact hr.hh x y k g1 g2
  ht := fun x t k h1 h2 => by
    rcases adopt_blk h1 with ⟨_, rfl⟩ | h1
    · exact hno (.inr ⟨t, h2⟩)
    · exact hr.ht x t k h1 h2
  tt := hr.tt
end
def sents (ks : List Nat) : List (AVal × AVal) := ks.map fun k => (.int .i64 ((k : Nat) : Int), .agg [])
theorem sents_clo {ks : List Nat} {h t : Nat} : (sents ks).all (fun p => clo h t p.1 && clo h t p.2) = true := by
  simp only [sents, List.all_map, List.all_eq_true]
  intro x _
  simp [clo, cloL]
theorem sents_cloB {ks : List Nat} {h t : Nat} : cloB h t (.amap (sents ks)) = true := sents_clo
theorem sents_perm {ks os : List Nat} (h : ks.Perm os) : (sents ks).Perm (sents os) := h.map _
def SetOf (G : List ABlk) (T : List (Nat × (Nat × Nat))) (ks : List Nat) (r : AVal) (m : AMem) : Prop :=
  ∃ j L os, r = .map (G.length + j) ∧ m = ⟨G ++ L, T⟩ ∧ L[j]? = some (.amap (sents os)) ∧ os.Perm ks
def SetAt (G : List ABlk) (T : List (Nat × (Nat × Nat))) (b : Nat) (ks : List Nat) (r0 r : AVal) (m : AMem) : Prop :=
  strip r0 = some r ∧ ∃ L os, m = ⟨G.set b (.amap (sents os)) ++ L, T⟩ ∧ os.Perm ks
section
variable {P : Program} {Γ : Gam} {mu : Bool} {G : List ABlk} {T : List (Nat × (Nat × Nat))} {ks : List Nat}
theorem RCall.of_wset {f : FuncId} {fn : Func} {c : Code} {args : List AVal} (hs : shut ⟨G, T⟩ = true) (hΓ : Sound P Γ) (hm : P.follows .mixedOrders = true) (hf : P.funcs[f]? = some fn) (hb : fn.body = some c) (hen : enterable P f = true) (hn : args.length ≤ fn.ntmps) (hok : codeOKx Γ mu fn.ntmps c = true)
    (h : W P Γ mu G.length T.length c (FnQ P fn.results.toList fun r0 s => SetOf G T ks r0 s.m) ⟨envFrom 0 args, ⟨G, T⟩⟩) : RCall P f args ⟨G, T⟩ (.map G.length) ⟨G ++ [.amap (sents ks)], T⟩ := by
  refine ⟨hen, fun γ vals hr hmm hv => calls_of_awp hf hb (enter_holds hr hmm hv hn) (AWp.w hΓ hm c _ _ hok h) fun γ' s' r0 u hr' hm' he hrr hvr => ?_⟩
  obtain ⟨j, L, os, rfl, hS, hj, hp⟩ := hrr
  rw [hS] at hm'
  have hjl := (List.getElem?_eq_some_iff.1 hj).1
  have hk : γ'.S.H[G.length + j]? = some (.amap (sents os)) := by rw [hm']; rw [List.getElem?_append_right (by omega), Nat.add_sub_cancel_left]; exact hj
  have hcS : (γ'.cut G.length T.length).S = ⟨G, T⟩ := by simp only [Ghost.cut, hm', List.take_left', List.take_length]
  have hcr : Rl (γ'.cut G.length T.length) := rl_cut hr' (by rw [hm', List.take_left' rfl]; exact hs)
  obtain ⟨en, clk, h1, h2⟩ := hr'.maps _ _ hk
  have hown : γ'.owns (γ'.ι.h (G.length + j)) := .inl ⟨_, by rw [hm']; simp; omega, rfl⟩
  obtain ⟨hlo, hsz⟩ := hr'.own _ hown
  have hno : ¬ (γ'.cut G.length T.length).owns (γ'.ι.h (G.length + j)) := by
    rintro (⟨b, h1, h2⟩ | ⟨t, ht⟩)
    · have h1' : b < G.length := by rw [hcS] at h1; exact h1
      have := hr'.hh b (G.length + j) _ ⟨by rw [hm']; simp; omega, h2⟩ ⟨by rw [hm']; simp; omega, rfl⟩
      omega
    · exact hr'.ht _ t _ ⟨by rw [hm']; simp; omega, rfl⟩ (cut_tok ht).2
  have hmr : MR (γ'.cut G.length T.length).cx (sents ks) en clk := by
    obtain ⟨l, k1, k2⟩ := (h2.of_perm (sents_perm hp)).perm
    exact ⟨h2.born, h2.lt, l, k1, k2.cut sents_clo⟩
  have hle := adopt_le (γ := γ'.cut G.length T.length) (es := sents ks) h1
  have e1 : ExtN G.length T.length γ (γ'.cut G.length T.length) := he.trans (ext_cut (Nat.le_refl _) (Nat.le_refl _))
  have e2 : ExtN γ.S.H.length γ.S.T.length γ ((γ'.cut G.length T.length).adopt (γ'.ι.h (G.length + j)) (sents ks)) := by
    rw [hmm]
    exact { bad := e1.bad, lo := e1.lo, size := e1.size, os := e1.os, tape := e1.tape, output := e1.output
            cell := fun _ _ _ h => hle.cell _ _ _ (e1.cell _ _ _ h), blk := fun _ _ _ _ hb h => hle.blk _ _ _ _ (e1.blk _ _ _ _ hb h)
            tip := fun _ _ _ _ hb h => hle.tip _ _ _ _ (e1.tip _ _ _ _ hb h), own := fun _ _ _ h => hle.own _ _ _ (e1.own _ _ _ h), frame := e1.frame
            owns := fun k hk => by
              rcases adopt_owns hk with rfl | h
              · exact he.owns _ hown
              · exact e1.owns k h }
  have hlen : (γ'.cut G.length T.length).S.H.length = G.length := by rw [hcS]
  refine ⟨u, (γ'.cut G.length T.length).adopt (γ'.ι.h (G.length + j)) (sents ks), rfl, rfl, by simp only [Ghost.adopt, hcS], ExtN.full e2, rl_adopt hcr h1 hmr hlo hno, ?_⟩
  cases hvr with
  | map _ g c hblk =>
    obtain ⟨y, hy, _, hy2⟩ := hblk
    rw [hk] at hy
    cases hy
    obtain ⟨hg, _⟩ := hy2 rfl
    subst hg
    refine .map _ _ (γ'.ι.c G.length) ⟨.amap (sents ks), by simp [Ghost.adopt, hcS], ⟨Nat.zero_le _, fun _ => rfl⟩, fun _ => ⟨?_, rfl⟩⟩
    show (if G.length = (γ'.cut G.length T.length).S.H.length then _ else _) = _
    rw [hlen, if_pos rfl]
theorem RCall.of_wput {f : FuncId} {fn : Func} {c : Code} {args : List AVal} {b : Nat} {r : AVal} (hbl : b < G.length) (hs : shut ⟨G, T⟩ = true) (hΓ : Sound P Γ) (hm : P.follows .mixedOrders = true) (hf : P.funcs[f]? = some fn) (hb : fn.body = some c) (hen : enterable P f = true) (hn : args.length ≤ fn.ntmps) (hok : codeOKx Γ mu fn.ntmps c = true)
    (h : W P Γ mu G.length T.length c (FnQ P fn.results.toList fun r0 s => SetAt G T b ks r0 r s.m) ⟨envFrom 0 args, ⟨G, T⟩⟩) : RCall P f args ⟨G, T⟩ r ⟨G.set b (.amap (sents ks)), T⟩ := by
  refine ⟨hen, fun γ vals hr hmm hv => calls_of_awp hf hb (enter_holds hr hmm hv hn) (AWp.w hΓ hm c _ _ hok h) fun γ' s' r0 u hr' hm' he hrr hvr => ?_⟩
  obtain ⟨hst, L, os, hS, hp⟩ := hrr
  rw [hS] at hm'
  have hgl : (G.set b (.amap (sents os))).length = G.length := by simp
  have hcS : (γ'.cut G.length T.length).S = ⟨G.set b (.amap (sents os)), T⟩ := by
    have := List.take_left' (l₁ := G.set b (.amap (sents os))) (l₂ := L) hgl
    simp only [Ghost.cut, hm', this, List.take_length]
  have hcr : Rl (γ'.cut G.length T.length) := rl_cut hr' (by
    rw [hm', List.take_left' hgl]
    have := shut_set (b := b) hs (sents_cloB (ks := os) (h := G.length) (t := T.length))
    simpa only [shut, hgl] using this)
  have hat : (γ'.cut G.length T.length).S.H[b]? = some (.amap (sents os)) := by rw [hcS]; simp [hbl]
  refine ⟨u, (γ'.cut G.length T.length).perm b (sents ks), rfl, rfl, by simp only [Ghost.perm, hcS, List.set_set], ExtN.full ?_, rl_perm hcr hat (sents_perm hp), ?_⟩
  · rw [hmm]
    exact (he.trans (ext_cut (Nat.le_refl _) (Nat.le_refl _))).trans (ext_perm hat).toN
  · exact ((strip_sound (fun _ _ _ h => h) hvr _ hst).cut (clo_strip _ _ hst)).mono (perm_le hat)
end
end Go.Hk
namespace Go.Hk
open Go.RowKit
theorem run_clone {P : Program} (w : World) {r : Nat} {es : Array MapEntry} {clk : Nat} (t : TypeId) (hb : w.heap[r]? = some (.map es clk)) :
    (Extern.MapsClone.clone #[.iface t (.map (some r))]).run P w = .ok (.iface t (.map (some w.heap.size))) (w.alloc (.map es clk)) := by
  have e : Extern.MapsClone.clone #[.iface t (.map (some r))] = (getObj r >>= fun o => match o with
      | .map entries clock => (newObj (.map entries clock) >>= fun n => pure (.iface t (.map (some n))))
      | _ => stuck "maps.clone: a map expected") := rfl
  have hgo : (getObj r).run P w = .ok (.map es clk) w := by simp [getObj, Sem.run, hb]
  have hno : ∀ o, (newObj o).run P w = .ok w.heap.size (w.alloc o) := fun o => by simp [newObj, Sem.run]
  rw [e]
  simp only [Sem.run_bind, hgo, Result.andThen_ok, hno]
  rfl
theorem lcall_clone {P : Program} {f : FuncId} {fn : Func} (hf : P.funcs[f]? = some fn) (hname : (fn.name == "runtime.NumGoroutine") = false) (hb : fn.body.isNone = true) (hn : Extern.findNext fn = none)
    (he : Extern.find fn = some Extern.MapsClone.clone) (t : TypeId) (b : Nat) (es : List (AVal × AVal)) (m : AMem) (hm : m.H[b]? = some (.amap es)) : LCall P f [.ifc t (.map b)] m (.ifc t (.map m.H.length)) ⟨m.H ++ [.amap es], m.T⟩ := by
  intro γ vals hr hS hv
  obtain ⟨hs, hv⟩ := hv
  have h0 := hv 0 (by simp)
  have hvals := vals_one (by simpa using hs)
  simp only [List.getElem_cons_zero] at h0
  generalize vals.getD 0 undef = x at *
  subst hS
  cases h0 with
  | ifc _ _ u hu =>
    cases hu with
    | map _ g c hblk =>
      obtain ⟨y, hy, _, hy2⟩ := hblk
      rw [hm] at hy
      cases hy
      obtain ⟨hg, _⟩ := hy2 rfl
      subst hg
      obtain ⟨en, clk, h1, h2⟩ := hr.maps b es hm
      refine ⟨.iface t (.map (some γ.w.heap.size)), γ.push (.amap es) 0 0 (.map en clk), ?_, ext_push, rl_push' hr ⟨en, clk, rfl, h2⟩ trivial, rfl, .ifc _ _ _ (.map _ _ 0 (push_blk rfl))⟩
      rw [run_callFunc_extern hf hname hb hn he, hvals, run_clone γ.w t h1]
      rfl
end Go.Hk
