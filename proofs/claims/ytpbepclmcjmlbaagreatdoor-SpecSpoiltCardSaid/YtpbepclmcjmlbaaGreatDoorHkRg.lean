/- Ranges over functions and over maps, as rules of a walk; a round that writes into a Builder. -/
import Derived.Test.YtpbepclmcjmlbaaGreatDoorHkPg
set_option linter.unusedSimpArgs false
set_option linter.unusedVariables false
namespace Go.Hk
section
variable {P : Program} {Γ : Gam} {mu : Bool} {n hk tk : Nat} {Q : Exit → St → Prop} {e : List (Nat × AVal)} {m : AMem}
theorem w_rangeFunc {g : Operand} {ps : Array Tmp} {asg body : Code} (f : FuncId) (first caps : List AVal) (r : AVal) (m2 : AMem) (st : LoopState) (pend : Option Code) (hg : ev e g = .fn f first caps)
    (hc : RCall P f (first ++ [.yld m.H.length] ++ caps) ⟨m.H ++ [.loop .ready none ps asg body e Γ.nt], m.T⟩ r m2)
    (h2 : m2.H[m.H.length]? = some (.loop st pend ps asg body e Γ.nt)) (hst : st ≠ .busy)
    (hq : pendQ Q pend ⟨e, { m2 with H := m2.H.set m.H.length (.loop .exhausted pend ps asg body e Γ.nt) }⟩) : W P Γ mu hk tk (.rangeFunc g ps asg body) Q ⟨e, m⟩ := by
  rw [W_eq]
  exact ⟨f, first, caps, r, m2, st, pend, hg, hc, h2, hst, hq⟩
theorem w_region_3 {x : List (Nat × OT)} {L : List (FuncId × Con)} {l : List Oper} {id : Nat} {d : Bool} {t : OT} {l1 l2 l3 : List Oper} (h : (gamx x L).ex id = some t) (ho : (orders t).map (pickO' l.toArray) = [some l1, some l2, some l3])
    (h1 : regW (opsO P (gamx x L) mu (prep l l1) (some ⟨e, m⟩)) Q) (h2 : regW (opsO P (gamx x L) mu (prep l l2) (some ⟨e, m⟩)) Q) (h3 : regW (opsO P (gamx x L) mu (prep l l3) (some ⟨e, m⟩)) Q) : W P (gamx x L) mu hk tk (.region id l.toArray d) Q ⟨e, m⟩ := by
  rw [W_eq]
  have hn : (gamx x L).nx id = false := rfl
  simp only [W0, h, hn, Bool.false_eq_true, if_false]
  refine otW_orders t _ fun p hp => ?_
  have hm : pickO' l.toArray p ∈ [some l1, some l2, some l3] := by rw [← ho]; exact List.mem_map.2 ⟨p, hp, rfl⟩
  simp only [List.mem_cons, List.not_mem_nil, or_false] at hm
  have key : ∀ l', regW (opsO P (gamx x L) mu (prep l l') (some ⟨e, m⟩)) Q → pickO' l.toArray p = some l' → ∃ l'' s', pickO' l.toArray p = some l'' ∧ aops P (gamx x L) mu l.toArray l'' ⟨e, m⟩ = some s' ∧ Q .normal s' := fun l' h' hp' => by
    rw [← aops_opsO] at h'
    cases hs : aops P (gamx x L) mu l.toArray l' ⟨e, m⟩ with
    | none => rw [hs] at h'; exact h'.elim
    | some s' => rw [hs] at h'; exact ⟨l', s', hp', hs, h'⟩
  rcases hm with hm | hm | hm
  · exact key _ h1 hm
  · exact key _ h2 hm
  · exact key _ h3 hm
theorem e_w_regionx2 {k k2 : Nat} {t t2 : OT} {L : List (FuncId × Con)} {l : List Oper} {id : Nat} {d : Bool} (h : ¬ id = k) (h2 : ¬ id = k2) : W P (gamx [(k, t), (k2, t2)] L) mu hk tk (.region id l.toArray d) Q ⟨e, m⟩ = regW (opsO P (gamx [(k, t), (k2, t2)] L) mu (prep l l) (some ⟨e, m⟩)) Q := e_w_region0 (by
  have h1 : (k == id) = false := beq_eq_false_iff_ne.2 fun h' => h h'.symm
  have h3 : (k2 == id) = false := beq_eq_false_iff_ne.2 fun h' => h2 h'.symm
  simp only [gamx, List.find?, h1, h3]; rfl) rfl
attribute [go_sem] e_w_regionx2
theorem YCall.of_w {b : Nat} {args : List AVal} {m' : AMem} {r : AVal} {pend : Option Code} {ps : Array Tmp} {asg body : Code} {env : List (Nat × AVal)} (hΓ : Sound P Γ) (hm : P.follows .mixedOrders = true)
    (hb : m.H[b]? = some (.loop .ready pend ps asg body env n)) (hps : args.length = ps.size) (hpn : ps.toList.all (decide <| · < n) = true) (ha : rf asg = false) (hbd : rf body = false) (hH : m.H.length ≤ m'.H.length) (hT : m.T.length ≤ m'.T.length)
    (ok1 : codeOKx Γ mu n asg = true) (ok2 : codeOKx Γ mu n body = true)
    (h : W P Γ mu m.H.length m.T.length asg (fun x s1 => x = .normal ∧ s1.m.H[b]? = some (.loop .ready pend ps asg body env n) ∧
      W P Γ mu m.H.length m.T.length body (roundQ b ps asg body env n r m') ⟨s1.env, { s1.m with H := s1.m.H.set b (.loop .busy pend ps asg body env n) }⟩) ⟨bindP ps.toList args env, m⟩) : YCall P b args m r m' :=
  YCall.of_body hb hps hpn ha hbd hH hT (AWp.w hΓ hm asg _ _ ok1 (h.mono fun x s1 h' => ⟨h'.1, h'.2.1, AWp.w hΓ hm body _ _ ok2 h'.2.2⟩))
theorem set_back {α : Type} {l : List α} {i j : Nat} {x y z : α} (h : l[i]? = some x) (hij : i ≠ j) : ((l.set i y).set j z).set i x = l.set j z := by
  obtain ⟨hi, rfl⟩ := List.getElem?_eq_some_iff.1 h
  rw [List.set_comm _ _ hij.symm, List.set_set, List.set_getElem_self]
end
end Go.Hk
namespace Go.Hk
theorem bld_any {B e : TypeId} {v : AVal} {b : Nat} {H : List ABlk} {T : List (Nat × (Nat × Nat))} {s' : List UInt8} {x : Option ABlk} {r : AVal} {m' : AMem} (h : bldR B e v b H T s' x = some (r, m')) (u : AVal) : bldR B e u b H T s' x = some (u, m') := by
  rcases (bld_cases h).2 with ⟨h1, h2 | h2, rfl⟩ | ⟨t, s, h2, h4, h5, rfl⟩
  · rw [h2]; exact bld_new h1
  · rw [h2]; exact bld_nil h1
  · rw [h2]; exact bld_on h4 rfl h5
/-- The Builder in block 1, and the tokens. -/
def bB (B : TypeId) (t : List UInt8) : ABlk := if t = [] then .cells 0 [.nilp, .sl .nil 0 []] else .cells 0 [.tpt B 1 2, .sl (.tok 0) t.length (fl cU t)]
def bT (e : TypeId) (t : List UInt8) : List (Nat × (Nat × Nat)) := if t = [] then [] else [(t.length, (1, e))]
open Classical in
/-- Yield writes a line into the Builder in block 1; the loop is block 3. -/
noncomputable def iYp (B e : TypeId) (lp : ABlk) (xs : List AVal) (m : AMem) : Option (AVal × AMem) :=
  match xs with
  | [.str l] => if m.H[3]? = some lp ∧ l.length + 1 < 1000000000 then (bldR B e .undef 1 m.H m.T (l ++ [10]) m.H[1]?).map (fun p => (.bool true, p.2)) else none
  | _ => none
theorem iYp_on {B e : TypeId} {c0 c2 lp : ABlk} {L : List ABlk} {t l : List UInt8} (h : t.length + l.length + 1 < 1000000000) :
    iYp B e lp [.str l] ⟨c0 :: bB B t :: c2 :: lp :: L, bT e t⟩ = some (.bool true, ⟨c0 :: bB B (t ++ (l ++ [10])) :: c2 :: lp :: L, bT e (t ++ (l ++ [10]))⟩) := by
  have hn : ∀ t : List UInt8, ¬ t ++ (l ++ [10]) = [] := by simp
  simp only [iYp, List.getElem?_cons_zero, List.getElem?_cons_succ, show l.length + 1 < 1000000000 by omega, and_self, if_true]
  by_cases ht : t = []
  · subst ht
    have hb : bB B ([] : List UInt8) = .cells 0 [.nilp, .sl .nil 0 []] := rfl
    rw [hb, bld_new (by simp; omega)]
    simp [bT, bB]
  · have hb : bB B t = .cells 0 [.tpt B 1 2, .sl (.tok 0) t.length (fl cU t)] := if_neg ht
    have hT : bT e t = [(t.length, (1, e))] := if_neg ht
    rw [hb, hT, bld_on (by simp [okR]) rfl (by simp; omega)]
    simp [bT, bB, hn]
theorem iYp_spec {B e : TypeId} {lp : ABlk} {xs : List AVal} {m m' : AMem} {r : AVal} (h : iYp B e lp xs m = some (r, m')) : ∃ l, xs = [.str l] ∧ m.H[3]? = some lp ∧ l.length + 1 < 1000000000 ∧ r = .bool true ∧ ∀ v, bldR B e v 1 m.H m.T (l ++ [10]) m.H[1]? = some (v, m') := by
  unfold iYp at h
  split at h
  · rename_i l
    split at h
    · rename_i hc
      simp only [Option.map_eq_some_iff] at h
      obtain ⟨⟨p1, p2⟩, h1, h2⟩ := h
      simp only [Prod.mk.injEq] at h2
      obtain ⟨rfl, rfl⟩ := h2
      exact ⟨l, rfl, hc.1, hc.2, rfl, fun v => bld_any h1 v⟩
    · cases h
  · cases h
theorem c_bB {B : TypeId} {h k : Nat} {t : List UInt8} (h1 : 1 < h) (h2 : t ≠ [] → 0 < k) : cloB h k (bB B t) = true := by
  unfold bB
  split
  · rfl
  · rename_i ht
    simp only [cloB, cloL, clo, cloR, l_s_cU, cloL_strip _ _ (l_s_cU (s := t)), Bool.and_true, Bool.and_eq_true, decide_eq_true_eq]
    simp [h1, h2 ht]
end Go.Hk
