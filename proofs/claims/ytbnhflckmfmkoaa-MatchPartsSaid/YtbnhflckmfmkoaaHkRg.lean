/- Ranges over functions and over maps, as rules of a walk; a round that writes into a Builder. -/
import Derived.Test.YtbnhflckmfmkoaaHkPg
set_option linter.unusedSimpArgs false
set_option linter.unusedVariables false
namespace Go.Hk
section
variable {P : Program} {Γ : Gam} {mu : Bool} {n hk tk : Nat} {Q : Exit → St → Prop} {e : List (Nat × AVal)} {m : AMem}
theorem e_w_regionx2 {k k2 : Nat} {t t2 : OT} {L : List (FuncId × Con)} {l : List Oper} {id : Nat} {d : Bool} (h : ¬ id = k) (h2 : ¬ id = k2) : W P (gamx [(k, t), (k2, t2)] L) mu hk tk (.region id l.toArray d) Q ⟨e, m⟩ = regW (opsO P (gamx [(k, t), (k2, t2)] L) mu (prep l l) (some ⟨e, m⟩)) Q := e_w_region0 (by
  have h1 : (k == id) = false := beq_eq_false_iff_ne.2 fun h' => h h'.symm
  have h3 : (k2 == id) = false := beq_eq_false_iff_ne.2 fun h' => h2 h'.symm
  simp only [gamx, List.find?, h1, h3]; rfl) rfl
attribute [go_sem] e_w_regionx2
theorem YCall.of_w {b : Nat} {args : List AVal} {m' : AMem} {r : AVal} {pend : Option Code} {ps : Array Tmp} {asg body : Code} {env : List (Nat × AVal)} (hΓ : Sound P Γ) (hm : P.follows .mixedOrders = true)
    (hb : m.H[b]? = some (.loop .ready pend ps asg body env n)) (hps : args.length = ps.size) (hpn : ps.toList.all (decide <| · < n) = true) (ha : rf asg = false) (hbd : rf body = false) (hH : m.H.length ≤ m'.H.length) (hT : m.T.length ≤ m'.T.length)
    (ok1 : codeOKx Γ mu n asg = true) (ok2 : codeOKx Γ mu n body = true)
    (h : W P Γ mu m.H.length m.T.length asg (fun x s1 => x = .normal ∧ s1.m.H[b]? = some (.loop .ready pend ps asg body env n) ∧
      W P Γ mu m.H.length m.T.length body (roundQ b ps asg body env n r m') ⟨s1.env, { s1.m with H := s1.m.H.set b (.loop .busy pend ps asg body env n) }⟩) ⟨bindP ps.toList args env, m⟩) : YCall P b args m r m' :=
  YCall.of_body hb hps hpn ha hbd hH hT (AWp.w hΓ hm asg _ _ ok1 (h.mono fun x s1 h' => ⟨h'.1, h'.2.1, AWp.w hΓ hm body _ _ ok2 h'.2.2⟩))
end
end Go.Hk
namespace Go.Hk
end Go.Hk
