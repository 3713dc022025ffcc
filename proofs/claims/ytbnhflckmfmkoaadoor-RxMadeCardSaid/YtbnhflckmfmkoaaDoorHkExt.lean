/- Two functions of the library that the model runs in one step: NoEscape, MakeNoZero. -/
import Derived.Test.YtbnhflckmfmkoaaDoorHkI
import Derived.Laws.Externs
import Derived.Lib.MakeNoZero
set_option linter.unusedSimpArgs false
set_option linter.unusedVariables false
namespace Go.Hk
open Go.RowKit
theorem vals_one {vals : Array Value} (h : vals.size = 1) : vals = #[vals.getD 0 undef] := by
  match vals, h with
  | ⟨[x]⟩, _ => rfl
theorem ecall_same {P : Program} {f : FuncId} {fn : Func} (hf : P.funcs[f]? = some fn) (hname : (fn.name == "runtime.NumGoroutine") = false) (hb : fn.body.isNone = true) (hn : Extern.findNext fn = none)
    (he : Extern.find fn = some Extern.AbiNoEscape.same) (x : AVal) (T : List (Nat × (Nat × Nat))) : ECall P f [x] T x T := by
  intro γ vals hr hT hv
  obtain ⟨hs, hv⟩ := hv
  refine ⟨vals.getD 0 undef, γ, ?_, Ext.refl γ, hr, ?_, hv 0 (by simp)⟩
  · rw [run_callFunc_extern hf hname hb hn he]
    have hvals := vals_one (vals := vals) (by simpa using hs)
    generalize vals.getD 0 undef = x' at *
    subst hvals
    rfl
  · rw [← hT]
theorem ecall_room {P : Program} {f : FuncId} {fn : Func} {ps : Array TypeId} {t e : TypeId} (hf : P.funcs[f]? = some fn) (hname : (fn.name == "runtime.NumGoroutine") = false) (hb : fn.body.isNone = true) (hn : Extern.findNext fn = none)
    (he : Extern.find fn = some (Extern.BytealgMakeNoZero.makeNoZero ps #[t])) (ht : P.underlying t = some (.slice e)) (n : Nat) (hn2 : n ≤ 281474976710656) (T : List (Nat × (Nat × Nat))) :
    ECall P f [.int .i64 n] T (.sl (.tok T.length) n []) (T ++ [(0, (1, e))]) := by
  intro γ vals hr hT hv
  obtain ⟨hs, hv⟩ := hv
  have h0 := hv 0 (by simp)
  have hvals := vals_one (by simpa using hs)
  simp only [List.getElem_cons_zero] at h0
  generalize vals.getD 0 undef = x at *
  cases h0
  obtain ⟨cs, hrun, hle, _⟩ := Lib.run_makeNoZero (P := P) γ.w ps t e ht n hn2
  have hgw : Grow γ.w (γ.w.drew.drew.alloc (.cells cs e)) := (Grow.drew γ.w).trans ((Grow.drew _).trans (Grow.alloc _ _))
  have hT0 : γ.S.T[γ.S.T.length]? = none := by simp
  have hT1 : (γ.S.T ++ [(0, (1, e))])[γ.S.T.length]? = some (0, (1, e)) := by simp
  have hstep : TokStep γ γ.S.T.length (γ.S.T ++ [(0, (1, e))]) 0 (1, e) (some γ.w.heap.size) cs.size (γ.w.drew.drew.alloc (.cells cs e)) :=
    { os := rfl, tape := rfl, output := rfl, size := hgw.size, at_ := hT1
      other := fun x hx => by
        by_cases h : x < γ.S.T.length
        · rw [List.getElem?_append_left h]
        · rw [List.getElem?_eq_none (by simp; omega), List.getElem?_eq_none (by omega)]
      old := fun tp0 sz0 h0 => by rw [hT0] at h0; cases h0
      block := fun q hq _ => hgw.block q hq
      typed := fun h _ _ => absurd h (by omega)
      tys := fun x ar ty fz hx h => ⟨ar, fz, (hgw.block x (hr.own x (.inr ⟨_, hx⟩)).2).trans h, Nat.le_refl _⟩
      low := fun q _ _ o hown _ _ => World.cell?_of_block (w := γ.w) (hgw.block q (hr.own q (.inr ⟨_, hown⟩)).2)
      new := fun g hg _ => by
        cases hg
        exact ⟨.inr (Nat.le_refl _), by simp, cs, 0, 0, heap_alloc_new _ _, by simp, Nat.zero_le _⟩ }
  have hext := ext_tok hstep
  refine ⟨.slice (some ⟨γ.w.heap.size, 0, none⟩) n cs.size, γ.tok γ.S.T.length (γ.S.T ++ [(0, (1, e))]) (some γ.w.heap.size) cs.size (γ.w.drew.drew.alloc (.cells cs e)), ?_, hext, rl_tok hr hstep, ?_, ?_⟩
  · rw [run_callFunc_extern hf hname hb hn he, hvals, hrun]
    rfl
  · rw [← hT]; rfl
  · rw [← hT]
    refine .sl _ _ _ γ.w.heap.size 0 cs.size (fun _ => undef) hle (fun j hj => absurd hj (by simp)) (fun j hj => absurd hj (by simp)) ⟨⟨0, (1, e), hT1, by simp, fun _ => ⟨?_, ?_⟩, fun h => absurd h (by simp)⟩, .inl rfl⟩
    · show (if _ = _ then _ else _) = _
      rw [if_pos rfl]
    · show (if _ = _ then _ else _) = _
      rw [if_pos rfl]
end Go.Hk
