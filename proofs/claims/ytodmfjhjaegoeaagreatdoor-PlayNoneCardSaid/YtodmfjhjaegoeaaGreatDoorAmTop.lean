/- From the abstract contract of a law's function to what its row asks. -/
import Derived.Test.YtodmfjhjaegoeaaGreatDoorAmAny
set_option linter.unusedVariables false
set_option linter.unusedSimpArgs false
namespace Go.Am
open Go.RowKit

theorem calls_top {P : Program} {f : FuncId} {fn : Func} {c : Code} {args : List Value} {cargs : Array Value} {W : World} {G : Gh} {h : Heap} (hf : P.funcs[f]? = some fn) (hb : fn.body = some c)
    (hname : (fn.name == "runtime.NumGoroutine") = false) (R : Rel P G h W.heap) (hV : VL G args cargs.toList) (hx : ∀ id e x, G id e = some x → Ext h id)
    (q : ACall P f args h (fun v _ => v = .bool true)) : Calls P f cargs W (fun e w' => e = .returned (.bool true) ∧ Below W.heap.size W w') := by
  have hcall : (callFunc f cargs).run P W = .ok (.enter f cargs) W := by
    have hb' : fn.body.isNone = false := by simp [hb]
    unfold callFunc
    simp only [Sem.run_bind, run_program, Result.andThen_ok, hf, hname, hb', Bool.false_eq_true, if_false, Sem.run_pure]
  have h1 := q.sem 0 G W cargs R hV
  rw [hcall] at h1
  refine callsIn_wide.1 (CallsIn.mono h1 ?_)
  intro e w' z
  cases e with
  | returned v =>
    obtain ⟨G', v0, h', rfl, _, hv, E⟩ := z
    refine ⟨by rw [hv.of_plainAtom rfl], E.os, E.tape, E.output, E.size, fun k hk => E.keep k hk fun id e x hq _ => hx id e x hq⟩
  | panicked _ => exact z.elim
  | outgrown => exact z.elim
end Go.Am
