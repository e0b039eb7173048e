/-
  AcceptNil, called in whatever world: true; nothing that there was is another one.
-/
import Derived.Test.YtahpijfhoopilaaGreatDoorAccMC
set_option linter.unusedSectionVars false
set_option linter.unusedVariables false
set_option linter.unusedSimpArgs false
namespace Go.Abs
open Go Go.Proofs

@[reducible] def noOps : Ops := ⟨fun _ => .nilIface, fun _ => rfl, fun _ => rfl⟩

/-- a call without arguments, by a memo of it -/
theorem calls_of_memo [Ops] {C : Ctx} {g : FuncId} {M : Memo} (h : ConOk C g (conM M)) {v : Value} (hc : conM M .nil 0 [] = some (v, [])) (hv : af v = true) (w : World) :
    Calls C.P g #[] w fun e w' => e = .returned v ∧ RowKit.Below w.heap.size w w' := by
  have h0 : (0 : Nat) + ([] : List AObj).length < LIMIT := by decide
  refine (h (HR.empty C w) (fun _ _ h => h) (LR.nil (β := fun _ => none)) hc h0).mono fun e w' ⟨β', v', he, hr, _, hh⟩ => ?_
  rw [he, hr.af_eq hv]
  exact ⟨rfl, hh.below⟩

theorem acceptNil_calls (w : World) : Calls Tryz.prog 4 #[] w fun e w' => e = .returned (.bool true) ∧ RowKit.Below w.heap.size w w' :=
  letI := noOps
  calls_of_memo (C := (gEnv cons136).toCtx) (memo_ok ok136 rfl m136_run) (by kernel_rfl) rfl w
end Go.Abs
