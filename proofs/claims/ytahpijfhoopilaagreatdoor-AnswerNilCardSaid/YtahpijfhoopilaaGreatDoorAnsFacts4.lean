/-
  The closed facts of the card, one by one.
-/
import Derived.Test.YtahpijfhoopilaaGreatDoorTie
import Derived.Test.YtahpijfhoopilaaGreatDoorCards
import Derived.SevenTiedAt
import Derived.KernelRfl
set_option linter.unusedSectionVars false
set_option linter.unusedVariables false
set_option linter.unusedSimpArgs false
namespace Go.Proofs.YtahpijfhoopilaaGreatDoor
theorem prog_main : Tryz.pinned.checked.prog.mainIs = some (true, "3dd04009d38a9a2874cab9bb51b6fb76b26e9a5f6b119d1ef4cdf1b5bce2f942".toList) := by kernel_rfl
theorem answerNil_wfByText : Rows.answerNilRow.wfByText (OpenSpec.ofChange Rows.answerNilSpec) = true := by kernel_rfl
theorem answerNil_stand : ([71].all fun u => !Tryz.prog.wantsStandIn u) = true := by kernel_rfl
theorem answerNil_named : Tryz.prog.funcNamed "commonplace/commonplacelaw22.AnswerNil" = some 5 := by kernel_rfl
theorem no_goes : Tryz.prog.funcs.toList.any Func.goes = false := by kernel_rfl
theorem goes_none (f : FuncId) : Tryz.prog.goes f = false := by
  have h1 : ∀ fn ∈ Tryz.prog.funcs.toList, Func.goes fn = false := fun fn h => by
    cases hg : Func.goes fn with
    | false => rfl
    | true => exact absurd (List.any_eq_true.2 ⟨fn, h, hg⟩) (by rw [no_goes]; simp)
  have h2 : Tryz.prog.funcs.any Func.goes = false := by rw [← Array.any_toList]; exact no_goes
  unfold Program.goes
  rw [h2, Bool.and_false, Bool.or_false]
  cases hc : (Tryz.prog.closure f).any fun g => (Tryz.prog.funcs[g]?).any Func.goes with
  | false => rfl
  | true =>
    exfalso
    have : ∃ g : Nat, (Tryz.prog.funcs[g]?).any Func.goes = true := by
      first
        | (obtain ⟨g, _, hg⟩ := List.any_eq_true.1 hc; exact ⟨g, hg⟩)
        | (obtain ⟨i, hi, hg⟩ := Array.any_eq_true.1 hc; exact ⟨_, hg⟩)
    obtain ⟨g, hg⟩ := this
    cases hf : Tryz.prog.funcs[g]? with
    | none => rw [hf] at hg; cases hg
    | some fn =>
      rw [hf] at hg
      have := h1 fn (List.mem_of_getElem? (by rw [Array.getElem?_toList]; exact hf))
      simp only [Option.any_some] at hg
      rw [this] at hg; cases hg
theorem answerNil_goes : false = Rows.answerNilRow.goesBy Tryz.pinned.checked.prog := by
  show false = ((Tryz.prog.funcNamed Rows.answerNilRow.func).any Tryz.prog.goes || false)
  cases Tryz.prog.funcNamed Rows.answerNilRow.func with
  | none => rfl
  | some f => simp [goes_none]
end Go.Proofs.YtahpijfhoopilaaGreatDoor
