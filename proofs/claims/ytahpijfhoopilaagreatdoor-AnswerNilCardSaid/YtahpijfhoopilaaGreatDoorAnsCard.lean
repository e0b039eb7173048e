/-
  AnswerNil: whatever the request: no server, and a zero one, are answered as the document says (the law returns true, and its argument reads as before). Its conditions: those of the given row (listed variables hold what the program's text lays; tied by the card).
-/
import Derived.Test.YtahpijfhoopilaaGreatDoorAnsRow
import Derived.Test.YtahpijfhoopilaaGreatDoorAccFacts3
import Derived.Test.YtahpijfhoopilaaGreatDoorAnsFacts4
set_option linter.unusedSectionVars false
set_option linter.unusedVariables false
set_option linter.unusedSimpArgs false
namespace Go.Proofs.YtahpijfhoopilaaGreatDoor
open Go.ChangeShapes Go.WideShapes Go.ChangeAt Go.RowKit

theorem answerNil_holds : Rows.AnswerNilCardSaid :=
  Claim7.holds_tied_plain_at .later [] [.data, .data, .data, .data, .sentinel, .sentinel, .pinned, .pinned] true (true, "3dd04009d38a9a2874cab9bb51b6fb76b26e9a5f6b119d1ef4cdf1b5bce2f942") true answerNil_row (fun _ h => by cases h) answerNil_wfByText (fun _ h => by cases h) answerNil_row_tie rfl ⟨rfl, rfl⟩ prog_main rfl
    (fun f fn hf hfn => by
      obtain rfl : f = 5 := Option.some.inj (answerNil_named.symm.trans hf) |>.symm
      obtain rfl : fn = Tryz.f5 := (Option.some.inj (Tryz.func5.symm.trans hfn)).symm
      exact ⟨prog_looks, fun j t ht => by
        rw [Tryz.params5] at ht
        have hm : t ∈ [71] := by simpa using Array.mem_of_getElem? ht
        have hall := answerNil_stand
        exact (show Tryz.prog.wantsStandIn t = false by simpa using List.all_eq_true.1 hall t hm)⟩)
    answerNil_goes
#print axioms answerNil_holds
end Go.Proofs.YtahpijfhoopilaaGreatDoor
