/-
  AcceptNil: nil, a zero server and a new one answer as the document says (the law returns true). Its conditions: those of the given row (listed variables hold what the program's text lays; tied by the card).
-/
import Derived.Test.YtahpijfhoopilaaGreatDoorAccRow
import Derived.Test.YtahpijfhoopilaaGreatDoorAccFacts3
import Derived.Test.YtahpijfhoopilaaGreatDoorAccFacts4
set_option linter.unusedSectionVars false
set_option linter.unusedVariables false
set_option linter.unusedSimpArgs false
namespace Go.Proofs.YtahpijfhoopilaaGreatDoor
open Go.ChangeShapes Go.WideShapes Go.ChangeAt Go.RowKit

theorem acceptNil_holds : Rows.AcceptNilCardSaid :=
  Claim7.holds_tied_plain_at .later [] [.data, .data, .data, .data, .sentinel, .sentinel, .pinned, .pinned] true (true, "3dd04009d38a9a2874cab9bb51b6fb76b26e9a5f6b119d1ef4cdf1b5bce2f942") true acceptNil_row (fun _ h => by cases h) acceptNil_wfByText (fun _ h => by cases h) acceptNil_row_tie rfl ⟨rfl, rfl⟩ prog_main rfl
    (fun f fn hf hfn => by
      obtain rfl : f = 4 := Option.some.inj (acceptNil_named.symm.trans hf) |>.symm
      obtain rfl : fn = Tryz.f4 := (Option.some.inj (Tryz.func4.symm.trans hfn)).symm
      exact ⟨prog_looks, fun j t ht => by
        rw [Tryz.params4] at ht
        simp at ht⟩)
    acceptNil_goes
#print axioms acceptNil_holds
end Go.Proofs.YtahpijfhoopilaaGreatDoor
