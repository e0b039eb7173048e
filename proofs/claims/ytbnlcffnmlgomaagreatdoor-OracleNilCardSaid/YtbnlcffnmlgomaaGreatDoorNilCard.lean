/-
  OracleNil: whatever the act, and whatever it came to: nil, a zero oracle and empty logs answer as the document says (the law returns true, and its arguments read as before). Its conditions: those of the given row (listed variables hold what the program's text lays; tied by the card).
-/
import Derived.Test.YtbnlcffnmlgomaaGreatDoorNilRow
import Derived.Test.YtbnlcffnmlgomaaGreatDoorNilFacts3
import Derived.Test.YtbnlcffnmlgomaaGreatDoorNilFacts4
import Derived.Test.YtbnlcffnmlgomaaGreatDoorNilFacts5
set_option linter.unusedSectionVars false
set_option linter.unusedVariables false
set_option linter.unusedSimpArgs false
namespace Go.Proofs.YtbnlcffnmlgomaaGreatDoor
open Go.ChangeShapes Go.WideShapes Go.ChangeAt Go.RowKit

theorem oracleNil_holds : Rows.OracleNilCardSaid :=
  Claim7.holds_tied_plain_at .later [] [.data, .data, .data, .data, .pinned] true (true, "9f9f5a5bf361c9534715186352c89bcede31e02442bfc640e60dbebbe027727d") true oracleNil_row (fun _ h => by cases h) oracleNil_wfByText (fun _ h => by cases h) oracleNil_row_tie rfl ⟨rfl, rfl⟩ prog_main rfl
    (fun f fn hf hfn => by
      obtain rfl : f = 5 := Option.some.inj (oracleNil_named.symm.trans hf) |>.symm
      obtain rfl : fn = Tryz.f5 := (Option.some.inj (Tryz.func5.symm.trans hfn)).symm
      exact ⟨prog_looks, fun j t ht => by
        rw [Tryz.params5] at ht
        have hm : t ∈ [56, 61] := by simpa using Array.mem_of_getElem? ht
        have hall := oracleNil_stand
        exact (show Tryz.prog.wantsStandIn t = false by simpa using List.all_eq_true.1 hall t hm)⟩)
    oracleNil_goes
#print axioms oracleNil_holds
end Go.Proofs.YtbnlcffnmlgomaaGreatDoor
