/-
  OracleSettled: whatever the store and the views, what the document says of a settled oracle holds (the law returns true, and its arguments read as before). Its conditions: those of the given row (listed variables hold what the program's text lays; tied by the card).
-/
import Derived.Test.YtbnlcffnmlgomaaGreatDoorSetRow
import Derived.Test.YtbnlcffnmlgomaaGreatDoorNilFacts3
import Derived.Test.YtbnlcffnmlgomaaGreatDoorSetFacts4
import Derived.Test.YtbnlcffnmlgomaaGreatDoorSetFacts5
set_option linter.unusedSectionVars false
set_option linter.unusedVariables false
set_option linter.unusedSimpArgs false
namespace Go.Proofs.YtbnlcffnmlgomaaGreatDoor
open Go.ChangeShapes Go.WideShapes Go.ChangeAt Go.RowKit

theorem oracleSettled_holds : Rows.OracleSettledCardSaid :=
  Claim7.holds_tied_plain_at .later [] [.data, .data, .data, .data, .pinned] true (true, "9f9f5a5bf361c9534715186352c89bcede31e02442bfc640e60dbebbe027727d") true oracleSettled_row (fun _ h => by cases h) oracleSettled_wfByText (fun _ h => by cases h) oracleSettled_row_tie rfl ⟨rfl, rfl⟩ prog_main2 rfl
    (fun f fn hf hfn => by
      obtain rfl : f = 4 := Option.some.inj (oracleSettled_named.symm.trans hf) |>.symm
      obtain rfl : fn = Tryz.f4 := (Option.some.inj (Tryz.func4.symm.trans hfn)).symm
      exact ⟨prog_looks, fun j t ht => by
        rw [Tryz.params4] at ht
        have hm : t ∈ [39, 40] := by simpa using Array.mem_of_getElem? ht
        have hall := oracleSettled_stand
        exact (show Tryz.prog.wantsStandIn t = false by simpa using List.all_eq_true.1 hall t hm)⟩)
    oracleSettled_goes
#print axioms oracleSettled_holds
end Go.Proofs.YtbnlcffnmlgomaaGreatDoor
