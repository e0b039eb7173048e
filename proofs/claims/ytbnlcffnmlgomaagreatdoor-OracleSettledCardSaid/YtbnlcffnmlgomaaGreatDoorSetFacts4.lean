/-
  The closed facts of OracleSettled's card, one by one.
-/
import Derived.Test.YtbnlcffnmlgomaaGreatDoorTie
import Derived.Test.YtbnlcffnmlgomaaGreatDoorCards
import Derived.SevenTiedAt
import Derived.KernelRfl
set_option linter.unusedSectionVars false
set_option linter.unusedVariables false
set_option linter.unusedSimpArgs false
namespace Go.Proofs.YtbnlcffnmlgomaaGreatDoor
theorem prog_main2 : Tryz.pinned.checked.prog.mainIs = some (true, "9f9f5a5bf361c9534715186352c89bcede31e02442bfc640e60dbebbe027727d".toList) := by kernel_rfl
theorem oracleSettled_wfByText : Rows.oracleSettledRow.wfByText (OpenSpec.ofChange Rows.oracleSettledSpec) = true := by kernel_rfl
theorem oracleSettled_stand : ([39, 40].all fun u => !Tryz.prog.wantsStandIn u) = true := by kernel_rfl
theorem oracleSettled_named : Tryz.prog.funcNamed "commonplace/commonplacelaw30.OracleSettled" = some 4 := by kernel_rfl
end Go.Proofs.YtbnlcffnmlgomaaGreatDoor
