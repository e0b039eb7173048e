/-
  The closed facts of OracleNil's card, one by one.
-/
import Derived.Test.YtbnlcffnmlgomaaGreatDoorTie
import Derived.Test.YtbnlcffnmlgomaaGreatDoorCards
import Derived.SevenTiedAt
import Derived.KernelRfl
set_option linter.unusedSectionVars false
set_option linter.unusedVariables false
set_option linter.unusedSimpArgs false
namespace Go.Proofs.YtbnlcffnmlgomaaGreatDoor
theorem prog_looks : true = Tryz.prog.looks [] := by kernel_rfl
end Go.Proofs.YtbnlcffnmlgomaaGreatDoor
