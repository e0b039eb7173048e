/-
  The closed facts of the card, one by one.
-/
import Derived.Test.YtahpijfhoopilaaGreatDoorTie
import Derived.Test.YtahpijfhoopilaaGreatDoorCards
import Derived.SevenTiedAt
import Derived.KernelRfl
set_option linter.unusedSectionVars false
set_option linter.unusedVariables false
set_option linter.unusedSimpArgs false
namespace Go.Proofs.YtahpijfhoopilaaGreatDoor
theorem prog_looks : true = Tryz.prog.looks [] := by kernel_rfl
end Go.Proofs.YtahpijfhoopilaaGreatDoor
