/-
  OracleSettled: the row.
-/
import Derived.Test.YtbnlcffnmlgomaaGreatDoorSetLift
import Derived.Test.YtbnlcffnmlgomaaGreatDoorSetFacts2
set_option linter.unusedSectionVars false
set_option linter.unusedVariables false
set_option linter.unusedSimpArgs false
namespace Go.Proofs.YtbnlcffnmlgomaaGreatDoor
open Go.ChangeShapes Go.WideShapes Go.ChangeAt Go.RowKit

theorem oracleSettled_row : Rows.OracleSettledSaid :=
  OpenClaim.holds_of_wide 4 Tryz.f4 rfl rfl rfl rfl rfl rfl rfl ⟨rfl, rfl, rfl, rfl, rfl⟩ rfl rfl rfl rfl rfl (by kernel_rfl) Tryz.func4 oracleSettledRow_facts
    (of_decide_eq_true (by kernel_rfl)) (by unfold Func.isWrapper; first | (rw [if_pos (by decide +kernel)]; kernel_rfl) | (rw [if_neg (by decide +kernel)]; exact ⟨rfl, rfl⟩))
    (fun os started H enc _ => oracleSettled_lifted os started H enc)
end Go.Proofs.YtbnlcffnmlgomaaGreatDoor
