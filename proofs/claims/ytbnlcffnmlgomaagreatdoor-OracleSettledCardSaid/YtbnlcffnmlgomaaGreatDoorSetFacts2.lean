/-
  The closed facts of a row, together.
-/
import Derived.Test.YtbnlcffnmlgomaaGreatDoorSetFacts
set_option linter.unusedSectionVars false
set_option linter.unusedVariables false
set_option linter.unusedSimpArgs false
namespace Go.Proofs.YtbnlcffnmlgomaaGreatDoor
set_option maxRecDepth 100000
theorem oracleSettledRow_facts : joinedFacts Tryz.prog 4 Tryz.f4 Rows.oracleSettledSpec Rows.oracleSettledRow = true := by
  unfold joinedFacts
  simp only [Bool.and_eq_true]
  refine ⟨⟨⟨⟨⟨⟨⟨⟨⟨⟨⟨⟨⟨⟨⟨⟨⟨⟨⟨⟨⟨⟨⟨⟨⟨⟨⟨⟨⟨⟨⟨?_, ?_⟩, ?_⟩, ?_⟩, ?_⟩, ?_⟩, ?_⟩, ?_⟩, ?_⟩, ?_⟩, ?_⟩, ?_⟩, ?_⟩, ?_⟩, ?_⟩, ?_⟩, ?_⟩, ?_⟩, ?_⟩, ?_⟩, ?_⟩, ?_⟩, ?_⟩, ?_⟩, ?_⟩, ?_⟩, ?_⟩, ?_⟩, ?_⟩, ?_⟩, ?_⟩, ?_⟩
  · with_reducible exact oracleSettledRow_k0
  · with_reducible exact oracleSettledRow_k1
  · with_reducible exact oracleSettledRow_k2
  · with_reducible exact oracleSettledRow_k3
  · with_reducible exact oracleSettledRow_k4
  · with_reducible exact oracleSettledRow_k5
  · with_reducible exact oracleSettledRow_k6
  · with_reducible exact oracleSettledRow_k7
  · with_reducible exact oracleSettledRow_k8
  · with_reducible exact oracleSettledRow_k9
  · with_reducible exact oracleSettledRow_k10
  · with_reducible exact oracleSettledRow_k11
  · with_reducible exact oracleSettledRow_k12
  · with_reducible exact oracleSettledRow_k13
  · with_reducible exact oracleSettledRow_k14
  · with_reducible exact oracleSettledRow_k15
  · with_reducible exact oracleSettledRow_k16
  · with_reducible exact oracleSettledRow_k17
  · with_reducible exact oracleSettledRow_k18
  · with_reducible exact oracleSettledRow_k19
  · with_reducible exact oracleSettledRow_k20
  · with_reducible exact oracleSettledRow_k21
  · with_reducible exact oracleSettledRow_k22
  · with_reducible exact oracleSettledRow_k23
  · with_reducible exact oracleSettledRow_k24
  · with_reducible exact oracleSettledRow_k25
  · with_reducible exact oracleSettledRow_k26
  · with_reducible exact oracleSettledRow_k27
  · kernel_rfl
  · with_reducible exact oracleSettledRow_k29
  · with_reducible exact oracleSettledRow_k30
  · with_reducible exact oracleSettledRow_k31
end Go.Proofs.YtbnlcffnmlgomaaGreatDoor
