/-
  The closed facts of a row, together.
-/
import Derived.Test.YtbnlcffnmlgomaaGreatDoorNilFacts
set_option linter.unusedSectionVars false
set_option linter.unusedVariables false
set_option linter.unusedSimpArgs false
namespace Go.Proofs.YtbnlcffnmlgomaaGreatDoor
set_option maxRecDepth 100000
theorem oracleNilRow_facts : joinedFacts Tryz.prog 5 Tryz.f5 Rows.oracleNilSpec Rows.oracleNilRow = true := by
  unfold joinedFacts
  simp only [Bool.and_eq_true]
  refine ⟨⟨⟨⟨⟨⟨⟨⟨⟨⟨⟨⟨⟨⟨⟨⟨⟨⟨⟨⟨⟨⟨⟨⟨⟨⟨⟨⟨⟨⟨⟨?_, ?_⟩, ?_⟩, ?_⟩, ?_⟩, ?_⟩, ?_⟩, ?_⟩, ?_⟩, ?_⟩, ?_⟩, ?_⟩, ?_⟩, ?_⟩, ?_⟩, ?_⟩, ?_⟩, ?_⟩, ?_⟩, ?_⟩, ?_⟩, ?_⟩, ?_⟩, ?_⟩, ?_⟩, ?_⟩, ?_⟩, ?_⟩, ?_⟩, ?_⟩, ?_⟩, ?_⟩
  · with_reducible exact oracleNilRow_k0
  · with_reducible exact oracleNilRow_k1
  · with_reducible exact oracleNilRow_k2
  · with_reducible exact oracleNilRow_k3
  · with_reducible exact oracleNilRow_k4
  · with_reducible exact oracleNilRow_k5
  · with_reducible exact oracleNilRow_k6
  · with_reducible exact oracleNilRow_k7
  · with_reducible exact oracleNilRow_k8
  · with_reducible exact oracleNilRow_k9
  · with_reducible exact oracleNilRow_k10
  · with_reducible exact oracleNilRow_k11
  · with_reducible exact oracleNilRow_k12
  · with_reducible exact oracleNilRow_k13
  · with_reducible exact oracleNilRow_k14
  · with_reducible exact oracleNilRow_k15
  · with_reducible exact oracleNilRow_k16
  · with_reducible exact oracleNilRow_k17
  · with_reducible exact oracleNilRow_k18
  · with_reducible exact oracleNilRow_k19
  · with_reducible exact oracleNilRow_k20
  · with_reducible exact oracleNilRow_k21
  · with_reducible exact oracleNilRow_k22
  · with_reducible exact oracleNilRow_k23
  · with_reducible exact oracleNilRow_k24
  · with_reducible exact oracleNilRow_k25
  · with_reducible exact oracleNilRow_k26
  · with_reducible exact oracleNilRow_k27
  · kernel_rfl
  · with_reducible exact oracleNilRow_k29
  · with_reducible exact oracleNilRow_k30
  · with_reducible exact oracleNilRow_k31
end Go.Proofs.YtbnlcffnmlgomaaGreatDoor
