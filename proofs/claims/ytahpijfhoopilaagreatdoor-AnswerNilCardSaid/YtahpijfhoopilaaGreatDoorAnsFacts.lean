/-
  The closed facts of a row, one by one (printed by gen_facts.py).
-/
import Derived.Test.YtahpijfhoopilaaGreatDoorRows
import Derived.JoinedOf
import Derived.KernelRfl
set_option linter.unusedSectionVars false
set_option linter.unusedVariables false
set_option linter.unusedSimpArgs false
namespace Go.Proofs.YtahpijfhoopilaaGreatDoor
theorem answerNilRow_k0 : (Rows.answerNilRow.wf (OpenSpec.ofChange Rows.answerNilSpec)) = true := by kernel_rfl
theorem answerNilRow_k1 : (laidOutB Tryz.prog) = true := by kernel_rfl
theorem answerNilRow_k2 : (mapsRowed Tryz.prog) = true := by kernel_rfl
theorem answerNilRow_k3 : (Tryz.f5.params.all (Tryz.prog.readableRec ·)) = true := by kernel_rfl
theorem answerNilRow_k4 : (namedTie Tryz.prog Rows.answerNilRow.named Rows.answerNilSpec.vars) = true := by kernel_rfl
theorem answerNilRow_k5 : ((Rows.answerNilRow.stops == [])) = true := by kernel_rfl
theorem answerNilRow_k6 : ((Tryz.prog.stops == [])) = true := by kernel_rfl
theorem answerNilRow_k7 : ((Rows.answerNilRow.knobs == [])) = true := by kernel_rfl
theorem answerNilRow_k8 : ((Tryz.prog.stopKnobs == [])) = true := by kernel_rfl
theorem answerNilRow_k9 : ((Rows.answerNilRow.inPlace == Tryz.prog.inPlace 5)) = true := by kernel_rfl
theorem answerNilRow_k10 : ((Rows.answerNilRow.unfollowed == Tryz.prog.unfollowed 5)) = true := by kernel_rfl
theorem answerNilRow_k11 : ((Rows.answerNilRow.recurses == Tryz.prog.recurses 5)) = true := by kernel_rfl
theorem answerNilRow_k12 : ((Rows.answerNilRow.named == Tryz.prog.varsNamed 5)) = true := by kernel_rfl
theorem answerNilRow_k13 : ((Rows.answerNilRow.maps == (Tryz.f5.params.toList ++ Rows.answerNilSpec.plain.varTypes Tryz.prog).any (Tryz.prog.mapsRec ·))) = true := by kernel_rfl
theorem answerNilRow_k14 : ((Rows.answerNilRow.ifaces == (Tryz.f5.params.toList ++ Rows.answerNilSpec.plain.varTypes Tryz.prog).any (Tryz.prog.ifacesRec ·))) = true := by kernel_rfl
theorem answerNilRow_k15 : ((Rows.answerNilRow.mapsOut == Tryz.prog.mapsAmong Tryz.f5.resultTypes.toList)) = true := by kernel_rfl
theorem answerNilRow_k16 : ((Rows.answerNilRow.loops == (Tryz.f5.params.toList ++ Rows.answerNilSpec.plain.varTypes Tryz.prog).any (Tryz.prog.loopsFrom ·))) = true := by kernel_rfl
theorem answerNilRow_k17 : ((Rows.answerNilRow.wideKeys == (Tryz.f5.params.toList ++ Rows.answerNilSpec.plain.varTypes Tryz.prog ++ Tryz.f5.resultTypes.toList).any (Tryz.prog.wideKeysFrom ·))) = true := by kernel_rfl
theorem answerNilRow_k18 : (Rows.answerNilSpec.vars.all (Tryz.prog.varReadable ·)) = true := by kernel_rfl
theorem answerNilRow_k19 : (Tryz.f5.resultTypes.all (fun t => Tryz.prog.readableRec t && decide (t < Tryz.prog.types.size))) = true := by kernel_rfl
theorem answerNilRow_k20 : ((Rows.answerNilRow.ifacesOut == Tryz.f5.resultTypes.toList.any (Tryz.prog.ifacesRec ·))) = true := by kernel_rfl
theorem answerNilRow_k21 : ((Rows.answerNilRow.loopsOut == Tryz.f5.resultTypes.toList.any (Tryz.prog.loopsFrom ·))) = true := by kernel_rfl
theorem answerNilRow_k22 : ((Rows.answerNilRow.plainKeys == Tryz.prog.plainKeys)) = true := by kernel_rfl
theorem answerNilRow_k23 : (Rows.answerNilRow.shortTexts.isNone) = true := by kernel_rfl
theorem answerNilRow_k24 : (Tryz.prog.stopsHeard) = true := by kernel_rfl
theorem answerNilRow_k25 : (Tryz.prog.mayEnter) = true := by kernel_rfl
theorem answerNilRow_k26 : ((Rows.answerNilRow.lifted == Tryz.prog.liftsFinal)) = true := by kernel_rfl
theorem answerNilRow_k27 : ((Tryz.prog.make == some Rows.answerNilRow.make)) = true := by kernel_rfl
theorem answerNilRow_k28 : ((Rows.answerNilRow.kinds == (if Rows.answerNilRow.domain.isEmpty then [] else Tryz.f5.params.toList.map fun t => match Tryz.prog.underlying t with | some (.int k) => some k | _ => none))) = true := by kernel_rfl
theorem answerNilRow_k29 : ((Rows.answerNilRow.pinned == Rows.answerNilRow.pinnedBy)) = true := by kernel_rfl
theorem answerNilRow_k30 : ((Rows.answerNilRow.veiled == (Tryz.f5.params.toList ++ Rows.answerNilSpec.plain.varTypes Tryz.prog ++ Tryz.f5.resultTypes.toList).any (Tryz.prog.veiledRec ·))) = true := by kernel_rfl
theorem answerNilRow_k31 : (Rows.answerNilRow.veiledFits Tryz.prog Tryz.f5.params.toList (Tryz.f5.params.toList ++ Rows.answerNilSpec.plain.varTypes Tryz.prog ++ Tryz.f5.resultTypes.toList)) = true := by kernel_rfl
end Go.Proofs.YtahpijfhoopilaaGreatDoor

/-
  The closed facts of a row, together.
-/
namespace Go.Proofs.YtahpijfhoopilaaGreatDoor
set_option maxRecDepth 100000
theorem answerNilRow_facts : joinedFacts Tryz.prog 5 Tryz.f5 Rows.answerNilSpec Rows.answerNilRow = true := by
  unfold joinedFacts
  simp only [Bool.and_eq_true]
  refine ⟨⟨⟨⟨⟨⟨⟨⟨⟨⟨⟨⟨⟨⟨⟨⟨⟨⟨⟨⟨⟨⟨⟨⟨⟨⟨⟨⟨⟨⟨⟨?_, ?_⟩, ?_⟩, ?_⟩, ?_⟩, ?_⟩, ?_⟩, ?_⟩, ?_⟩, ?_⟩, ?_⟩, ?_⟩, ?_⟩, ?_⟩, ?_⟩, ?_⟩, ?_⟩, ?_⟩, ?_⟩, ?_⟩, ?_⟩, ?_⟩, ?_⟩, ?_⟩, ?_⟩, ?_⟩, ?_⟩, ?_⟩, ?_⟩, ?_⟩, ?_⟩, ?_⟩
  · with_reducible exact answerNilRow_k0
  · with_reducible exact answerNilRow_k1
  · with_reducible exact answerNilRow_k2
  · with_reducible exact answerNilRow_k3
  · with_reducible exact answerNilRow_k4
  · with_reducible exact answerNilRow_k5
  · with_reducible exact answerNilRow_k6
  · with_reducible exact answerNilRow_k7
  · with_reducible exact answerNilRow_k8
  · with_reducible exact answerNilRow_k9
  · with_reducible exact answerNilRow_k10
  · with_reducible exact answerNilRow_k11
  · with_reducible exact answerNilRow_k12
  · with_reducible exact answerNilRow_k13
  · with_reducible exact answerNilRow_k14
  · with_reducible exact answerNilRow_k15
  · with_reducible exact answerNilRow_k16
  · with_reducible exact answerNilRow_k17
  · with_reducible exact answerNilRow_k18
  · with_reducible exact answerNilRow_k19
  · with_reducible exact answerNilRow_k20
  · with_reducible exact answerNilRow_k21
  · with_reducible exact answerNilRow_k22
  · with_reducible exact answerNilRow_k23
  · with_reducible exact answerNilRow_k24
  · with_reducible exact answerNilRow_k25
  · with_reducible exact answerNilRow_k26
  · with_reducible exact answerNilRow_k27
  · kernel_rfl
  · with_reducible exact answerNilRow_k29
  · with_reducible exact answerNilRow_k30
  · with_reducible exact answerNilRow_k31
end Go.Proofs.YtahpijfhoopilaaGreatDoor
