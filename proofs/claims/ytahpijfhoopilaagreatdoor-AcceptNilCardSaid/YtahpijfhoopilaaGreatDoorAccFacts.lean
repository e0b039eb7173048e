/-
  The closed facts of a row, one by one (printed by gen_facts.py).
-/
import Derived.Test.YtahpijfhoopilaaGreatDoorRows
import Derived.JoinedOf
import Derived.KernelRfl
set_option linter.unusedSectionVars false
set_option linter.unusedVariables false
set_option linter.unusedSimpArgs false
namespace Go.Proofs.YtahpijfhoopilaaGreatDoor
theorem acceptNilRow_k0 : (Rows.acceptNilRow.wf (OpenSpec.ofChange Rows.acceptNilSpec)) = true := by kernel_rfl
theorem acceptNilRow_k1 : (laidOutB Tryz.prog) = true := by kernel_rfl
theorem acceptNilRow_k2 : (mapsRowed Tryz.prog) = true := by kernel_rfl
theorem acceptNilRow_k3 : (Tryz.f4.params.all (Tryz.prog.readableRec ·)) = true := by kernel_rfl
theorem acceptNilRow_k4 : (namedTie Tryz.prog Rows.acceptNilRow.named Rows.acceptNilSpec.vars) = true := by kernel_rfl
theorem acceptNilRow_k5 : ((Rows.acceptNilRow.stops == [])) = true := by kernel_rfl
theorem acceptNilRow_k6 : ((Tryz.prog.stops == [])) = true := by kernel_rfl
theorem acceptNilRow_k7 : ((Rows.acceptNilRow.knobs == [])) = true := by kernel_rfl
theorem acceptNilRow_k8 : ((Tryz.prog.stopKnobs == [])) = true := by kernel_rfl
theorem acceptNilRow_k9 : ((Rows.acceptNilRow.inPlace == Tryz.prog.inPlace 4)) = true := by kernel_rfl
theorem acceptNilRow_k10 : ((Rows.acceptNilRow.unfollowed == Tryz.prog.unfollowed 4)) = true := by kernel_rfl
theorem acceptNilRow_k11 : ((Rows.acceptNilRow.recurses == Tryz.prog.recurses 4)) = true := by kernel_rfl
theorem acceptNilRow_k12 : ((Rows.acceptNilRow.named == Tryz.prog.varsNamed 4)) = true := by kernel_rfl
theorem acceptNilRow_k13 : ((Rows.acceptNilRow.maps == (Tryz.f4.params.toList ++ Rows.acceptNilSpec.plain.varTypes Tryz.prog).any (Tryz.prog.mapsRec ·))) = true := by kernel_rfl
theorem acceptNilRow_k14 : ((Rows.acceptNilRow.ifaces == (Tryz.f4.params.toList ++ Rows.acceptNilSpec.plain.varTypes Tryz.prog).any (Tryz.prog.ifacesRec ·))) = true := by kernel_rfl
theorem acceptNilRow_k15 : ((Rows.acceptNilRow.mapsOut == Tryz.prog.mapsAmong Tryz.f4.resultTypes.toList)) = true := by kernel_rfl
theorem acceptNilRow_k16 : ((Rows.acceptNilRow.loops == (Tryz.f4.params.toList ++ Rows.acceptNilSpec.plain.varTypes Tryz.prog).any (Tryz.prog.loopsFrom ·))) = true := by kernel_rfl
theorem acceptNilRow_k17 : ((Rows.acceptNilRow.wideKeys == (Tryz.f4.params.toList ++ Rows.acceptNilSpec.plain.varTypes Tryz.prog ++ Tryz.f4.resultTypes.toList).any (Tryz.prog.wideKeysFrom ·))) = true := by kernel_rfl
theorem acceptNilRow_k18 : (Rows.acceptNilSpec.vars.all (Tryz.prog.varReadable ·)) = true := by kernel_rfl
theorem acceptNilRow_k19 : (Tryz.f4.resultTypes.all (fun t => Tryz.prog.readableRec t && decide (t < Tryz.prog.types.size))) = true := by kernel_rfl
theorem acceptNilRow_k20 : ((Rows.acceptNilRow.ifacesOut == Tryz.f4.resultTypes.toList.any (Tryz.prog.ifacesRec ·))) = true := by kernel_rfl
theorem acceptNilRow_k21 : ((Rows.acceptNilRow.loopsOut == Tryz.f4.resultTypes.toList.any (Tryz.prog.loopsFrom ·))) = true := by kernel_rfl
theorem acceptNilRow_k22 : ((Rows.acceptNilRow.plainKeys == Tryz.prog.plainKeys)) = true := by kernel_rfl
theorem acceptNilRow_k23 : (Rows.acceptNilRow.shortTexts.isNone) = true := by kernel_rfl
theorem acceptNilRow_k24 : (Tryz.prog.stopsHeard) = true := by kernel_rfl
theorem acceptNilRow_k25 : (Tryz.prog.mayEnter) = true := by kernel_rfl
theorem acceptNilRow_k26 : ((Rows.acceptNilRow.lifted == Tryz.prog.liftsFinal)) = true := by kernel_rfl
theorem acceptNilRow_k27 : ((Tryz.prog.make == some Rows.acceptNilRow.make)) = true := by kernel_rfl
theorem acceptNilRow_k28 : ((Rows.acceptNilRow.kinds == (if Rows.acceptNilRow.domain.isEmpty then [] else Tryz.f4.params.toList.map fun t => match Tryz.prog.underlying t with | some (.int k) => some k | _ => none))) = true := by kernel_rfl
theorem acceptNilRow_k29 : ((Rows.acceptNilRow.pinned == Rows.acceptNilRow.pinnedBy)) = true := by kernel_rfl
theorem acceptNilRow_k30 : ((Rows.acceptNilRow.veiled == (Tryz.f4.params.toList ++ Rows.acceptNilSpec.plain.varTypes Tryz.prog ++ Tryz.f4.resultTypes.toList).any (Tryz.prog.veiledRec ·))) = true := by kernel_rfl
theorem acceptNilRow_k31 : (Rows.acceptNilRow.veiledFits Tryz.prog Tryz.f4.params.toList (Tryz.f4.params.toList ++ Rows.acceptNilSpec.plain.varTypes Tryz.prog ++ Tryz.f4.resultTypes.toList)) = true := by kernel_rfl
end Go.Proofs.YtahpijfhoopilaaGreatDoor

/-
  The closed facts of a row, together.
-/
namespace Go.Proofs.YtahpijfhoopilaaGreatDoor
set_option maxRecDepth 100000
theorem acceptNilRow_facts : joinedFacts Tryz.prog 4 Tryz.f4 Rows.acceptNilSpec Rows.acceptNilRow = true := by
  unfold joinedFacts
  simp only [Bool.and_eq_true]
  refine ⟨⟨⟨⟨⟨⟨⟨⟨⟨⟨⟨⟨⟨⟨⟨⟨⟨⟨⟨⟨⟨⟨⟨⟨⟨⟨⟨⟨⟨⟨⟨?_, ?_⟩, ?_⟩, ?_⟩, ?_⟩, ?_⟩, ?_⟩, ?_⟩, ?_⟩, ?_⟩, ?_⟩, ?_⟩, ?_⟩, ?_⟩, ?_⟩, ?_⟩, ?_⟩, ?_⟩, ?_⟩, ?_⟩, ?_⟩, ?_⟩, ?_⟩, ?_⟩, ?_⟩, ?_⟩, ?_⟩, ?_⟩, ?_⟩, ?_⟩, ?_⟩, ?_⟩
  · with_reducible exact acceptNilRow_k0
  · with_reducible exact acceptNilRow_k1
  · with_reducible exact acceptNilRow_k2
  · with_reducible exact acceptNilRow_k3
  · with_reducible exact acceptNilRow_k4
  · with_reducible exact acceptNilRow_k5
  · with_reducible exact acceptNilRow_k6
  · with_reducible exact acceptNilRow_k7
  · with_reducible exact acceptNilRow_k8
  · with_reducible exact acceptNilRow_k9
  · with_reducible exact acceptNilRow_k10
  · with_reducible exact acceptNilRow_k11
  · with_reducible exact acceptNilRow_k12
  · with_reducible exact acceptNilRow_k13
  · with_reducible exact acceptNilRow_k14
  · with_reducible exact acceptNilRow_k15
  · with_reducible exact acceptNilRow_k16
  · with_reducible exact acceptNilRow_k17
  · with_reducible exact acceptNilRow_k18
  · with_reducible exact acceptNilRow_k19
  · with_reducible exact acceptNilRow_k20
  · with_reducible exact acceptNilRow_k21
  · with_reducible exact acceptNilRow_k22
  · with_reducible exact acceptNilRow_k23
  · with_reducible exact acceptNilRow_k24
  · with_reducible exact acceptNilRow_k25
  · with_reducible exact acceptNilRow_k26
  · with_reducible exact acceptNilRow_k27
  · kernel_rfl
  · with_reducible exact acceptNilRow_k29
  · with_reducible exact acceptNilRow_k30
  · with_reducible exact acceptNilRow_k31
end Go.Proofs.YtahpijfhoopilaaGreatDoor
