/-
  The closed facts of a row, one by one (printed by gen_facts.py).
-/
import Derived.Test.YtbnlcffnmlgomaaGreatDoorRows
import Derived.JoinedOf
import Derived.KernelRfl
set_option linter.unusedSectionVars false
set_option linter.unusedVariables false
set_option linter.unusedSimpArgs false
namespace Go.Proofs.YtbnlcffnmlgomaaGreatDoor
theorem oracleNilRow_k0 : (Rows.oracleNilRow.wf (OpenSpec.ofChange Rows.oracleNilSpec)) = true := by kernel_rfl
theorem oracleNilRow_k1 : (laidOutB Tryz.prog) = true := by kernel_rfl
theorem oracleNilRow_k2 : (mapsRowed Tryz.prog) = true := by kernel_rfl
theorem oracleNilRow_k3 : (Tryz.f5.params.all (Tryz.prog.readableRec ·)) = true := by kernel_rfl
theorem oracleNilRow_k4 : (namedTie Tryz.prog Rows.oracleNilRow.named Rows.oracleNilSpec.vars) = true := by kernel_rfl
theorem oracleNilRow_k5 : ((Rows.oracleNilRow.stops == [])) = true := by kernel_rfl
theorem oracleNilRow_k6 : ((Tryz.prog.stops == [])) = true := by kernel_rfl
theorem oracleNilRow_k7 : ((Rows.oracleNilRow.knobs == [])) = true := by kernel_rfl
theorem oracleNilRow_k8 : ((Tryz.prog.stopKnobs == [])) = true := by kernel_rfl
theorem oracleNilRow_k9 : ((Rows.oracleNilRow.inPlace == Tryz.prog.inPlace 5)) = true := by kernel_rfl
theorem oracleNilRow_k10 : ((Rows.oracleNilRow.unfollowed == Tryz.prog.unfollowed 5)) = true := by kernel_rfl
theorem oracleNilRow_k11 : ((Rows.oracleNilRow.recurses == Tryz.prog.recurses 5)) = true := by kernel_rfl
theorem oracleNilRow_k12 : ((Rows.oracleNilRow.named == Tryz.prog.varsNamed 5)) = true := by kernel_rfl
theorem oracleNilRow_k13 : ((Rows.oracleNilRow.maps == (Tryz.f5.params.toList ++ Rows.oracleNilSpec.plain.varTypes Tryz.prog).any (Tryz.prog.mapsRec ·))) = true := by kernel_rfl
theorem oracleNilRow_k14 : ((Rows.oracleNilRow.ifaces == (Tryz.f5.params.toList ++ Rows.oracleNilSpec.plain.varTypes Tryz.prog).any (Tryz.prog.ifacesRec ·))) = true := by kernel_rfl
theorem oracleNilRow_k15 : ((Rows.oracleNilRow.mapsOut == Tryz.prog.mapsAmong Tryz.f5.resultTypes.toList)) = true := by kernel_rfl
theorem oracleNilRow_k16 : ((Rows.oracleNilRow.loops == (Tryz.f5.params.toList ++ Rows.oracleNilSpec.plain.varTypes Tryz.prog).any (Tryz.prog.loopsFrom ·))) = true := by kernel_rfl
theorem oracleNilRow_k17 : ((Rows.oracleNilRow.wideKeys == (Tryz.f5.params.toList ++ Rows.oracleNilSpec.plain.varTypes Tryz.prog ++ Tryz.f5.resultTypes.toList).any (Tryz.prog.wideKeysFrom ·))) = true := by kernel_rfl
theorem oracleNilRow_k18 : (Rows.oracleNilSpec.vars.all (Tryz.prog.varReadable ·)) = true := by kernel_rfl
theorem oracleNilRow_k19 : (Tryz.f5.resultTypes.all (fun t => Tryz.prog.readableRec t && decide (t < Tryz.prog.types.size))) = true := by kernel_rfl
theorem oracleNilRow_k20 : ((Rows.oracleNilRow.ifacesOut == Tryz.f5.resultTypes.toList.any (Tryz.prog.ifacesRec ·))) = true := by kernel_rfl
theorem oracleNilRow_k21 : ((Rows.oracleNilRow.loopsOut == Tryz.f5.resultTypes.toList.any (Tryz.prog.loopsFrom ·))) = true := by kernel_rfl
theorem oracleNilRow_k22 : ((Rows.oracleNilRow.plainKeys == Tryz.prog.plainKeys)) = true := by kernel_rfl
theorem oracleNilRow_k23 : (Rows.oracleNilRow.shortTexts.isNone) = true := by kernel_rfl
theorem oracleNilRow_k24 : (Tryz.prog.stopsHeard) = true := by kernel_rfl
theorem oracleNilRow_k25 : (Tryz.prog.mayEnter) = true := by kernel_rfl
theorem oracleNilRow_k26 : ((Rows.oracleNilRow.lifted == Tryz.prog.liftsFinal)) = true := by kernel_rfl
theorem oracleNilRow_k27 : ((Tryz.prog.make == some Rows.oracleNilRow.make)) = true := by kernel_rfl
theorem oracleNilRow_k28 : ((Rows.oracleNilRow.kinds == (if Rows.oracleNilRow.domain.isEmpty then [] else Tryz.f5.params.toList.map fun t => match Tryz.prog.underlying t with | some (.int k) => some k | _ => none))) = true := by kernel_rfl
theorem oracleNilRow_k29 : ((Rows.oracleNilRow.pinned == Rows.oracleNilRow.pinnedBy)) = true := by kernel_rfl
theorem oracleNilRow_k30 : ((Rows.oracleNilRow.veiled == (Tryz.f5.params.toList ++ Rows.oracleNilSpec.plain.varTypes Tryz.prog ++ Tryz.f5.resultTypes.toList).any (Tryz.prog.veiledRec ·))) = true := by kernel_rfl
theorem oracleNilRow_k31 : (Rows.oracleNilRow.veiledFits Tryz.prog Tryz.f5.params.toList (Tryz.f5.params.toList ++ Rows.oracleNilSpec.plain.varTypes Tryz.prog ++ Tryz.f5.resultTypes.toList)) = true := by kernel_rfl
end Go.Proofs.YtbnlcffnmlgomaaGreatDoor
