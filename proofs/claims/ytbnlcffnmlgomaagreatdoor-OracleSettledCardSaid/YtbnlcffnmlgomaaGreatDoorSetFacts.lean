/-
  The closed facts of a row, one by one (printed by gen_facts.py).
-/
import Derived.Test.YtbnlcffnmlgomaaGreatDoorRows
import Derived.JoinedOf
import Derived.KernelRfl
set_option linter.unusedSectionVars false
set_option linter.unusedVariables false
set_option linter.unusedSimpArgs false
namespace Go.Proofs.YtbnlcffnmlgomaaGreatDoor
theorem oracleSettledRow_k0 : (Rows.oracleSettledRow.wf (OpenSpec.ofChange Rows.oracleSettledSpec)) = true := by kernel_rfl
theorem oracleSettledRow_k1 : (laidOutB Tryz.prog) = true := by kernel_rfl
theorem oracleSettledRow_k2 : (mapsRowed Tryz.prog) = true := by kernel_rfl
theorem oracleSettledRow_k3 : (Tryz.f4.params.all (Tryz.prog.readableRec ·)) = true := by kernel_rfl
theorem oracleSettledRow_k4 : (namedTie Tryz.prog Rows.oracleSettledRow.named Rows.oracleSettledSpec.vars) = true := by kernel_rfl
theorem oracleSettledRow_k5 : ((Rows.oracleSettledRow.stops == [])) = true := by kernel_rfl
theorem oracleSettledRow_k6 : ((Tryz.prog.stops == [])) = true := by kernel_rfl
theorem oracleSettledRow_k7 : ((Rows.oracleSettledRow.knobs == [])) = true := by kernel_rfl
theorem oracleSettledRow_k8 : ((Tryz.prog.stopKnobs == [])) = true := by kernel_rfl
theorem oracleSettledRow_k9 : ((Rows.oracleSettledRow.inPlace == Tryz.prog.inPlace 4)) = true := by kernel_rfl
theorem oracleSettledRow_k10 : ((Rows.oracleSettledRow.unfollowed == Tryz.prog.unfollowed 4)) = true := by kernel_rfl
theorem oracleSettledRow_k11 : ((Rows.oracleSettledRow.recurses == Tryz.prog.recurses 4)) = true := by kernel_rfl
theorem oracleSettledRow_k12 : ((Rows.oracleSettledRow.named == Tryz.prog.varsNamed 4)) = true := by kernel_rfl
theorem oracleSettledRow_k13 : ((Rows.oracleSettledRow.maps == (Tryz.f4.params.toList ++ Rows.oracleSettledSpec.plain.varTypes Tryz.prog).any (Tryz.prog.mapsRec ·))) = true := by kernel_rfl
theorem oracleSettledRow_k14 : ((Rows.oracleSettledRow.ifaces == (Tryz.f4.params.toList ++ Rows.oracleSettledSpec.plain.varTypes Tryz.prog).any (Tryz.prog.ifacesRec ·))) = true := by kernel_rfl
theorem oracleSettledRow_k15 : ((Rows.oracleSettledRow.mapsOut == Tryz.prog.mapsAmong Tryz.f4.resultTypes.toList)) = true := by kernel_rfl
theorem oracleSettledRow_k16 : ((Rows.oracleSettledRow.loops == (Tryz.f4.params.toList ++ Rows.oracleSettledSpec.plain.varTypes Tryz.prog).any (Tryz.prog.loopsFrom ·))) = true := by kernel_rfl
theorem oracleSettledRow_k17 : ((Rows.oracleSettledRow.wideKeys == (Tryz.f4.params.toList ++ Rows.oracleSettledSpec.plain.varTypes Tryz.prog ++ Tryz.f4.resultTypes.toList).any (Tryz.prog.wideKeysFrom ·))) = true := by kernel_rfl
theorem oracleSettledRow_k18 : (Rows.oracleSettledSpec.vars.all (Tryz.prog.varReadable ·)) = true := by kernel_rfl
theorem oracleSettledRow_k19 : (Tryz.f4.resultTypes.all (fun t => Tryz.prog.readableRec t && decide (t < Tryz.prog.types.size))) = true := by kernel_rfl
theorem oracleSettledRow_k20 : ((Rows.oracleSettledRow.ifacesOut == Tryz.f4.resultTypes.toList.any (Tryz.prog.ifacesRec ·))) = true := by kernel_rfl
theorem oracleSettledRow_k21 : ((Rows.oracleSettledRow.loopsOut == Tryz.f4.resultTypes.toList.any (Tryz.prog.loopsFrom ·))) = true := by kernel_rfl
theorem oracleSettledRow_k22 : ((Rows.oracleSettledRow.plainKeys == Tryz.prog.plainKeys)) = true := by kernel_rfl
theorem oracleSettledRow_k23 : (Rows.oracleSettledRow.shortTexts.isNone) = true := by kernel_rfl
theorem oracleSettledRow_k24 : (Tryz.prog.stopsHeard) = true := by kernel_rfl
theorem oracleSettledRow_k25 : (Tryz.prog.mayEnter) = true := by kernel_rfl
theorem oracleSettledRow_k26 : ((Rows.oracleSettledRow.lifted == Tryz.prog.liftsFinal)) = true := by kernel_rfl
theorem oracleSettledRow_k27 : ((Tryz.prog.make == some Rows.oracleSettledRow.make)) = true := by kernel_rfl
theorem oracleSettledRow_k28 : ((Rows.oracleSettledRow.kinds == (if Rows.oracleSettledRow.domain.isEmpty then [] else Tryz.f4.params.toList.map fun t => match Tryz.prog.underlying t with | some (.int k) => some k | _ => none))) = true := by kernel_rfl
theorem oracleSettledRow_k29 : ((Rows.oracleSettledRow.pinned == Rows.oracleSettledRow.pinnedBy)) = true := by kernel_rfl
theorem oracleSettledRow_k30 : ((Rows.oracleSettledRow.veiled == (Tryz.f4.params.toList ++ Rows.oracleSettledSpec.plain.varTypes Tryz.prog ++ Tryz.f4.resultTypes.toList).any (Tryz.prog.veiledRec ·))) = true := by kernel_rfl
theorem oracleSettledRow_k31 : (Rows.oracleSettledRow.veiledFits Tryz.prog Tryz.f4.params.toList (Tryz.f4.params.toList ++ Rows.oracleSettledSpec.plain.varTypes Tryz.prog ++ Tryz.f4.resultTypes.toList)) = true := by kernel_rfl
end Go.Proofs.YtbnlcffnmlgomaaGreatDoor
