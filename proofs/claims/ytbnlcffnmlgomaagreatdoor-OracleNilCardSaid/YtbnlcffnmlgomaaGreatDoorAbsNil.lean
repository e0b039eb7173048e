/-
  What OracleNil calls, where nothing but the program's text decides.
-/
import Derived.Test.YtbnlcffnmlgomaaGreatDoorAbsKnown
set_option linter.unusedSectionVars false
set_option linter.unusedVariables false
set_option linter.unusedSimpArgs false
namespace Go.Abs
open Go Go.Proofs

def noStore : Value := .agg ⟨[.int .u64 0, .slice none 0 0, .slice none 0 0]⟩
def okAll : Value := .tuple ⟨[.int .i64 0, .int .i64 0]⟩

theorem judgeNil_out : outcomeS (mkEnv Tryz.prog 347) 18 [.pointer none, noStore, .slice none 0 0] .nil 0 200 = some (.tuple ⟨[.int .i64 0, .int .i64 1]⟩) := by kernel_rfl
theorem hNil_out : outcomeS (mkEnv Tryz.prog 347) 10 [.slice none 0 0, .int .u64 0] .nil 0 2000 = some (.tuple ⟨[.slice none 0 0, .int .i64 0]⟩) := by kernel_rfl
theorem logNil_out : outcomeS (mkEnv Tryz.prog 347) 19 [.slice none 0 0] .nil 0 2000 = some okAll := by kernel_rfl
theorem storeNil_out : outcomeS (mkEnv Tryz.prog 347) 21 [noStore] .nil 0 2000 = some (.int .i64 0) := by kernel_rfl
theorem settledNil_out : outcomeS (mkEnv Tryz.prog 347) 15 [noStore, .slice none 0 0] .nil 0 2000 = some (.bool true) := by kernel_rfl
theorem lastNil_out : outcomeS (mkEnv Tryz.prog 347) 11 [.slice none 0 0, .int .i64 1, .int .u64 5] .nil 0 2000 = some (.int .u64 0) := by kernel_rfl
def zeroL : List Value := [.int .i64 0, .map none, .map none]
theorem zero_is : (Tryz.prog.info? 65).bind (·.zero) = some (.agg ⟨zeroL⟩) := by kernel_rfl
theorem judgeZero_out : outcomeS (mkEnv Tryz.prog 347) 18 [ptr 0 0, noStore, .slice none 0 0] (hput .nil 0 (.cells zeroL 65 2)) 1 2000 = some okAll := by kernel_rfl

theorem judgeNil (w : World) : Calls Tryz.prog 18 ⟨[.pointer none, noStore, .slice none 0 0]⟩ w fun e w' => e = .returned (.tuple ⟨[.int .i64 0, .int .i64 1]⟩) ∧ RowKit.Below w.heap.size w w' := letI := noOps; calls_of_outcome envOk rfl rfl judgeNil_out w
theorem hNil (w : World) : Calls Tryz.prog 10 ⟨[.slice none 0 0, .int .u64 0]⟩ w fun e w' => e = .returned (.tuple ⟨[.slice none 0 0, .int .i64 0]⟩) ∧ RowKit.Below w.heap.size w w' := letI := noOps; calls_of_outcome envOk rfl rfl hNil_out w
theorem logNil (w : World) : Calls Tryz.prog 19 ⟨[.slice none 0 0]⟩ w fun e w' => e = .returned okAll ∧ RowKit.Below w.heap.size w w' := letI := noOps; calls_of_outcome envOk rfl rfl logNil_out w
theorem storeNil (w : World) : Calls Tryz.prog 21 ⟨[noStore]⟩ w fun e w' => e = .returned (.int .i64 0) ∧ RowKit.Below w.heap.size w w' := letI := noOps; calls_of_outcome envOk rfl rfl storeNil_out w
theorem settledNil (w : World) : Calls Tryz.prog 15 ⟨[noStore, .slice none 0 0]⟩ w fun e w' => e = .returned (.bool true) ∧ RowKit.Below w.heap.size w w' := letI := noOps; calls_of_outcome envOk rfl rfl settledNil_out w
theorem lastNil (w : World) : Calls Tryz.prog 11 ⟨[.slice none 0 0, .int .i64 1, .int .u64 5]⟩ w fun e w' => e = .returned (.int .u64 0) ∧ RowKit.Below w.heap.size w w' := letI := noOps; calls_of_outcome envOk rfl rfl lastNil_out w

theorem judgeZero {w : World} {k : Nat} {fz : Nat × Nat} (hk : w.heap[k]? = some (.cells ⟨zeroL⟩ 65 fz)) : Calls Tryz.prog 18 ⟨[.pointer (some ⟨k, 0, none⟩), noStore, .slice none 0 0]⟩ w fun e w' => e = .returned okAll ∧ RowKit.Below w.heap.size w w' :=
  letI := noOps
  calls_of_start envOk (HR.one _ hk rfl rfl) (fun g hg => absurd hg (Nat.not_lt_zero _))
    (.cons (VR.ptr (β := BM.set (fun _ => none) 0 ⟨k, 0, (⟨zeroL⟩ : Array Value).size, 0⟩) (b := 0) (o := 0) (i := ⟨k, 0, (⟨zeroL⟩ : Array Value).size, 0⟩) (BM.set_same _ _ _)) (LR.of_af rfl)) judgeZero_out
end Go.Abs
