/-
  Calls that were run once: the runs (printed by AbsGen, cut by split_memo.py).
-/
import Derived.Test.YtahpijfhoopilaaGreatDoorAnsMD
set_option linter.unusedSectionVars false
set_option linter.unusedVariables false
set_option linter.unusedSimpArgs false
namespace Go.Abs
open Go
/-- commonplace/crc.Sum, 17678 steps -/
theorem m69_run : memoL (memoRunF (gEnv cons69) hints 105 17678 m69.pre m69.args []) = memoR m69.v m69.xs (memoRunF (gEnv cons69) hints 105 17678 m69.pre m69.args []) := by kernel_rfl
/-- commonplace/crc.Seal, 53 steps -/
theorem m70_run : memoL (memoRunF (gEnv cons70) hints 60 53 m70.pre m70.args [4]) = memoR m70.v m70.xs (memoRunF (gEnv cons70) hints 60 53 m70.pre m70.args [4]) := by kernel_rfl
end Go.Abs
