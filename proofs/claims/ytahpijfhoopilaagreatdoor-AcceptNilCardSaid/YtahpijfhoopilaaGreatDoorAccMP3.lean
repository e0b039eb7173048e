/-
  Calls that were run once: the runs (printed by AbsGen, cut by split_memo.py).
-/
import Derived.Test.YtahpijfhoopilaaGreatDoorAccMD
set_option linter.unusedSectionVars false
set_option linter.unusedVariables false
set_option linter.unusedSimpArgs false
namespace Go.Abs
open Go
/-- commonplace/crc.Sum, 17678 steps -/
theorem m53_run : memoL (memoRunF (gEnv cons53) hints 105 17678 m53.pre m53.args []) = memoR m53.v m53.xs (memoRunF (gEnv cons53) hints 105 17678 m53.pre m53.args []) := by kernel_rfl
/-- commonplace/crc.Seal, 53 steps -/
theorem m54_run : memoL (memoRunF (gEnv cons54) hints 60 53 m54.pre m54.args [4]) = memoR m54.v m54.xs (memoRunF (gEnv cons54) hints 60 53 m54.pre m54.args [4]) := by kernel_rfl
end Go.Abs
