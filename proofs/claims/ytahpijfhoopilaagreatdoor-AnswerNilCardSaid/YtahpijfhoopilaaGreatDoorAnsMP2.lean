/-
  Calls that were run once: the runs (printed by AbsGen, cut by split_memo.py).
-/
import Derived.Test.YtahpijfhoopilaaGreatDoorAnsMD
set_option linter.unusedSectionVars false
set_option linter.unusedVariables false
set_option linter.unusedSimpArgs false
namespace Go.Abs
open Go
/-- commonplace/crc.Sum, 17678 steps -/
theorem m65_run : memoL (memoRunF (gEnv cons65) hints 105 17678 m65.pre m65.args []) = memoR m65.v m65.xs (memoRunF (gEnv cons65) hints 105 17678 m65.pre m65.args []) := by kernel_rfl
/-- commonplace/crc.Seal, 53 steps -/
theorem m66_run : memoL (memoRunF (gEnv cons66) hints 60 53 m66.pre m66.args [4]) = memoR m66.v m66.xs (memoRunF (gEnv cons66) hints 60 53 m66.pre m66.args [4]) := by kernel_rfl
/-- commonplace/frame.Frame, 49 steps -/
theorem m67_run : memoL (memoRunF (gEnv cons67) hints 27 49 m67.pre m67.args [4]) = memoR m67.v m67.xs (memoRunF (gEnv cons67) hints 27 49 m67.pre m67.args [4]) := by kernel_rfl
/-- commonplace/push.Encode, 708 steps -/
theorem m68_run : memoL (memoRunF (gEnv cons68) hints 7 708 m68.pre m68.args [52]) = memoR m68.v m68.xs (memoRunF (gEnv cons68) hints 7 708 m68.pre m68.args [52]) := by kernel_rfl
end Go.Abs
