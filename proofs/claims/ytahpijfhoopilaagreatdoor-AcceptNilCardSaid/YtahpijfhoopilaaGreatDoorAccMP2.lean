/-
  Calls that were run once: the runs (printed by AbsGen, cut by split_memo.py).
-/
import Derived.Test.YtahpijfhoopilaaGreatDoorAccMD
set_option linter.unusedSectionVars false
set_option linter.unusedVariables false
set_option linter.unusedSimpArgs false
namespace Go.Abs
open Go
/-- commonplace/crc.Sum, 17678 steps -/
theorem m49_run : memoL (memoRunF (gEnv cons49) hints 105 17678 m49.pre m49.args []) = memoR m49.v m49.xs (memoRunF (gEnv cons49) hints 105 17678 m49.pre m49.args []) := by kernel_rfl
/-- commonplace/crc.Seal, 53 steps -/
theorem m50_run : memoL (memoRunF (gEnv cons50) hints 60 53 m50.pre m50.args [4]) = memoR m50.v m50.xs (memoRunF (gEnv cons50) hints 60 53 m50.pre m50.args [4]) := by kernel_rfl
/-- commonplace/frame.Frame, 49 steps -/
theorem m51_run : memoL (memoRunF (gEnv cons51) hints 27 49 m51.pre m51.args [4]) = memoR m51.v m51.xs (memoRunF (gEnv cons51) hints 27 49 m51.pre m51.args [4]) := by kernel_rfl
/-- commonplace/push.Encode, 708 steps -/
theorem m52_run : memoL (memoRunF (gEnv cons52) hints 7 708 m52.pre m52.args [52]) = memoR m52.v m52.xs (memoRunF (gEnv cons52) hints 7 708 m52.pre m52.args [52]) := by kernel_rfl
end Go.Abs
