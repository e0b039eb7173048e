/-
  Calls that were run once: the runs (printed by AbsGen, cut by split_memo.py).
-/
import Derived.Test.YtahpijfhoopilaaGreatDoorAccMD
set_option linter.unusedSectionVars false
set_option linter.unusedVariables false
set_option linter.unusedSimpArgs false
namespace Go.Abs
open Go
/-- commonplace/encode.text, 1071 steps -/
theorem m37_run : memoL (memoRunF (gEnv cons37) hints 58 1071 m37.pre m37.args []) = memoR m37.v m37.xs (memoRunF (gEnv cons37) hints 58 1071 m37.pre m37.args []) := by kernel_rfl
/-- commonplace/encode.text, 1071 steps -/
theorem m38_run : memoL (memoRunF (gEnv cons38) hints 58 1071 m38.pre m38.args []) = memoR m38.v m38.xs (memoRunF (gEnv cons38) hints 58 1071 m38.pre m38.args []) := by kernel_rfl
/-- strconv.FormatInt, 65 steps -/
theorem m39_run : memoL (memoRunF (gEnv cons39) hints 102 65 m39.pre m39.args []) = memoR m39.v m39.xs (memoRunF (gEnv cons39) hints 102 65 m39.pre m39.args []) := by kernel_rfl
/-- commonplace/encode.text, 174 steps -/
theorem m40_run : memoL (memoRunF (gEnv cons40) hints 58 174 m40.pre m40.args []) = memoR m40.v m40.xs (memoRunF (gEnv cons40) hints 58 174 m40.pre m40.args []) := by kernel_rfl
/-- commonplace/encode.text, 1071 steps -/
theorem m41_run : memoL (memoRunF (gEnv cons41) hints 58 1071 m41.pre m41.args []) = memoR m41.v m41.xs (memoRunF (gEnv cons41) hints 58 1071 m41.pre m41.args []) := by kernel_rfl
/-- strconv.FormatInt, 65 steps -/
theorem m42_run : memoL (memoRunF (gEnv cons42) hints 102 65 m42.pre m42.args []) = memoR m42.v m42.xs (memoRunF (gEnv cons42) hints 102 65 m42.pre m42.args []) := by kernel_rfl
/-- commonplace/encode.text, 174 steps -/
theorem m43_run : memoL (memoRunF (gEnv cons43) hints 58 174 m43.pre m43.args []) = memoR m43.v m43.xs (memoRunF (gEnv cons43) hints 58 174 m43.pre m43.args []) := by kernel_rfl
/-- commonplace/encode.text, 1071 steps -/
theorem m44_run : memoL (memoRunF (gEnv cons44) hints 58 1071 m44.pre m44.args []) = memoR m44.v m44.xs (memoRunF (gEnv cons44) hints 58 1071 m44.pre m44.args []) := by kernel_rfl
/-- commonplace/encode.text, 1258 steps -/
theorem m45_run : memoL (memoRunF (gEnv cons45) hints 58 1258 m45.pre m45.args []) = memoR m45.v m45.xs (memoRunF (gEnv cons45) hints 58 1258 m45.pre m45.args []) := by kernel_rfl
/-- commonplace/encode.text, 1071 steps -/
theorem m46_run : memoL (memoRunF (gEnv cons46) hints 58 1071 m46.pre m46.args []) = memoR m46.v m46.xs (memoRunF (gEnv cons46) hints 58 1071 m46.pre m46.args []) := by kernel_rfl
/-- commonplace/encode.Text, 30 steps -/
theorem m47_run : memoL (memoRunF (gEnv cons47) hints 24 30 m47.pre m47.args []) = memoR m47.v m47.xs (memoRunF (gEnv cons47) hints 24 30 m47.pre m47.args []) := by kernel_rfl
/-- commonplace/crc.table, 1938 steps -/
theorem m48_run : memoL (memoRunF (gEnv cons48) hints 201 1938 m48.pre m48.args []) = memoR m48.v m48.xs (memoRunF (gEnv cons48) hints 201 1938 m48.pre m48.args []) := by kernel_rfl
end Go.Abs
