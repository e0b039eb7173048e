/-
  Calls that were run once: the runs (printed by AbsGen, cut by split_memo.py).
-/
import Derived.Test.YtahpijfhoopilaaGreatDoorAccMD
set_option linter.unusedSectionVars false
set_option linter.unusedVariables false
set_option linter.unusedSimpArgs false
namespace Go.Abs
open Go
/-- commonplace/value.May, 5104 steps -/
theorem m123_run : memoL (memoRunF (gEnv cons123) hints 57 5104 m123.pre m123.args []) = memoR m123.v m123.xs (memoRunF (gEnv cons123) hints 57 5104 m123.pre m123.args []) := by kernel_rfl
/-- commonplace/encode.text, 1071 steps -/
theorem m124_run : memoL (memoRunF (gEnv cons124) hints 58 1071 m124.pre m124.args []) = memoR m124.v m124.xs (memoRunF (gEnv cons124) hints 58 1071 m124.pre m124.args []) := by kernel_rfl
/-- commonplace/encode.text, 1071 steps -/
theorem m125_run : memoL (memoRunF (gEnv cons125) hints 58 1071 m125.pre m125.args []) = memoR m125.v m125.xs (memoRunF (gEnv cons125) hints 58 1071 m125.pre m125.args []) := by kernel_rfl
/-- commonplace/encode.text, 1071 steps -/
theorem m126_run : memoL (memoRunF (gEnv cons126) hints 58 1071 m126.pre m126.args []) = memoR m126.v m126.xs (memoRunF (gEnv cons126) hints 58 1071 m126.pre m126.args []) := by kernel_rfl
/-- commonplace/encode.text, 1071 steps -/
theorem m127_run : memoL (memoRunF (gEnv cons127) hints 58 1071 m127.pre m127.args []) = memoR m127.v m127.xs (memoRunF (gEnv cons127) hints 58 1071 m127.pre m127.args []) := by kernel_rfl
/-- commonplace/encode.text, 1258 steps -/
theorem m128_run : memoL (memoRunF (gEnv cons128) hints 58 1258 m128.pre m128.args []) = memoR m128.v m128.xs (memoRunF (gEnv cons128) hints 58 1258 m128.pre m128.args []) := by kernel_rfl
/-- commonplace/encode.text, 1071 steps -/
theorem m129_run : memoL (memoRunF (gEnv cons129) hints 58 1071 m129.pre m129.args []) = memoR m129.v m129.xs (memoRunF (gEnv cons129) hints 58 1071 m129.pre m129.args []) := by kernel_rfl
/-- commonplace/encode.Text, 30 steps -/
theorem m130_run : memoL (memoRunF (gEnv cons130) hints 24 30 m130.pre m130.args []) = memoR m130.v m130.xs (memoRunF (gEnv cons130) hints 24 30 m130.pre m130.args []) := by kernel_rfl
/-- commonplace/parse.Exact, 58 steps -/
theorem m131_run : memoL (memoRunF (gEnv cons131) hints 63 58 m131.pre m131.args [1, 2, 3, 4, 5, 6, 7, 8, 9, 10, 11]) = memoR m131.v m131.xs (memoRunF (gEnv cons131) hints 63 58 m131.pre m131.args [1, 2, 3, 4, 5, 6, 7, 8, 9, 10, 11]) := by kernel_rfl
/-- commonplace/value.May, 1034 steps -/
theorem m132_run : memoL (memoRunF (gEnv cons132) hints 57 1034 m132.pre m132.args []) = memoR m132.v m132.xs (memoRunF (gEnv cons132) hints 57 1034 m132.pre m132.args []) := by kernel_rfl
/-- commonplace/mutator.Of, 1384 steps -/
theorem m133_run : memoL (memoRunF (gEnv cons133) hints 110 1384 m133.pre m133.args []) = memoR m133.v m133.xs (memoRunF (gEnv cons133) hints 110 1384 m133.pre m133.args []) := by kernel_rfl
/-- commonplace/push.Decode, 2234 steps -/
theorem m134_run : memoL (memoRunF (gEnv cons134) hints 31 2234 m134.pre m134.args [115]) = memoR m134.v m134.xs (memoRunF (gEnv cons134) hints 31 2234 m134.pre m134.args [115]) := by kernel_rfl
/-- commonplace/value.Copy, 98 steps -/
theorem m135_run : memoL (memoRunF (gEnv cons135) hints 74 98 m135.pre m135.args []) = memoR m135.v m135.xs (memoRunF (gEnv cons135) hints 74 98 m135.pre m135.args []) := by kernel_rfl
end Go.Abs
