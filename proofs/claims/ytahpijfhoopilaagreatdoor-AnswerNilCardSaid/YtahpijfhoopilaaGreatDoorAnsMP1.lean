/-
  Calls that were run once: the runs (printed by AbsGen, cut by split_memo.py).
-/
import Derived.Test.YtahpijfhoopilaaGreatDoorAnsMD
set_option linter.unusedSectionVars false
set_option linter.unusedVariables false
set_option linter.unusedSimpArgs false
namespace Go.Abs
open Go
/-- commonplace/encode.text, 1071 steps -/
theorem m41_run : memoL (memoRunF (gEnv cons41) hints 58 1071 m41.pre m41.args []) = memoR m41.v m41.xs (memoRunF (gEnv cons41) hints 58 1071 m41.pre m41.args []) := by kernel_rfl
/-- commonplace/utf.Quote, 1045 steps -/
theorem m42_run : memoL (memoRunF (gEnv cons42) hints 103 1045 m42.pre m42.args []) = memoR m42.v m42.xs (memoRunF (gEnv cons42) hints 103 1045 m42.pre m42.args []) := by kernel_rfl
/-- commonplace/utf.Quote, 840 steps -/
theorem m43_run : memoL (memoRunF (gEnv cons43) hints 103 840 m43.pre m43.args []) = memoR m43.v m43.xs (memoRunF (gEnv cons43) hints 103 840 m43.pre m43.args []) := by kernel_rfl
/-- commonplace/encode.text, 189 steps -/
theorem m44_run : memoL (memoRunF (gEnv cons44) hints 58 189 m44.pre m44.args []) = memoR m44.v m44.xs (memoRunF (gEnv cons44) hints 58 189 m44.pre m44.args []) := by kernel_rfl
/-- commonplace/encode.text, 1071 steps -/
theorem m45_run : memoL (memoRunF (gEnv cons45) hints 58 1071 m45.pre m45.args []) = memoR m45.v m45.xs (memoRunF (gEnv cons45) hints 58 1071 m45.pre m45.args []) := by kernel_rfl
/-- commonplace/encode.text, 1071 steps -/
theorem m46_run : memoL (memoRunF (gEnv cons46) hints 58 1071 m46.pre m46.args []) = memoR m46.v m46.xs (memoRunF (gEnv cons46) hints 58 1071 m46.pre m46.args []) := by kernel_rfl
/-- strconv.FormatInt, 65 steps -/
theorem m47_run : memoL (memoRunF (gEnv cons47) hints 102 65 m47.pre m47.args []) = memoR m47.v m47.xs (memoRunF (gEnv cons47) hints 102 65 m47.pre m47.args []) := by kernel_rfl
/-- commonplace/encode.text, 174 steps -/
theorem m48_run : memoL (memoRunF (gEnv cons48) hints 58 174 m48.pre m48.args []) = memoR m48.v m48.xs (memoRunF (gEnv cons48) hints 58 174 m48.pre m48.args []) := by kernel_rfl
/-- commonplace/utf.Quote, 430 steps -/
theorem m49_run : memoL (memoRunF (gEnv cons49) hints 103 430 m49.pre m49.args []) = memoR m49.v m49.xs (memoRunF (gEnv cons49) hints 103 430 m49.pre m49.args []) := by kernel_rfl
/-- commonplace/encode.text, 189 steps -/
theorem m50_run : memoL (memoRunF (gEnv cons50) hints 58 189 m50.pre m50.args []) = memoR m50.v m50.xs (memoRunF (gEnv cons50) hints 58 189 m50.pre m50.args []) := by kernel_rfl
/-- commonplace/encode.text, 1071 steps -/
theorem m51_run : memoL (memoRunF (gEnv cons51) hints 58 1071 m51.pre m51.args []) = memoR m51.v m51.xs (memoRunF (gEnv cons51) hints 58 1071 m51.pre m51.args []) := by kernel_rfl
/-- commonplace/encode.text, 1071 steps -/
theorem m52_run : memoL (memoRunF (gEnv cons52) hints 58 1071 m52.pre m52.args []) = memoR m52.v m52.xs (memoRunF (gEnv cons52) hints 58 1071 m52.pre m52.args []) := by kernel_rfl
/-- commonplace/encode.text, 1071 steps -/
theorem m53_run : memoL (memoRunF (gEnv cons53) hints 58 1071 m53.pre m53.args []) = memoR m53.v m53.xs (memoRunF (gEnv cons53) hints 58 1071 m53.pre m53.args []) := by kernel_rfl
/-- strconv.FormatInt, 65 steps -/
theorem m54_run : memoL (memoRunF (gEnv cons54) hints 102 65 m54.pre m54.args []) = memoR m54.v m54.xs (memoRunF (gEnv cons54) hints 102 65 m54.pre m54.args []) := by kernel_rfl
/-- commonplace/encode.text, 174 steps -/
theorem m55_run : memoL (memoRunF (gEnv cons55) hints 58 174 m55.pre m55.args []) = memoR m55.v m55.xs (memoRunF (gEnv cons55) hints 58 174 m55.pre m55.args []) := by kernel_rfl
/-- commonplace/utf.Quote, 430 steps -/
theorem m56_run : memoL (memoRunF (gEnv cons56) hints 103 430 m56.pre m56.args []) = memoR m56.v m56.xs (memoRunF (gEnv cons56) hints 103 430 m56.pre m56.args []) := by kernel_rfl
/-- commonplace/encode.text, 189 steps -/
theorem m57_run : memoL (memoRunF (gEnv cons57) hints 58 189 m57.pre m57.args []) = memoR m57.v m57.xs (memoRunF (gEnv cons57) hints 58 189 m57.pre m57.args []) := by kernel_rfl
/-- commonplace/encode.text, 1071 steps -/
theorem m58_run : memoL (memoRunF (gEnv cons58) hints 58 1071 m58.pre m58.args []) = memoR m58.v m58.xs (memoRunF (gEnv cons58) hints 58 1071 m58.pre m58.args []) := by kernel_rfl
/-- commonplace/encode.text, 1071 steps -/
theorem m59_run : memoL (memoRunF (gEnv cons59) hints 58 1071 m59.pre m59.args []) = memoR m59.v m59.xs (memoRunF (gEnv cons59) hints 58 1071 m59.pre m59.args []) := by kernel_rfl
/-- commonplace/encode.text, 1071 steps -/
theorem m60_run : memoL (memoRunF (gEnv cons60) hints 58 1071 m60.pre m60.args []) = memoR m60.v m60.xs (memoRunF (gEnv cons60) hints 58 1071 m60.pre m60.args []) := by kernel_rfl
/-- commonplace/encode.text, 1258 steps -/
theorem m61_run : memoL (memoRunF (gEnv cons61) hints 58 1258 m61.pre m61.args []) = memoR m61.v m61.xs (memoRunF (gEnv cons61) hints 58 1258 m61.pre m61.args []) := by kernel_rfl
/-- commonplace/encode.text, 1071 steps -/
theorem m62_run : memoL (memoRunF (gEnv cons62) hints 58 1071 m62.pre m62.args []) = memoR m62.v m62.xs (memoRunF (gEnv cons62) hints 58 1071 m62.pre m62.args []) := by kernel_rfl
/-- commonplace/encode.Text, 30 steps -/
theorem m63_run : memoL (memoRunF (gEnv cons63) hints 24 30 m63.pre m63.args []) = memoR m63.v m63.xs (memoRunF (gEnv cons63) hints 24 30 m63.pre m63.args []) := by kernel_rfl
/-- commonplace/crc.table, 1938 steps -/
theorem m64_run : memoL (memoRunF (gEnv cons64) hints 201 1938 m64.pre m64.args []) = memoR m64.v m64.xs (memoRunF (gEnv cons64) hints 201 1938 m64.pre m64.args []) := by kernel_rfl
end Go.Abs
