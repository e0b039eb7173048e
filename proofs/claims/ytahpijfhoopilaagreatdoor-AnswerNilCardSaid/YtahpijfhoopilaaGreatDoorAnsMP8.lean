/-
  Calls that were run once: the runs (printed by AbsGen, cut by split_memo.py).
-/
import Derived.Test.YtahpijfhoopilaaGreatDoorAnsMD
set_option linter.unusedSectionVars false
set_option linter.unusedVariables false
set_option linter.unusedSimpArgs false
namespace Go.Abs
open Go
/-- commonplace/push.Decode, 2234 steps -/
theorem m165_run : memoL (memoRunF (gEnv cons165) hints 31 2234 m165.pre m165.args [115]) = memoR m165.v m165.xs (memoRunF (gEnv cons165) hints 31 2234 m165.pre m165.args [115]) := by kernel_rfl
/-- commonplace/interp.Run, 1563 steps -/
theorem m166_run : memoL (memoRunF (gEnv cons166) hints 69 1563 m166.pre m166.args [50, 49]) = memoR m166.v m166.xs (memoRunF (gEnv cons166) hints 69 1563 m166.pre m166.args [50, 49]) := by kernel_rfl
/-- commonplace/value.Copy, 98 steps -/
theorem m167_run : memoL (memoRunF (gEnv cons167) hints 74 98 m167.pre m167.args []) = memoR m167.v m167.xs (memoRunF (gEnv cons167) hints 74 98 m167.pre m167.args []) := by kernel_rfl
/-- commonplace/mutator.Copy, 71 steps -/
theorem m168_run : memoL (memoRunF (gEnv cons168) hints 40 71 m168.pre m168.args []) = memoR m168.v m168.xs (memoRunF (gEnv cons168) hints 40 71 m168.pre m168.args []) := by kernel_rfl
/-- commonplace/interp.Run, 1934 steps -/
theorem m169_run : memoL (memoRunF (gEnv cons169) hints 69 1934 m169.pre m169.args [65, 64]) = memoR m169.v m169.xs (memoRunF (gEnv cons169) hints 69 1934 m169.pre m169.args [65, 64]) := by kernel_rfl
/-- commonplace/mutator.Copy, 71 steps -/
theorem m170_run : memoL (memoRunF (gEnv cons170) hints 40 71 m170.pre m170.args []) = memoR m170.v m170.xs (memoRunF (gEnv cons170) hints 40 71 m170.pre m170.args []) := by kernel_rfl
/-- commonplace/interp.Run, 2099 steps -/
theorem m171_run : memoL (memoRunF (gEnv cons171) hints 69 2099 m171.pre m171.args [76, 75]) = memoR m171.v m171.xs (memoRunF (gEnv cons171) hints 69 2099 m171.pre m171.args [76, 75]) := by kernel_rfl
/-- commonplace/mutator.Copy, 71 steps -/
theorem m172_run : memoL (memoRunF (gEnv cons172) hints 40 71 m172.pre m172.args []) = memoR m172.v m172.xs (memoRunF (gEnv cons172) hints 40 71 m172.pre m172.args []) := by kernel_rfl
/-- commonplace/diff.Diff, 14 steps -/
theorem m173_run : memoL (memoRunF (gEnv cons173) hints 79 14 m173.pre m173.args [4, 5]) = memoR m173.v m173.xs (memoRunF (gEnv cons173) hints 79 14 m173.pre m173.args [4, 5]) := by kernel_rfl
/-- commonplace/diff.Diff, 14 steps -/
theorem m174_run : memoL (memoRunF (gEnv cons174) hints 79 14 m174.pre m174.args [2, 3]) = memoR m174.v m174.xs (memoRunF (gEnv cons174) hints 79 14 m174.pre m174.args [2, 3]) := by kernel_rfl
/-- commonplace/patch.From, 2385 steps -/
theorem m175_run : memoL (memoRunF (gEnv cons175) hints 46 2385 m175.pre m175.args [53]) = memoR m175.v m175.xs (memoRunF (gEnv cons175) hints 46 2385 m175.pre m175.args [53]) := by kernel_rfl
/-- commonplace/commonplaceref22.Same, 212 steps -/
theorem m176_run : memoL (memoRunF (gEnv cons176) hints 52 212 m176.pre m176.args []) = memoR m176.v m176.xs (memoRunF (gEnv cons176) hints 52 212 m176.pre m176.args []) := by kernel_rfl
/-- commonplace/commonplaceref22.Same, 534 steps -/
theorem m177_run : memoL (memoRunF (gEnv cons177) hints 52 534 m177.pre m177.args []) = memoR m177.v m177.xs (memoRunF (gEnv cons177) hints 52 534 m177.pre m177.args []) := by kernel_rfl
end Go.Abs
