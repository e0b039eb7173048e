/-
  Calls that were run once: the runs (printed by AbsGen, cut by split_memo.py).
-/
import Derived.Test.YtahpijfhoopilaaGreatDoorAccMD
set_option linter.unusedSectionVars false
set_option linter.unusedVariables false
set_option linter.unusedSimpArgs false
namespace Go.Abs
open Go
/-- commonplace/commonplacelaw21.AcceptNil, 7956 steps -/
theorem m136_run : memoL (memoRunF (gEnv cons136) hints 4 7956 m136.pre m136.args []) = memoR m136.v m136.xs (memoRunF (gEnv cons136) hints 4 7956 m136.pre m136.args []) := by kernel_rfl
end Go.Abs
