/-
  Calls that were run once: the runs (printed by AbsGen, cut by split_memo.py).
-/
import Derived.Test.YtahpijfhoopilaaGreatDoorAnsMD
set_option linter.unusedSectionVars false
set_option linter.unusedVariables false
set_option linter.unusedSimpArgs false
namespace Go.Abs
open Go
/-- commonplace/commonplacelaw22.AnswerNil, 11079 steps -/
theorem m178_run : memoL (memoRunF (gEnv cons178) hints 5 11079 m178.pre m178.args []) = memoR m178.v m178.xs (memoRunF (gEnv cons178) hints 5 11079 m178.pre m178.args []) := by kernel_rfl
end Go.Abs
