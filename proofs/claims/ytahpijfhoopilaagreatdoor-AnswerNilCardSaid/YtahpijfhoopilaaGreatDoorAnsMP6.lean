/-
  Calls that were run once: the runs (printed by AbsGen, cut by split_memo.py).
-/
import Derived.Test.YtahpijfhoopilaaGreatDoorAnsMD
set_option linter.unusedSectionVars false
set_option linter.unusedVariables false
set_option linter.unusedSimpArgs false
namespace Go.Abs
open Go
/-- commonplace/parse.Parse, 17084 steps -/
theorem m147_run : memoL (memoRunF (gEnv cons147) hints 108 17084 m147.pre m147.args [216, 217, 218, 219, 220, 221, 222, 223, 224, 225, 226]) = memoR m147.v m147.xs (memoRunF (gEnv cons147) hints 108 17084 m147.pre m147.args [216, 217, 218, 219, 220, 221, 222, 223, 224, 225, 226]) := by kernel_rfl
end Go.Abs
