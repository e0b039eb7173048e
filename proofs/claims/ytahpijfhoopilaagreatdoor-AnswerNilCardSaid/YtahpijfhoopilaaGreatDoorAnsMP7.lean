/-
  Calls that were run once: the runs (printed by AbsGen, cut by split_memo.py).
-/
import Derived.Test.YtahpijfhoopilaaGreatDoorAnsMD
set_option linter.unusedSectionVars false
set_option linter.unusedVariables false
set_option linter.unusedSimpArgs false
namespace Go.Abs
open Go
/-- commonplace/value.May, 5104 steps -/
theorem m148_run : memoL (memoRunF (gEnv cons148) hints 57 5104 m148.pre m148.args []) = memoR m148.v m148.xs (memoRunF (gEnv cons148) hints 57 5104 m148.pre m148.args []) := by kernel_rfl
/-- commonplace/encode.text, 1071 steps -/
theorem m149_run : memoL (memoRunF (gEnv cons149) hints 58 1071 m149.pre m149.args []) = memoR m149.v m149.xs (memoRunF (gEnv cons149) hints 58 1071 m149.pre m149.args []) := by kernel_rfl
/-- commonplace/encode.text, 1071 steps -/
theorem m150_run : memoL (memoRunF (gEnv cons150) hints 58 1071 m150.pre m150.args []) = memoR m150.v m150.xs (memoRunF (gEnv cons150) hints 58 1071 m150.pre m150.args []) := by kernel_rfl
/-- commonplace/encode.text, 1071 steps -/
theorem m151_run : memoL (memoRunF (gEnv cons151) hints 58 1071 m151.pre m151.args []) = memoR m151.v m151.xs (memoRunF (gEnv cons151) hints 58 1071 m151.pre m151.args []) := by kernel_rfl
/-- commonplace/encode.text, 1071 steps -/
theorem m152_run : memoL (memoRunF (gEnv cons152) hints 58 1071 m152.pre m152.args []) = memoR m152.v m152.xs (memoRunF (gEnv cons152) hints 58 1071 m152.pre m152.args []) := by kernel_rfl
/-- commonplace/encode.text, 1071 steps -/
theorem m153_run : memoL (memoRunF (gEnv cons153) hints 58 1071 m153.pre m153.args []) = memoR m153.v m153.xs (memoRunF (gEnv cons153) hints 58 1071 m153.pre m153.args []) := by kernel_rfl
/-- commonplace/encode.text, 1071 steps -/
theorem m154_run : memoL (memoRunF (gEnv cons154) hints 58 1071 m154.pre m154.args []) = memoR m154.v m154.xs (memoRunF (gEnv cons154) hints 58 1071 m154.pre m154.args []) := by kernel_rfl
/-- commonplace/encode.text, 1258 steps -/
theorem m155_run : memoL (memoRunF (gEnv cons155) hints 58 1258 m155.pre m155.args []) = memoR m155.v m155.xs (memoRunF (gEnv cons155) hints 58 1258 m155.pre m155.args []) := by kernel_rfl
/-- commonplace/encode.text, 1071 steps -/
theorem m156_run : memoL (memoRunF (gEnv cons156) hints 58 1071 m156.pre m156.args []) = memoR m156.v m156.xs (memoRunF (gEnv cons156) hints 58 1071 m156.pre m156.args []) := by kernel_rfl
/-- commonplace/encode.Text, 30 steps -/
theorem m157_run : memoL (memoRunF (gEnv cons157) hints 24 30 m157.pre m157.args []) = memoR m157.v m157.xs (memoRunF (gEnv cons157) hints 24 30 m157.pre m157.args []) := by kernel_rfl
/-- commonplace/parse.Exact, 58 steps -/
theorem m158_run : memoL (memoRunF (gEnv cons158) hints 63 58 m158.pre m158.args [1, 2, 3, 4, 5, 6, 7, 8, 9, 10, 11]) = memoR m158.v m158.xs (memoRunF (gEnv cons158) hints 63 58 m158.pre m158.args [1, 2, 3, 4, 5, 6, 7, 8, 9, 10, 11]) := by kernel_rfl
/-- commonplace/value.May, 1034 steps -/
theorem m159_run : memoL (memoRunF (gEnv cons159) hints 57 1034 m159.pre m159.args []) = memoR m159.v m159.xs (memoRunF (gEnv cons159) hints 57 1034 m159.pre m159.args []) := by kernel_rfl
/-- commonplace/mutator.Of, 1384 steps -/
theorem m160_run : memoL (memoRunF (gEnv cons160) hints 110 1384 m160.pre m160.args []) = memoR m160.v m160.xs (memoRunF (gEnv cons160) hints 110 1384 m160.pre m160.args []) := by kernel_rfl
/-- commonplace/value.May, 1034 steps -/
theorem m161_run : memoL (memoRunF (gEnv cons161) hints 57 1034 m161.pre m161.args []) = memoR m161.v m161.xs (memoRunF (gEnv cons161) hints 57 1034 m161.pre m161.args []) := by kernel_rfl
/-- commonplace/mutator.Of, 1384 steps -/
theorem m162_run : memoL (memoRunF (gEnv cons162) hints 110 1384 m162.pre m162.args []) = memoR m162.v m162.xs (memoRunF (gEnv cons162) hints 110 1384 m162.pre m162.args []) := by kernel_rfl
/-- commonplace/value.May, 1034 steps -/
theorem m163_run : memoL (memoRunF (gEnv cons163) hints 57 1034 m163.pre m163.args []) = memoR m163.v m163.xs (memoRunF (gEnv cons163) hints 57 1034 m163.pre m163.args []) := by kernel_rfl
/-- commonplace/mutator.Of, 1384 steps -/
theorem m164_run : memoL (memoRunF (gEnv cons164) hints 110 1384 m164.pre m164.args []) = memoR m164.v m164.xs (memoRunF (gEnv cons164) hints 110 1384 m164.pre m164.args []) := by kernel_rfl
end Go.Abs
