/-
  Calls that were run once: the runs (printed by AbsGen, cut by split_memo.py).
-/
import Derived.Test.YtahpijfhoopilaaGreatDoorAccMD
set_option linter.unusedSectionVars false
set_option linter.unusedVariables false
set_option linter.unusedSimpArgs false
namespace Go.Abs
open Go
/-- commonplace/utf.Unquote, 1495 steps -/
theorem m91_run : memoL (memoRunF (gEnv cons91) hints 317 1495 m91.pre m91.args []) = memoR m91.v m91.xs (memoRunF (gEnv cons91) hints 317 1495 m91.pre m91.args []) := by kernel_rfl
/-- commonplace/utf.Unquote, 907 steps -/
theorem m92_run : memoL (memoRunF (gEnv cons92) hints 317 907 m92.pre m92.args []) = memoR m92.v m92.xs (memoRunF (gEnv cons92) hints 317 907 m92.pre m92.args []) := by kernel_rfl
/-- commonplace/utf.Unquote, 711 steps -/
theorem m93_run : memoL (memoRunF (gEnv cons93) hints 317 711 m93.pre m93.args []) = memoR m93.v m93.xs (memoRunF (gEnv cons93) hints 317 711 m93.pre m93.args []) := by kernel_rfl
/-- commonplace/utf.Unquote, 319 steps -/
theorem m94_run : memoL (memoRunF (gEnv cons94) hints 317 319 m94.pre m94.args []) = memoR m94.v m94.xs (memoRunF (gEnv cons94) hints 317 319 m94.pre m94.args []) := by kernel_rfl
/-- commonplace/utf.Unquote, 1103 steps -/
theorem m95_run : memoL (memoRunF (gEnv cons95) hints 317 1103 m95.pre m95.args []) = memoR m95.v m95.xs (memoRunF (gEnv cons95) hints 317 1103 m95.pre m95.args []) := by kernel_rfl
/-- commonplace/utf.Unquote, 907 steps -/
theorem m96_run : memoL (memoRunF (gEnv cons96) hints 317 907 m96.pre m96.args []) = memoR m96.v m96.xs (memoRunF (gEnv cons96) hints 317 907 m96.pre m96.args []) := by kernel_rfl
/-- commonplace/utf.Unquote, 711 steps -/
theorem m97_run : memoL (memoRunF (gEnv cons97) hints 317 711 m97.pre m97.args []) = memoR m97.v m97.xs (memoRunF (gEnv cons97) hints 317 711 m97.pre m97.args []) := by kernel_rfl
/-- commonplace/value.Copy, 98 steps -/
theorem m98_run : memoL (memoRunF (gEnv cons98) hints 74 98 m98.pre m98.args []) = memoR m98.v m98.xs (memoRunF (gEnv cons98) hints 74 98 m98.pre m98.args []) := by kernel_rfl
/-- commonplace/value.Copy, 176 steps -/
theorem m99_run : memoL (memoRunF (gEnv cons99) hints 74 176 m99.pre m99.args [6, 7, 8]) = memoR m99.v m99.xs (memoRunF (gEnv cons99) hints 74 176 m99.pre m99.args [6, 7, 8]) := by kernel_rfl
/-- commonplace/value.Object, 297 steps -/
theorem m100_run : memoL (memoRunF (gEnv cons100) hints 127 297 m100.pre m100.args [4, 5, 6]) = memoR m100.v m100.xs (memoRunF (gEnv cons100) hints 127 297 m100.pre m100.args [4, 5, 6]) := by kernel_rfl
/-- commonplace/utf.Unquote, 515 steps -/
theorem m101_run : memoL (memoRunF (gEnv cons101) hints 317 515 m101.pre m101.args []) = memoR m101.v m101.xs (memoRunF (gEnv cons101) hints 317 515 m101.pre m101.args []) := by kernel_rfl
/-- strings.IndexByte, 27 steps -/
theorem m102_run : memoL (memoRunF (gEnv cons102) hints 210 27 m102.pre m102.args []) = memoR m102.v m102.xs (memoRunF (gEnv cons102) hints 210 27 m102.pre m102.args []) := by kernel_rfl
/-- strconv.ParseInt, 400 steps -/
theorem m103_run : memoL (memoRunF (gEnv cons103) hints 271 400 m103.pre m103.args []) = memoR m103.v m103.xs (memoRunF (gEnv cons103) hints 271 400 m103.pre m103.args []) := by kernel_rfl
/-- commonplace/utf.Unquote, 1495 steps -/
theorem m104_run : memoL (memoRunF (gEnv cons104) hints 317 1495 m104.pre m104.args []) = memoR m104.v m104.xs (memoRunF (gEnv cons104) hints 317 1495 m104.pre m104.args []) := by kernel_rfl
/-- commonplace/utf.Unquote, 907 steps -/
theorem m105_run : memoL (memoRunF (gEnv cons105) hints 317 907 m105.pre m105.args []) = memoR m105.v m105.xs (memoRunF (gEnv cons105) hints 317 907 m105.pre m105.args []) := by kernel_rfl
/-- commonplace/utf.Unquote, 711 steps -/
theorem m106_run : memoL (memoRunF (gEnv cons106) hints 317 711 m106.pre m106.args []) = memoR m106.v m106.xs (memoRunF (gEnv cons106) hints 317 711 m106.pre m106.args []) := by kernel_rfl
/-- commonplace/utf.Unquote, 319 steps -/
theorem m107_run : memoL (memoRunF (gEnv cons107) hints 317 319 m107.pre m107.args []) = memoR m107.v m107.xs (memoRunF (gEnv cons107) hints 317 319 m107.pre m107.args []) := by kernel_rfl
/-- commonplace/utf.Unquote, 1103 steps -/
theorem m108_run : memoL (memoRunF (gEnv cons108) hints 317 1103 m108.pre m108.args []) = memoR m108.v m108.xs (memoRunF (gEnv cons108) hints 317 1103 m108.pre m108.args []) := by kernel_rfl
/-- commonplace/utf.Unquote, 907 steps -/
theorem m109_run : memoL (memoRunF (gEnv cons109) hints 317 907 m109.pre m109.args []) = memoR m109.v m109.xs (memoRunF (gEnv cons109) hints 317 907 m109.pre m109.args []) := by kernel_rfl
/-- commonplace/utf.Unquote, 711 steps -/
theorem m110_run : memoL (memoRunF (gEnv cons110) hints 317 711 m110.pre m110.args []) = memoR m110.v m110.xs (memoRunF (gEnv cons110) hints 317 711 m110.pre m110.args []) := by kernel_rfl
/-- commonplace/value.Copy, 98 steps -/
theorem m111_run : memoL (memoRunF (gEnv cons111) hints 74 98 m111.pre m111.args []) = memoR m111.v m111.xs (memoRunF (gEnv cons111) hints 74 98 m111.pre m111.args []) := by kernel_rfl
/-- commonplace/value.Copy, 176 steps -/
theorem m112_run : memoL (memoRunF (gEnv cons112) hints 74 176 m112.pre m112.args [6, 7, 8]) = memoR m112.v m112.xs (memoRunF (gEnv cons112) hints 74 176 m112.pre m112.args [6, 7, 8]) := by kernel_rfl
/-- commonplace/value.Object, 297 steps -/
theorem m113_run : memoL (memoRunF (gEnv cons113) hints 127 297 m113.pre m113.args [4, 5, 6]) = memoR m113.v m113.xs (memoRunF (gEnv cons113) hints 127 297 m113.pre m113.args [4, 5, 6]) := by kernel_rfl
/-- strings.IndexByte, 27 steps -/
theorem m114_run : memoL (memoRunF (gEnv cons114) hints 210 27 m114.pre m114.args []) = memoR m114.v m114.xs (memoRunF (gEnv cons114) hints 210 27 m114.pre m114.args []) := by kernel_rfl
/-- commonplace/value.Copy, 98 steps -/
theorem m115_run : memoL (memoRunF (gEnv cons115) hints 74 98 m115.pre m115.args []) = memoR m115.v m115.xs (memoRunF (gEnv cons115) hints 74 98 m115.pre m115.args []) := by kernel_rfl
/-- commonplace/value.Copy, 176 steps -/
theorem m116_run : memoL (memoRunF (gEnv cons116) hints 74 176 m116.pre m116.args [6, 7, 8]) = memoR m116.v m116.xs (memoRunF (gEnv cons116) hints 74 176 m116.pre m116.args [6, 7, 8]) := by kernel_rfl
/-- commonplace/value.Copy, 176 steps -/
theorem m117_run : memoL (memoRunF (gEnv cons117) hints 74 176 m117.pre m117.args [6, 7, 8]) = memoR m117.v m117.xs (memoRunF (gEnv cons117) hints 74 176 m117.pre m117.args [6, 7, 8]) := by kernel_rfl
/-- commonplace/value.Copy, 176 steps -/
theorem m118_run : memoL (memoRunF (gEnv cons118) hints 74 176 m118.pre m118.args [6, 7, 8]) = memoR m118.v m118.xs (memoRunF (gEnv cons118) hints 74 176 m118.pre m118.args [6, 7, 8]) := by kernel_rfl
/-- commonplace/value.Copy, 207 steps -/
theorem m119_run : memoL (memoRunF (gEnv cons119) hints 74 207 m119.pre m119.args [13, 14, 17, 20, 15, 18, 21, 16, 19, 22]) = memoR m119.v m119.xs (memoRunF (gEnv cons119) hints 74 207 m119.pre m119.args [13, 14, 17, 20, 15, 18, 21, 16, 19, 22]) := by kernel_rfl
/-- commonplace/value.Copy, 176 steps -/
theorem m120_run : memoL (memoRunF (gEnv cons120) hints 74 176 m120.pre m120.args [14, 15, 16, 17, 18, 19, 20, 21, 22, 23, 24]) = memoR m120.v m120.xs (memoRunF (gEnv cons120) hints 74 176 m120.pre m120.args [14, 15, 16, 17, 18, 19, 20, 21, 22, 23, 24]) := by kernel_rfl
/-- commonplace/value.Object, 297 steps -/
theorem m121_run : memoL (memoRunF (gEnv cons121) hints 127 297 m121.pre m121.args [12, 13, 14, 15, 16, 17, 18, 19, 20, 21, 22]) = memoR m121.v m121.xs (memoRunF (gEnv cons121) hints 127 297 m121.pre m121.args [12, 13, 14, 15, 16, 17, 18, 19, 20, 21, 22]) := by kernel_rfl
end Go.Abs
