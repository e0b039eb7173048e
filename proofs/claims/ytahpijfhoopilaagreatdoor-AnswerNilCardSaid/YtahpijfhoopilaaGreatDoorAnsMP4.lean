/-
  Calls that were run once: the runs (printed by AbsGen, cut by split_memo.py).
-/
import Derived.Test.YtahpijfhoopilaaGreatDoorAnsMD
set_option linter.unusedSectionVars false
set_option linter.unusedVariables false
set_option linter.unusedSimpArgs false
namespace Go.Abs
open Go
/-- commonplace/crc.Open, 7720 steps -/
theorem m71_run : memoL (memoRunF (gEnv cons71) hints 146 7720 m71.pre m71.args [3]) = memoR m71.v m71.xs (memoRunF (gEnv cons71) hints 146 7720 m71.pre m71.args [3]) := by kernel_rfl
/-- commonplace/frame.Body, 145 steps -/
theorem m72_run : memoL (memoRunF (gEnv cons72) hints 62 145 m72.pre m72.args [4]) = memoR m72.v m72.xs (memoRunF (gEnv cons72) hints 62 145 m72.pre m72.args [4]) := by kernel_rfl
/-- strings.IndexByte, 27 steps -/
theorem m73_run : memoL (memoRunF (gEnv cons73) hints 210 27 m73.pre m73.args []) = memoR m73.v m73.xs (memoRunF (gEnv cons73) hints 210 27 m73.pre m73.args []) := by kernel_rfl
/-- strings.IndexByte, 27 steps -/
theorem m74_run : memoL (memoRunF (gEnv cons74) hints 210 27 m74.pre m74.args []) = memoR m74.v m74.xs (memoRunF (gEnv cons74) hints 210 27 m74.pre m74.args []) := by kernel_rfl
/-- commonplace/utf.Unquote, 1299 steps -/
theorem m75_run : memoL (memoRunF (gEnv cons75) hints 317 1299 m75.pre m75.args []) = memoR m75.v m75.xs (memoRunF (gEnv cons75) hints 317 1299 m75.pre m75.args []) := by kernel_rfl
/-- strings.IndexByte, 27 steps -/
theorem m76_run : memoL (memoRunF (gEnv cons76) hints 210 27 m76.pre m76.args []) = memoR m76.v m76.xs (memoRunF (gEnv cons76) hints 210 27 m76.pre m76.args []) := by kernel_rfl
/-- strings.IndexByte, 27 steps -/
theorem m77_run : memoL (memoRunF (gEnv cons77) hints 210 27 m77.pre m77.args []) = memoR m77.v m77.xs (memoRunF (gEnv cons77) hints 210 27 m77.pre m77.args []) := by kernel_rfl
/-- strconv.ParseInt, 400 steps -/
theorem m78_run : memoL (memoRunF (gEnv cons78) hints 271 400 m78.pre m78.args []) = memoR m78.v m78.xs (memoRunF (gEnv cons78) hints 271 400 m78.pre m78.args []) := by kernel_rfl
/-- strings.IndexByte, 27 steps -/
theorem m79_run : memoL (memoRunF (gEnv cons79) hints 210 27 m79.pre m79.args []) = memoR m79.v m79.xs (memoRunF (gEnv cons79) hints 210 27 m79.pre m79.args []) := by kernel_rfl
/-- commonplace/utf.Unquote, 907 steps -/
theorem m80_run : memoL (memoRunF (gEnv cons80) hints 317 907 m80.pre m80.args []) = memoR m80.v m80.xs (memoRunF (gEnv cons80) hints 317 907 m80.pre m80.args []) := by kernel_rfl
/-- strings.IndexByte, 27 steps -/
theorem m81_run : memoL (memoRunF (gEnv cons81) hints 210 27 m81.pre m81.args []) = memoR m81.v m81.xs (memoRunF (gEnv cons81) hints 210 27 m81.pre m81.args []) := by kernel_rfl
/-- commonplace/utf.Unquote, 515 steps -/
theorem m82_run : memoL (memoRunF (gEnv cons82) hints 317 515 m82.pre m82.args []) = memoR m82.v m82.xs (memoRunF (gEnv cons82) hints 317 515 m82.pre m82.args []) := by kernel_rfl
/-- commonplace/utf.Unquote, 1495 steps -/
theorem m83_run : memoL (memoRunF (gEnv cons83) hints 317 1495 m83.pre m83.args []) = memoR m83.v m83.xs (memoRunF (gEnv cons83) hints 317 1495 m83.pre m83.args []) := by kernel_rfl
/-- commonplace/utf.Unquote, 907 steps -/
theorem m84_run : memoL (memoRunF (gEnv cons84) hints 317 907 m84.pre m84.args []) = memoR m84.v m84.xs (memoRunF (gEnv cons84) hints 317 907 m84.pre m84.args []) := by kernel_rfl
/-- commonplace/utf.Unquote, 711 steps -/
theorem m85_run : memoL (memoRunF (gEnv cons85) hints 317 711 m85.pre m85.args []) = memoR m85.v m85.xs (memoRunF (gEnv cons85) hints 317 711 m85.pre m85.args []) := by kernel_rfl
/-- commonplace/utf.Unquote, 319 steps -/
theorem m86_run : memoL (memoRunF (gEnv cons86) hints 317 319 m86.pre m86.args []) = memoR m86.v m86.xs (memoRunF (gEnv cons86) hints 317 319 m86.pre m86.args []) := by kernel_rfl
/-- commonplace/utf.Unquote, 1103 steps -/
theorem m87_run : memoL (memoRunF (gEnv cons87) hints 317 1103 m87.pre m87.args []) = memoR m87.v m87.xs (memoRunF (gEnv cons87) hints 317 1103 m87.pre m87.args []) := by kernel_rfl
/-- strings.IndexByte, 27 steps -/
theorem m88_run : memoL (memoRunF (gEnv cons88) hints 210 27 m88.pre m88.args []) = memoR m88.v m88.xs (memoRunF (gEnv cons88) hints 210 27 m88.pre m88.args []) := by kernel_rfl
/-- strings.IndexByte, 27 steps -/
theorem m89_run : memoL (memoRunF (gEnv cons89) hints 210 27 m89.pre m89.args []) = memoR m89.v m89.xs (memoRunF (gEnv cons89) hints 210 27 m89.pre m89.args []) := by kernel_rfl
/-- commonplace/value.Copy, 176 steps -/
theorem m90_run : memoL (memoRunF (gEnv cons90) hints 74 176 m90.pre m90.args [4]) = memoR m90.v m90.xs (memoRunF (gEnv cons90) hints 74 176 m90.pre m90.args [4]) := by kernel_rfl
/-- commonplace/value.Object, 297 steps -/
theorem m91_run : memoL (memoRunF (gEnv cons91) hints 127 297 m91.pre m91.args [2]) = memoR m91.v m91.xs (memoRunF (gEnv cons91) hints 127 297 m91.pre m91.args [2]) := by kernel_rfl
/-- commonplace/utf.Unquote, 907 steps -/
theorem m92_run : memoL (memoRunF (gEnv cons92) hints 317 907 m92.pre m92.args []) = memoR m92.v m92.xs (memoRunF (gEnv cons92) hints 317 907 m92.pre m92.args []) := by kernel_rfl
/-- commonplace/utf.Unquote, 711 steps -/
theorem m93_run : memoL (memoRunF (gEnv cons93) hints 317 711 m93.pre m93.args []) = memoR m93.v m93.xs (memoRunF (gEnv cons93) hints 317 711 m93.pre m93.args []) := by kernel_rfl
/-- commonplace/value.Copy, 176 steps -/
theorem m94_run : memoL (memoRunF (gEnv cons94) hints 74 176 m94.pre m94.args [4]) = memoR m94.v m94.xs (memoRunF (gEnv cons94) hints 74 176 m94.pre m94.args [4]) := by kernel_rfl
/-- commonplace/value.Copy, 98 steps -/
theorem m95_run : memoL (memoRunF (gEnv cons95) hints 74 98 m95.pre m95.args []) = memoR m95.v m95.xs (memoRunF (gEnv cons95) hints 74 98 m95.pre m95.args []) := by kernel_rfl
/-- commonplace/value.Copy, 176 steps -/
theorem m96_run : memoL (memoRunF (gEnv cons96) hints 74 176 m96.pre m96.args [5, 6]) = memoR m96.v m96.xs (memoRunF (gEnv cons96) hints 74 176 m96.pre m96.args [5, 6]) := by kernel_rfl
/-- commonplace/value.Object, 297 steps -/
theorem m97_run : memoL (memoRunF (gEnv cons97) hints 127 297 m97.pre m97.args [3, 4]) = memoR m97.v m97.xs (memoRunF (gEnv cons97) hints 127 297 m97.pre m97.args [3, 4]) := by kernel_rfl
/-- commonplace/value.Copy, 98 steps -/
theorem m98_run : memoL (memoRunF (gEnv cons98) hints 74 98 m98.pre m98.args []) = memoR m98.v m98.xs (memoRunF (gEnv cons98) hints 74 98 m98.pre m98.args []) := by kernel_rfl
/-- commonplace/value.Copy, 176 steps -/
theorem m99_run : memoL (memoRunF (gEnv cons99) hints 74 176 m99.pre m99.args [5, 6]) = memoR m99.v m99.xs (memoRunF (gEnv cons99) hints 74 176 m99.pre m99.args [5, 6]) := by kernel_rfl
/-- commonplace/value.Copy, 176 steps -/
theorem m100_run : memoL (memoRunF (gEnv cons100) hints 74 176 m100.pre m100.args [6, 7, 8]) = memoR m100.v m100.xs (memoRunF (gEnv cons100) hints 74 176 m100.pre m100.args [6, 7, 8]) := by kernel_rfl
/-- commonplace/value.Object, 297 steps -/
theorem m101_run : memoL (memoRunF (gEnv cons101) hints 127 297 m101.pre m101.args [4, 5, 6]) = memoR m101.v m101.xs (memoRunF (gEnv cons101) hints 127 297 m101.pre m101.args [4, 5, 6]) := by kernel_rfl
/-- commonplace/utf.Unquote, 515 steps -/
theorem m102_run : memoL (memoRunF (gEnv cons102) hints 317 515 m102.pre m102.args []) = memoR m102.v m102.xs (memoRunF (gEnv cons102) hints 317 515 m102.pre m102.args []) := by kernel_rfl
/-- strings.IndexByte, 27 steps -/
theorem m103_run : memoL (memoRunF (gEnv cons103) hints 210 27 m103.pre m103.args []) = memoR m103.v m103.xs (memoRunF (gEnv cons103) hints 210 27 m103.pre m103.args []) := by kernel_rfl
/-- strconv.ParseInt, 400 steps -/
theorem m104_run : memoL (memoRunF (gEnv cons104) hints 271 400 m104.pre m104.args []) = memoR m104.v m104.xs (memoRunF (gEnv cons104) hints 271 400 m104.pre m104.args []) := by kernel_rfl
/-- commonplace/utf.Unquote, 1495 steps -/
theorem m105_run : memoL (memoRunF (gEnv cons105) hints 317 1495 m105.pre m105.args []) = memoR m105.v m105.xs (memoRunF (gEnv cons105) hints 317 1495 m105.pre m105.args []) := by kernel_rfl
end Go.Abs
