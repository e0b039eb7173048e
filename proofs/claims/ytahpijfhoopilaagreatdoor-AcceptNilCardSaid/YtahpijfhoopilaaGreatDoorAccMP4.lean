/-
  Calls that were run once: the runs (printed by AbsGen, cut by split_memo.py).
-/
import Derived.Test.YtahpijfhoopilaaGreatDoorAccMD
set_option linter.unusedSectionVars false
set_option linter.unusedVariables false
set_option linter.unusedSimpArgs false
namespace Go.Abs
open Go
/-- commonplace/crc.Open, 7720 steps -/
theorem m55_run : memoL (memoRunF (gEnv cons55) hints 146 7720 m55.pre m55.args [3]) = memoR m55.v m55.xs (memoRunF (gEnv cons55) hints 146 7720 m55.pre m55.args [3]) := by kernel_rfl
/-- commonplace/frame.Body, 145 steps -/
theorem m56_run : memoL (memoRunF (gEnv cons56) hints 62 145 m56.pre m56.args [4]) = memoR m56.v m56.xs (memoRunF (gEnv cons56) hints 62 145 m56.pre m56.args [4]) := by kernel_rfl
/-- strings.IndexByte, 27 steps -/
theorem m57_run : memoL (memoRunF (gEnv cons57) hints 210 27 m57.pre m57.args []) = memoR m57.v m57.xs (memoRunF (gEnv cons57) hints 210 27 m57.pre m57.args []) := by kernel_rfl
/-- strings.IndexByte, 27 steps -/
theorem m58_run : memoL (memoRunF (gEnv cons58) hints 210 27 m58.pre m58.args []) = memoR m58.v m58.xs (memoRunF (gEnv cons58) hints 210 27 m58.pre m58.args []) := by kernel_rfl
/-- commonplace/utf.Unquote, 1299 steps -/
theorem m59_run : memoL (memoRunF (gEnv cons59) hints 317 1299 m59.pre m59.args []) = memoR m59.v m59.xs (memoRunF (gEnv cons59) hints 317 1299 m59.pre m59.args []) := by kernel_rfl
/-- strings.IndexByte, 27 steps -/
theorem m60_run : memoL (memoRunF (gEnv cons60) hints 210 27 m60.pre m60.args []) = memoR m60.v m60.xs (memoRunF (gEnv cons60) hints 210 27 m60.pre m60.args []) := by kernel_rfl
/-- strings.IndexByte, 27 steps -/
theorem m61_run : memoL (memoRunF (gEnv cons61) hints 210 27 m61.pre m61.args []) = memoR m61.v m61.xs (memoRunF (gEnv cons61) hints 210 27 m61.pre m61.args []) := by kernel_rfl
/-- strconv.ParseInt, 400 steps -/
theorem m62_run : memoL (memoRunF (gEnv cons62) hints 271 400 m62.pre m62.args []) = memoR m62.v m62.xs (memoRunF (gEnv cons62) hints 271 400 m62.pre m62.args []) := by kernel_rfl
/-- strings.IndexByte, 27 steps -/
theorem m63_run : memoL (memoRunF (gEnv cons63) hints 210 27 m63.pre m63.args []) = memoR m63.v m63.xs (memoRunF (gEnv cons63) hints 210 27 m63.pre m63.args []) := by kernel_rfl
/-- commonplace/utf.Unquote, 907 steps -/
theorem m64_run : memoL (memoRunF (gEnv cons64) hints 317 907 m64.pre m64.args []) = memoR m64.v m64.xs (memoRunF (gEnv cons64) hints 317 907 m64.pre m64.args []) := by kernel_rfl
/-- strings.IndexByte, 27 steps -/
theorem m65_run : memoL (memoRunF (gEnv cons65) hints 210 27 m65.pre m65.args []) = memoR m65.v m65.xs (memoRunF (gEnv cons65) hints 210 27 m65.pre m65.args []) := by kernel_rfl
/-- commonplace/utf.Unquote, 515 steps -/
theorem m66_run : memoL (memoRunF (gEnv cons66) hints 317 515 m66.pre m66.args []) = memoR m66.v m66.xs (memoRunF (gEnv cons66) hints 317 515 m66.pre m66.args []) := by kernel_rfl
/-- strings.IndexByte, 27 steps -/
theorem m67_run : memoL (memoRunF (gEnv cons67) hints 210 27 m67.pre m67.args []) = memoR m67.v m67.xs (memoRunF (gEnv cons67) hints 210 27 m67.pre m67.args []) := by kernel_rfl
/-- strconv.ParseInt, 400 steps -/
theorem m68_run : memoL (memoRunF (gEnv cons68) hints 271 400 m68.pre m68.args []) = memoR m68.v m68.xs (memoRunF (gEnv cons68) hints 271 400 m68.pre m68.args []) := by kernel_rfl
/-- commonplace/utf.Unquote, 1495 steps -/
theorem m69_run : memoL (memoRunF (gEnv cons69) hints 317 1495 m69.pre m69.args []) = memoR m69.v m69.xs (memoRunF (gEnv cons69) hints 317 1495 m69.pre m69.args []) := by kernel_rfl
/-- commonplace/utf.Unquote, 907 steps -/
theorem m70_run : memoL (memoRunF (gEnv cons70) hints 317 907 m70.pre m70.args []) = memoR m70.v m70.xs (memoRunF (gEnv cons70) hints 317 907 m70.pre m70.args []) := by kernel_rfl
/-- commonplace/utf.Unquote, 711 steps -/
theorem m71_run : memoL (memoRunF (gEnv cons71) hints 317 711 m71.pre m71.args []) = memoR m71.v m71.xs (memoRunF (gEnv cons71) hints 317 711 m71.pre m71.args []) := by kernel_rfl
/-- commonplace/utf.Unquote, 319 steps -/
theorem m72_run : memoL (memoRunF (gEnv cons72) hints 317 319 m72.pre m72.args []) = memoR m72.v m72.xs (memoRunF (gEnv cons72) hints 317 319 m72.pre m72.args []) := by kernel_rfl
/-- commonplace/utf.Unquote, 1103 steps -/
theorem m73_run : memoL (memoRunF (gEnv cons73) hints 317 1103 m73.pre m73.args []) = memoR m73.v m73.xs (memoRunF (gEnv cons73) hints 317 1103 m73.pre m73.args []) := by kernel_rfl
/-- strings.IndexByte, 27 steps -/
theorem m74_run : memoL (memoRunF (gEnv cons74) hints 210 27 m74.pre m74.args []) = memoR m74.v m74.xs (memoRunF (gEnv cons74) hints 210 27 m74.pre m74.args []) := by kernel_rfl
/-- strings.IndexByte, 27 steps -/
theorem m75_run : memoL (memoRunF (gEnv cons75) hints 210 27 m75.pre m75.args []) = memoR m75.v m75.xs (memoRunF (gEnv cons75) hints 210 27 m75.pre m75.args []) := by kernel_rfl
/-- commonplace/value.Copy, 176 steps -/
theorem m76_run : memoL (memoRunF (gEnv cons76) hints 74 176 m76.pre m76.args [4]) = memoR m76.v m76.xs (memoRunF (gEnv cons76) hints 74 176 m76.pre m76.args [4]) := by kernel_rfl
/-- commonplace/value.Object, 297 steps -/
theorem m77_run : memoL (memoRunF (gEnv cons77) hints 127 297 m77.pre m77.args [2]) = memoR m77.v m77.xs (memoRunF (gEnv cons77) hints 127 297 m77.pre m77.args [2]) := by kernel_rfl
/-- commonplace/utf.Unquote, 907 steps -/
theorem m78_run : memoL (memoRunF (gEnv cons78) hints 317 907 m78.pre m78.args []) = memoR m78.v m78.xs (memoRunF (gEnv cons78) hints 317 907 m78.pre m78.args []) := by kernel_rfl
/-- commonplace/utf.Unquote, 711 steps -/
theorem m79_run : memoL (memoRunF (gEnv cons79) hints 317 711 m79.pre m79.args []) = memoR m79.v m79.xs (memoRunF (gEnv cons79) hints 317 711 m79.pre m79.args []) := by kernel_rfl
/-- commonplace/value.Copy, 176 steps -/
theorem m80_run : memoL (memoRunF (gEnv cons80) hints 74 176 m80.pre m80.args [4]) = memoR m80.v m80.xs (memoRunF (gEnv cons80) hints 74 176 m80.pre m80.args [4]) := by kernel_rfl
/-- commonplace/value.Copy, 98 steps -/
theorem m81_run : memoL (memoRunF (gEnv cons81) hints 74 98 m81.pre m81.args []) = memoR m81.v m81.xs (memoRunF (gEnv cons81) hints 74 98 m81.pre m81.args []) := by kernel_rfl
/-- commonplace/value.Copy, 176 steps -/
theorem m82_run : memoL (memoRunF (gEnv cons82) hints 74 176 m82.pre m82.args [5, 6]) = memoR m82.v m82.xs (memoRunF (gEnv cons82) hints 74 176 m82.pre m82.args [5, 6]) := by kernel_rfl
/-- commonplace/value.Object, 297 steps -/
theorem m83_run : memoL (memoRunF (gEnv cons83) hints 127 297 m83.pre m83.args [3, 4]) = memoR m83.v m83.xs (memoRunF (gEnv cons83) hints 127 297 m83.pre m83.args [3, 4]) := by kernel_rfl
/-- commonplace/value.Copy, 98 steps -/
theorem m84_run : memoL (memoRunF (gEnv cons84) hints 74 98 m84.pre m84.args []) = memoR m84.v m84.xs (memoRunF (gEnv cons84) hints 74 98 m84.pre m84.args []) := by kernel_rfl
/-- commonplace/value.Copy, 176 steps -/
theorem m85_run : memoL (memoRunF (gEnv cons85) hints 74 176 m85.pre m85.args [5, 6]) = memoR m85.v m85.xs (memoRunF (gEnv cons85) hints 74 176 m85.pre m85.args [5, 6]) := by kernel_rfl
/-- commonplace/value.Copy, 176 steps -/
theorem m86_run : memoL (memoRunF (gEnv cons86) hints 74 176 m86.pre m86.args [6, 7, 8]) = memoR m86.v m86.xs (memoRunF (gEnv cons86) hints 74 176 m86.pre m86.args [6, 7, 8]) := by kernel_rfl
/-- commonplace/value.Object, 297 steps -/
theorem m87_run : memoL (memoRunF (gEnv cons87) hints 127 297 m87.pre m87.args [4, 5, 6]) = memoR m87.v m87.xs (memoRunF (gEnv cons87) hints 127 297 m87.pre m87.args [4, 5, 6]) := by kernel_rfl
/-- commonplace/utf.Unquote, 515 steps -/
theorem m88_run : memoL (memoRunF (gEnv cons88) hints 317 515 m88.pre m88.args []) = memoR m88.v m88.xs (memoRunF (gEnv cons88) hints 317 515 m88.pre m88.args []) := by kernel_rfl
/-- strings.IndexByte, 27 steps -/
theorem m89_run : memoL (memoRunF (gEnv cons89) hints 210 27 m89.pre m89.args []) = memoR m89.v m89.xs (memoRunF (gEnv cons89) hints 210 27 m89.pre m89.args []) := by kernel_rfl
/-- strconv.ParseInt, 400 steps -/
theorem m90_run : memoL (memoRunF (gEnv cons90) hints 271 400 m90.pre m90.args []) = memoR m90.v m90.xs (memoRunF (gEnv cons90) hints 271 400 m90.pre m90.args []) := by kernel_rfl
end Go.Abs
