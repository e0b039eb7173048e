/-
  Calls that were run once: the runs (printed by AbsGen, cut by split_memo.py).
-/
import Derived.Test.YtahpijfhoopilaaGreatDoorAnsMD
set_option linter.unusedSectionVars false
set_option linter.unusedVariables false
set_option linter.unusedSimpArgs false
namespace Go.Abs
open Go
/-- commonplace/utf.Unquote, 907 steps -/
theorem m106_run : memoL (memoRunF (gEnv cons106) hints 317 907 m106.pre m106.args []) = memoR m106.v m106.xs (memoRunF (gEnv cons106) hints 317 907 m106.pre m106.args []) := by kernel_rfl
/-- commonplace/utf.Unquote, 711 steps -/
theorem m107_run : memoL (memoRunF (gEnv cons107) hints 317 711 m107.pre m107.args []) = memoR m107.v m107.xs (memoRunF (gEnv cons107) hints 317 711 m107.pre m107.args []) := by kernel_rfl
/-- commonplace/utf.Unquote, 319 steps -/
theorem m108_run : memoL (memoRunF (gEnv cons108) hints 317 319 m108.pre m108.args []) = memoR m108.v m108.xs (memoRunF (gEnv cons108) hints 317 319 m108.pre m108.args []) := by kernel_rfl
/-- commonplace/utf.Unquote, 1103 steps -/
theorem m109_run : memoL (memoRunF (gEnv cons109) hints 317 1103 m109.pre m109.args []) = memoR m109.v m109.xs (memoRunF (gEnv cons109) hints 317 1103 m109.pre m109.args []) := by kernel_rfl
/-- commonplace/value.Copy, 176 steps -/
theorem m110_run : memoL (memoRunF (gEnv cons110) hints 74 176 m110.pre m110.args [4]) = memoR m110.v m110.xs (memoRunF (gEnv cons110) hints 74 176 m110.pre m110.args [4]) := by kernel_rfl
/-- commonplace/value.Object, 297 steps -/
theorem m111_run : memoL (memoRunF (gEnv cons111) hints 127 297 m111.pre m111.args [2]) = memoR m111.v m111.xs (memoRunF (gEnv cons111) hints 127 297 m111.pre m111.args [2]) := by kernel_rfl
/-- commonplace/utf.Unquote, 907 steps -/
theorem m112_run : memoL (memoRunF (gEnv cons112) hints 317 907 m112.pre m112.args []) = memoR m112.v m112.xs (memoRunF (gEnv cons112) hints 317 907 m112.pre m112.args []) := by kernel_rfl
/-- commonplace/utf.Unquote, 711 steps -/
theorem m113_run : memoL (memoRunF (gEnv cons113) hints 317 711 m113.pre m113.args []) = memoR m113.v m113.xs (memoRunF (gEnv cons113) hints 317 711 m113.pre m113.args []) := by kernel_rfl
/-- commonplace/value.Copy, 176 steps -/
theorem m114_run : memoL (memoRunF (gEnv cons114) hints 74 176 m114.pre m114.args [4]) = memoR m114.v m114.xs (memoRunF (gEnv cons114) hints 74 176 m114.pre m114.args [4]) := by kernel_rfl
/-- commonplace/value.Copy, 176 steps -/
theorem m115_run : memoL (memoRunF (gEnv cons115) hints 74 176 m115.pre m115.args [5, 6]) = memoR m115.v m115.xs (memoRunF (gEnv cons115) hints 74 176 m115.pre m115.args [5, 6]) := by kernel_rfl
/-- commonplace/value.Object, 297 steps -/
theorem m116_run : memoL (memoRunF (gEnv cons116) hints 127 297 m116.pre m116.args [3, 4]) = memoR m116.v m116.xs (memoRunF (gEnv cons116) hints 127 297 m116.pre m116.args [3, 4]) := by kernel_rfl
/-- commonplace/value.Copy, 98 steps -/
theorem m117_run : memoL (memoRunF (gEnv cons117) hints 74 98 m117.pre m117.args []) = memoR m117.v m117.xs (memoRunF (gEnv cons117) hints 74 98 m117.pre m117.args []) := by kernel_rfl
/-- commonplace/value.Copy, 176 steps -/
theorem m118_run : memoL (memoRunF (gEnv cons118) hints 74 176 m118.pre m118.args [5, 6]) = memoR m118.v m118.xs (memoRunF (gEnv cons118) hints 74 176 m118.pre m118.args [5, 6]) := by kernel_rfl
/-- commonplace/value.Copy, 176 steps -/
theorem m119_run : memoL (memoRunF (gEnv cons119) hints 74 176 m119.pre m119.args [6, 7, 8]) = memoR m119.v m119.xs (memoRunF (gEnv cons119) hints 74 176 m119.pre m119.args [6, 7, 8]) := by kernel_rfl
/-- commonplace/value.Object, 297 steps -/
theorem m120_run : memoL (memoRunF (gEnv cons120) hints 127 297 m120.pre m120.args [4, 5, 6]) = memoR m120.v m120.xs (memoRunF (gEnv cons120) hints 127 297 m120.pre m120.args [4, 5, 6]) := by kernel_rfl
/-- commonplace/utf.Unquote, 515 steps -/
theorem m121_run : memoL (memoRunF (gEnv cons121) hints 317 515 m121.pre m121.args []) = memoR m121.v m121.xs (memoRunF (gEnv cons121) hints 317 515 m121.pre m121.args []) := by kernel_rfl
/-- strings.IndexByte, 27 steps -/
theorem m122_run : memoL (memoRunF (gEnv cons122) hints 210 27 m122.pre m122.args []) = memoR m122.v m122.xs (memoRunF (gEnv cons122) hints 210 27 m122.pre m122.args []) := by kernel_rfl
/-- strconv.ParseInt, 400 steps -/
theorem m123_run : memoL (memoRunF (gEnv cons123) hints 271 400 m123.pre m123.args []) = memoR m123.v m123.xs (memoRunF (gEnv cons123) hints 271 400 m123.pre m123.args []) := by kernel_rfl
/-- commonplace/utf.Unquote, 1495 steps -/
theorem m124_run : memoL (memoRunF (gEnv cons124) hints 317 1495 m124.pre m124.args []) = memoR m124.v m124.xs (memoRunF (gEnv cons124) hints 317 1495 m124.pre m124.args []) := by kernel_rfl
/-- commonplace/utf.Unquote, 907 steps -/
theorem m125_run : memoL (memoRunF (gEnv cons125) hints 317 907 m125.pre m125.args []) = memoR m125.v m125.xs (memoRunF (gEnv cons125) hints 317 907 m125.pre m125.args []) := by kernel_rfl
/-- commonplace/utf.Unquote, 711 steps -/
theorem m126_run : memoL (memoRunF (gEnv cons126) hints 317 711 m126.pre m126.args []) = memoR m126.v m126.xs (memoRunF (gEnv cons126) hints 317 711 m126.pre m126.args []) := by kernel_rfl
/-- commonplace/utf.Unquote, 319 steps -/
theorem m127_run : memoL (memoRunF (gEnv cons127) hints 317 319 m127.pre m127.args []) = memoR m127.v m127.xs (memoRunF (gEnv cons127) hints 317 319 m127.pre m127.args []) := by kernel_rfl
/-- commonplace/utf.Unquote, 1103 steps -/
theorem m128_run : memoL (memoRunF (gEnv cons128) hints 317 1103 m128.pre m128.args []) = memoR m128.v m128.xs (memoRunF (gEnv cons128) hints 317 1103 m128.pre m128.args []) := by kernel_rfl
/-- commonplace/value.Copy, 176 steps -/
theorem m129_run : memoL (memoRunF (gEnv cons129) hints 74 176 m129.pre m129.args [4]) = memoR m129.v m129.xs (memoRunF (gEnv cons129) hints 74 176 m129.pre m129.args [4]) := by kernel_rfl
/-- commonplace/value.Object, 297 steps -/
theorem m130_run : memoL (memoRunF (gEnv cons130) hints 127 297 m130.pre m130.args [2]) = memoR m130.v m130.xs (memoRunF (gEnv cons130) hints 127 297 m130.pre m130.args [2]) := by kernel_rfl
/-- commonplace/utf.Unquote, 907 steps -/
theorem m131_run : memoL (memoRunF (gEnv cons131) hints 317 907 m131.pre m131.args []) = memoR m131.v m131.xs (memoRunF (gEnv cons131) hints 317 907 m131.pre m131.args []) := by kernel_rfl
/-- commonplace/utf.Unquote, 711 steps -/
theorem m132_run : memoL (memoRunF (gEnv cons132) hints 317 711 m132.pre m132.args []) = memoR m132.v m132.xs (memoRunF (gEnv cons132) hints 317 711 m132.pre m132.args []) := by kernel_rfl
/-- commonplace/value.Copy, 176 steps -/
theorem m133_run : memoL (memoRunF (gEnv cons133) hints 74 176 m133.pre m133.args [4]) = memoR m133.v m133.xs (memoRunF (gEnv cons133) hints 74 176 m133.pre m133.args [4]) := by kernel_rfl
/-- commonplace/value.Copy, 176 steps -/
theorem m134_run : memoL (memoRunF (gEnv cons134) hints 74 176 m134.pre m134.args [5, 6]) = memoR m134.v m134.xs (memoRunF (gEnv cons134) hints 74 176 m134.pre m134.args [5, 6]) := by kernel_rfl
/-- commonplace/value.Object, 297 steps -/
theorem m135_run : memoL (memoRunF (gEnv cons135) hints 127 297 m135.pre m135.args [3, 4]) = memoR m135.v m135.xs (memoRunF (gEnv cons135) hints 127 297 m135.pre m135.args [3, 4]) := by kernel_rfl
/-- commonplace/value.Copy, 98 steps -/
theorem m136_run : memoL (memoRunF (gEnv cons136) hints 74 98 m136.pre m136.args []) = memoR m136.v m136.xs (memoRunF (gEnv cons136) hints 74 98 m136.pre m136.args []) := by kernel_rfl
/-- commonplace/value.Copy, 176 steps -/
theorem m137_run : memoL (memoRunF (gEnv cons137) hints 74 176 m137.pre m137.args [5, 6]) = memoR m137.v m137.xs (memoRunF (gEnv cons137) hints 74 176 m137.pre m137.args [5, 6]) := by kernel_rfl
/-- commonplace/value.Copy, 176 steps -/
theorem m138_run : memoL (memoRunF (gEnv cons138) hints 74 176 m138.pre m138.args [6, 7, 8]) = memoR m138.v m138.xs (memoRunF (gEnv cons138) hints 74 176 m138.pre m138.args [6, 7, 8]) := by kernel_rfl
/-- commonplace/value.Object, 297 steps -/
theorem m139_run : memoL (memoRunF (gEnv cons139) hints 127 297 m139.pre m139.args [4, 5, 6]) = memoR m139.v m139.xs (memoRunF (gEnv cons139) hints 127 297 m139.pre m139.args [4, 5, 6]) := by kernel_rfl
/-- strings.IndexByte, 27 steps -/
theorem m140_run : memoL (memoRunF (gEnv cons140) hints 210 27 m140.pre m140.args []) = memoR m140.v m140.xs (memoRunF (gEnv cons140) hints 210 27 m140.pre m140.args []) := by kernel_rfl
/-- commonplace/value.Copy, 176 steps -/
theorem m141_run : memoL (memoRunF (gEnv cons141) hints 74 176 m141.pre m141.args [6, 7, 8]) = memoR m141.v m141.xs (memoRunF (gEnv cons141) hints 74 176 m141.pre m141.args [6, 7, 8]) := by kernel_rfl
/-- commonplace/value.Copy, 176 steps -/
theorem m142_run : memoL (memoRunF (gEnv cons142) hints 74 176 m142.pre m142.args [6, 7, 8]) = memoR m142.v m142.xs (memoRunF (gEnv cons142) hints 74 176 m142.pre m142.args [6, 7, 8]) := by kernel_rfl
/-- commonplace/value.Copy, 176 steps -/
theorem m143_run : memoL (memoRunF (gEnv cons143) hints 74 176 m143.pre m143.args [6, 7, 8]) = memoR m143.v m143.xs (memoRunF (gEnv cons143) hints 74 176 m143.pre m143.args [6, 7, 8]) := by kernel_rfl
/-- commonplace/value.Copy, 207 steps -/
theorem m144_run : memoL (memoRunF (gEnv cons144) hints 74 207 m144.pre m144.args [13, 14, 17, 20, 15, 18, 21, 16, 19, 22]) = memoR m144.v m144.xs (memoRunF (gEnv cons144) hints 74 207 m144.pre m144.args [13, 14, 17, 20, 15, 18, 21, 16, 19, 22]) := by kernel_rfl
/-- commonplace/value.Copy, 176 steps -/
theorem m145_run : memoL (memoRunF (gEnv cons145) hints 74 176 m145.pre m145.args [14, 15, 16, 17, 18, 19, 20, 21, 22, 23, 24]) = memoR m145.v m145.xs (memoRunF (gEnv cons145) hints 74 176 m145.pre m145.args [14, 15, 16, 17, 18, 19, 20, 21, 22, 23, 24]) := by kernel_rfl
/-- commonplace/value.Object, 297 steps -/
theorem m146_run : memoL (memoRunF (gEnv cons146) hints 127 297 m146.pre m146.args [12, 13, 14, 15, 16, 17, 18, 19, 20, 21, 22]) = memoR m146.v m146.xs (memoRunF (gEnv cons146) hints 127 297 m146.pre m146.args [12, 13, 14, 15, 16, 17, 18, 19, 20, 21, 22]) := by kernel_rfl
end Go.Abs
