/-
  Calls that were run once: the runs (printed by AbsGen, cut by split_memo.py).
-/
import Derived.Test.YtahpijfhoopilaaGreatDoorAnsMD
set_option linter.unusedSectionVars false
set_option linter.unusedVariables false
set_option linter.unusedSimpArgs false
namespace Go.Abs
open Go
/-- commonplace/answer.Of, 153 steps -/
theorem m0_run : memoL (memoRunF (gEnv cons0) hints 18 153 m0.pre m0.args []) = memoR m0.v m0.xs (memoRunF (gEnv cons0) hints 18 153 m0.pre m0.args []) := by kernel_rfl
/-- commonplace/answer.Of, 153 steps -/
theorem m1_run : memoL (memoRunF (gEnv cons1) hints 18 153 m1.pre m1.args []) = memoR m1.v m1.xs (memoRunF (gEnv cons1) hints 18 153 m1.pre m1.args []) := by kernel_rfl
/-- commonplace/mutator.kinds, 233 steps -/
theorem m2_run : memoL (memoRunF (gEnv cons2) hints 132 233 m2.pre m2.args [7, 31, 24, 19, 12, 10, 9, 8, 30, 20, 22, 13, 14, 0, 16, 17, 2, 3, 27, 28]) = memoR m2.v m2.xs (memoRunF (gEnv cons2) hints 132 233 m2.pre m2.args [7, 31, 24, 19, 12, 10, 9, 8, 30, 20, 22, 13, 14, 0, 16, 17, 2, 3, 27, 28]) := by kernel_rfl
/-- commonplace/utf.Valid, 81 steps -/
theorem m3_run : memoL (memoRunF (gEnv cons3) hints 134 81 m3.pre m3.args []) = memoR m3.v m3.xs (memoRunF (gEnv cons3) hints 134 81 m3.pre m3.args []) := by kernel_rfl
/-- commonplace/utf.Valid, 35 steps -/
theorem m4_run : memoL (memoRunF (gEnv cons4) hints 134 35 m4.pre m4.args []) = memoR m4.v m4.xs (memoRunF (gEnv cons4) hints 134 35 m4.pre m4.args []) := by kernel_rfl
/-- commonplace/value.May, 138 steps -/
theorem m5_run : memoL (memoRunF (gEnv cons5) hints 57 138 m5.pre m5.args []) = memoR m5.v m5.xs (memoRunF (gEnv cons5) hints 57 138 m5.pre m5.args []) := by kernel_rfl
/-- commonplace/encode.text, 159 steps -/
theorem m6_run : memoL (memoRunF (gEnv cons6) hints 58 159 m6.pre m6.args []) = memoR m6.v m6.xs (memoRunF (gEnv cons6) hints 58 159 m6.pre m6.args []) := by kernel_rfl
/-- commonplace/encode.Text, 30 steps -/
theorem m7_run : memoL (memoRunF (gEnv cons7) hints 24 30 m7.pre m7.args []) = memoR m7.v m7.xs (memoRunF (gEnv cons7) hints 24 30 m7.pre m7.args []) := by kernel_rfl
/-- commonplace/mutator.May, 941 steps -/
theorem m8_run : memoL (memoRunF (gEnv cons8) hints 54 941 m8.pre m8.args []) = memoR m8.v m8.xs (memoRunF (gEnv cons8) hints 54 941 m8.pre m8.args []) := by kernel_rfl
/-- commonplace/utf.Valid, 81 steps -/
theorem m9_run : memoL (memoRunF (gEnv cons9) hints 134 81 m9.pre m9.args []) = memoR m9.v m9.xs (memoRunF (gEnv cons9) hints 134 81 m9.pre m9.args []) := by kernel_rfl
/-- commonplace/mutator.May, 941 steps -/
theorem m10_run : memoL (memoRunF (gEnv cons10) hints 54 941 m10.pre m10.args []) = memoR m10.v m10.xs (memoRunF (gEnv cons10) hints 54 941 m10.pre m10.args []) := by kernel_rfl
/-- commonplace/utf.Valid, 81 steps -/
theorem m11_run : memoL (memoRunF (gEnv cons11) hints 134 81 m11.pre m11.args []) = memoR m11.v m11.xs (memoRunF (gEnv cons11) hints 134 81 m11.pre m11.args []) := by kernel_rfl
/-- commonplace/mutator.May, 941 steps -/
theorem m12_run : memoL (memoRunF (gEnv cons12) hints 54 941 m12.pre m12.args []) = memoR m12.v m12.xs (memoRunF (gEnv cons12) hints 54 941 m12.pre m12.args []) := by kernel_rfl
/-- commonplace/value.Copy, 98 steps -/
theorem m13_run : memoL (memoRunF (gEnv cons13) hints 74 98 m13.pre m13.args []) = memoR m13.v m13.xs (memoRunF (gEnv cons13) hints 74 98 m13.pre m13.args []) := by kernel_rfl
/-- commonplace/value.Copy, 98 steps -/
theorem m14_run : memoL (memoRunF (gEnv cons14) hints 74 98 m14.pre m14.args []) = memoR m14.v m14.xs (memoRunF (gEnv cons14) hints 74 98 m14.pre m14.args []) := by kernel_rfl
/-- commonplace/mutator.Object, 270 steps -/
theorem m15_run : memoL (memoRunF (gEnv cons15) hints 56 270 m15.pre m15.args [38, 37]) = memoR m15.v m15.xs (memoRunF (gEnv cons15) hints 56 270 m15.pre m15.args [38, 37]) := by kernel_rfl
/-- commonplace/value.Copy, 98 steps -/
theorem m16_run : memoL (memoRunF (gEnv cons16) hints 74 98 m16.pre m16.args []) = memoR m16.v m16.xs (memoRunF (gEnv cons16) hints 74 98 m16.pre m16.args []) := by kernel_rfl
/-- commonplace/mutator.Object, 270 steps -/
theorem m17_run : memoL (memoRunF (gEnv cons17) hints 56 270 m17.pre m17.args [38, 37]) = memoR m17.v m17.xs (memoRunF (gEnv cons17) hints 56 270 m17.pre m17.args [38, 37]) := by kernel_rfl
/-- commonplace/value.Copy, 98 steps -/
theorem m18_run : memoL (memoRunF (gEnv cons18) hints 74 98 m18.pre m18.args []) = memoR m18.v m18.xs (memoRunF (gEnv cons18) hints 74 98 m18.pre m18.args []) := by kernel_rfl
/-- commonplace/mutator.Object, 270 steps -/
theorem m19_run : memoL (memoRunF (gEnv cons19) hints 56 270 m19.pre m19.args [38, 37]) = memoR m19.v m19.xs (memoRunF (gEnv cons19) hints 56 270 m19.pre m19.args [38, 37]) := by kernel_rfl
/-- commonplace/utf.Valid, 311 steps -/
theorem m20_run : memoL (memoRunF (gEnv cons20) hints 134 311 m20.pre m20.args []) = memoR m20.v m20.xs (memoRunF (gEnv cons20) hints 134 311 m20.pre m20.args []) := by kernel_rfl
/-- commonplace/utf.Valid, 219 steps -/
theorem m21_run : memoL (memoRunF (gEnv cons21) hints 134 219 m21.pre m21.args []) = memoR m21.v m21.xs (memoRunF (gEnv cons21) hints 134 219 m21.pre m21.args []) := by kernel_rfl
/-- commonplace/utf.Valid, 127 steps -/
theorem m22_run : memoL (memoRunF (gEnv cons22) hints 134 127 m22.pre m22.args []) = memoR m22.v m22.xs (memoRunF (gEnv cons22) hints 134 127 m22.pre m22.args []) := by kernel_rfl
/-- commonplace/utf.Valid, 357 steps -/
theorem m23_run : memoL (memoRunF (gEnv cons23) hints 134 357 m23.pre m23.args []) = memoR m23.v m23.xs (memoRunF (gEnv cons23) hints 134 357 m23.pre m23.args []) := by kernel_rfl
/-- commonplace/utf.Valid, 219 steps -/
theorem m24_run : memoL (memoRunF (gEnv cons24) hints 134 219 m24.pre m24.args []) = memoR m24.v m24.xs (memoRunF (gEnv cons24) hints 134 219 m24.pre m24.args []) := by kernel_rfl
/-- commonplace/utf.Valid, 173 steps -/
theorem m25_run : memoL (memoRunF (gEnv cons25) hints 134 173 m25.pre m25.args []) = memoR m25.v m25.xs (memoRunF (gEnv cons25) hints 134 173 m25.pre m25.args []) := by kernel_rfl
/-- commonplace/utf.Valid, 265 steps -/
theorem m26_run : memoL (memoRunF (gEnv cons26) hints 134 265 m26.pre m26.args []) = memoR m26.v m26.xs (memoRunF (gEnv cons26) hints 134 265 m26.pre m26.args []) := by kernel_rfl
/-- commonplace/utf.Valid, 219 steps -/
theorem m27_run : memoL (memoRunF (gEnv cons27) hints 134 219 m27.pre m27.args []) = memoR m27.v m27.xs (memoRunF (gEnv cons27) hints 134 219 m27.pre m27.args []) := by kernel_rfl
/-- commonplace/utf.Valid, 173 steps -/
theorem m28_run : memoL (memoRunF (gEnv cons28) hints 134 173 m28.pre m28.args []) = memoR m28.v m28.xs (memoRunF (gEnv cons28) hints 134 173 m28.pre m28.args []) := by kernel_rfl
/-- commonplace/value.May, 5104 steps -/
theorem m29_run : memoL (memoRunF (gEnv cons29) hints 57 5104 m29.pre m29.args []) = memoR m29.v m29.xs (memoRunF (gEnv cons29) hints 57 5104 m29.pre m29.args []) := by kernel_rfl
/-- commonplace/utf.Quote, 1455 steps -/
theorem m30_run : memoL (memoRunF (gEnv cons30) hints 103 1455 m30.pre m30.args []) = memoR m30.v m30.xs (memoRunF (gEnv cons30) hints 103 1455 m30.pre m30.args []) := by kernel_rfl
/-- strconv.FormatInt, 65 steps -/
theorem m31_run : memoL (memoRunF (gEnv cons31) hints 102 65 m31.pre m31.args []) = memoR m31.v m31.xs (memoRunF (gEnv cons31) hints 102 65 m31.pre m31.args []) := by kernel_rfl
/-- commonplace/encode.text, 174 steps -/
theorem m32_run : memoL (memoRunF (gEnv cons32) hints 58 174 m32.pre m32.args []) = memoR m32.v m32.xs (memoRunF (gEnv cons32) hints 58 174 m32.pre m32.args []) := by kernel_rfl
/-- commonplace/utf.Quote, 1045 steps -/
theorem m33_run : memoL (memoRunF (gEnv cons33) hints 103 1045 m33.pre m33.args []) = memoR m33.v m33.xs (memoRunF (gEnv cons33) hints 103 1045 m33.pre m33.args []) := by kernel_rfl
/-- commonplace/utf.Quote, 635 steps -/
theorem m34_run : memoL (memoRunF (gEnv cons34) hints 103 635 m34.pre m34.args []) = memoR m34.v m34.xs (memoRunF (gEnv cons34) hints 103 635 m34.pre m34.args []) := by kernel_rfl
/-- commonplace/utf.Quote, 1660 steps -/
theorem m35_run : memoL (memoRunF (gEnv cons35) hints 103 1660 m35.pre m35.args []) = memoR m35.v m35.xs (memoRunF (gEnv cons35) hints 103 1660 m35.pre m35.args []) := by kernel_rfl
/-- commonplace/utf.Quote, 1045 steps -/
theorem m36_run : memoL (memoRunF (gEnv cons36) hints 103 1045 m36.pre m36.args []) = memoR m36.v m36.xs (memoRunF (gEnv cons36) hints 103 1045 m36.pre m36.args []) := by kernel_rfl
/-- commonplace/utf.Quote, 840 steps -/
theorem m37_run : memoL (memoRunF (gEnv cons37) hints 103 840 m37.pre m37.args []) = memoR m37.v m37.xs (memoRunF (gEnv cons37) hints 103 840 m37.pre m37.args []) := by kernel_rfl
/-- commonplace/utf.Quote, 430 steps -/
theorem m38_run : memoL (memoRunF (gEnv cons38) hints 103 430 m38.pre m38.args []) = memoR m38.v m38.xs (memoRunF (gEnv cons38) hints 103 430 m38.pre m38.args []) := by kernel_rfl
/-- commonplace/encode.text, 189 steps -/
theorem m39_run : memoL (memoRunF (gEnv cons39) hints 58 189 m39.pre m39.args []) = memoR m39.v m39.xs (memoRunF (gEnv cons39) hints 58 189 m39.pre m39.args []) := by kernel_rfl
/-- commonplace/utf.Quote, 1250 steps -/
theorem m40_run : memoL (memoRunF (gEnv cons40) hints 103 1250 m40.pre m40.args []) = memoR m40.v m40.xs (memoRunF (gEnv cons40) hints 103 1250 m40.pre m40.args []) := by kernel_rfl
end Go.Abs
