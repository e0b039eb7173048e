/-
  Calls that were run once: what they come to (printed by AbsGen, cut by split_memo.py).
-/
import Derived.Test.YtahpijfhoopilaaGreatDoorAccEnv
set_option linter.unusedSectionVars false
set_option linter.unusedVariables false
set_option linter.unusedSimpArgs false
namespace Go.Abs
open Go
def hints : BT (List Nat) := (BT.put (some [11, 12, 13, 14, 15, 4, 3, 16, 17, 18, 19, 20, 21, 22, 23, 24, 25, 26, 27, 28, 29, 30, 31, 32, 33, 34, 35, 36]) 20 (BT.put (some [43, 44, 45, 46, 47, 9, 8, 48, 49, 50, 51, 52, 53, 54, 55, 56, 57, 58]) 20 (BT.put (some [8, 9, 10, 11, 12, 4, 5, 13, 14, 15, 16, 17, 18, 999999]) 20 .nil 115) 154) 205)
/-- commonplace/answer.Of, 153 steps -/
def m0 : Memo where
  pre := []
  args := [(.pointer none), (.agg ⟨[(.chan (some 0)), (.chan (some 1))]⟩)]
  v := (.tuple ⟨[(.agg ⟨[(.int .u64 (.ofNat 0)), (.int .u64 (.ofNat 0)), (.int .u64 (.ofNat 0)), (.int .u64 (.ofNat 0)), (.slice none 0 0)]⟩), (.int .i64 (.ofNat 1))]⟩)
  xs := []
noncomputable def cons1 : BT Con := addTo cons0 18 m0
/-- commonplace/answer.Of, 153 steps -/
def m1 : Memo where
  pre := [([(.pointer none), (.pointer none), (.slice none 0 0)], 57)]
  args := [(.pointer (some ⟨0, 0, none⟩)), (.agg ⟨[(.chan (some 0)), (.chan (some 1))]⟩)]
  v := (.tuple ⟨[(.agg ⟨[(.int .u64 (.ofNat 0)), (.int .u64 (.ofNat 0)), (.int .u64 (.ofNat 0)), (.int .u64 (.ofNat 0)), (.slice none 0 0)]⟩), (.int .i64 (.ofNat 1))]⟩)
  xs := []
noncomputable def cons2 : BT Con := addTo cons1 18 m1
/-- commonplace/mutator.kinds, 233 steps -/
def m2 : Memo where
  pre := []
  args := []
  v := (.map (some 0))
  xs := [.map [((.int .i64 (.ofNat 7)), (.agg ⟨[(.string (bs [115, 101, 113])), (.slice (some ⟨1, 0, none⟩) 2 2)]⟩), 0), ((.int .i64 (.ofNat 6)), (.agg ⟨[(.string (bs [109, 111, 118, 101])), (.slice (some ⟨2, 0, none⟩) 2 2)]⟩), 0), ((.int .i64 (.ofNat 4)), (.agg ⟨[(.string (bs [99, 97, 115])), (.slice (some ⟨3, 0, none⟩) 3 3)]⟩), 0), ((.int .i64 (.ofNat 3)), (.agg ⟨[(.string (bs [105, 110, 99])), (.slice (some ⟨4, 0, none⟩) 2 2)]⟩), 0), ((.int .i64 (.ofNat 5)), (.agg ⟨[(.string (bs [97, 112, 112, 101, 110, 100])), (.slice (some ⟨5, 0, none⟩) 2 2)]⟩), 0), ((.int .i64 (.ofNat 2)), (.agg ⟨[(.string (bs [100, 101, 108])), (.slice (some ⟨6, 0, none⟩) 1 1)]⟩), 0), ((.int .i64 (.ofNat 1)), (.agg ⟨[(.string (bs [112, 117, 116])), (.slice (some ⟨7, 0, none⟩) 2 2)]⟩), 0)] 7 false, .cells [(.string (bs [100, 111])), (.bool false), (.func (.func 251) ⟨[]⟩ ⟨[]⟩), (.func (.func 252) ⟨[]⟩ ⟨[]⟩), (.func (.func 253) ⟨[]⟩ ⟨[]⟩), (.string (bs [105, 102])), (.bool true), (.func (.func 254) ⟨[]⟩ ⟨[(.pointer (some ⟨8, 0, none⟩))]⟩), (.func (.func 255) ⟨[]⟩ ⟨[(.pointer (some ⟨8, 0, none⟩))]⟩), (.func (.func 256) ⟨[]⟩ ⟨[(.pointer (some ⟨8, 0, none⟩))]⟩)] 248 0, .cells [(.string (bs [102, 114, 111, 109])), (.bool false), (.func (.func 242) ⟨[]⟩ ⟨[(.pointer (some ⟨9, 0, none⟩))]⟩), (.func (.func 243) ⟨[]⟩ ⟨[(.pointer (some ⟨9, 0, none⟩))]⟩), (.func (.func 244) ⟨[]⟩ ⟨[(.pointer (some ⟨9, 0, none⟩))]⟩), (.string (bs [116, 111])), (.bool false), (.func (.func 242) ⟨[]⟩ ⟨[(.pointer (some ⟨10, 0, none⟩))]⟩), (.func (.func 243) ⟨[]⟩ ⟨[(.pointer (some ⟨10, 0, none⟩))]⟩), (.func (.func 244) ⟨[]⟩ ⟨[(.pointer (some ⟨10, 0, none⟩))]⟩)] 248 0, .cells [(.string (bs [105, 115])), (.bool true), (.func (.func 245) ⟨[]⟩ ⟨[(.pointer (some ⟨11, 0, none⟩)), (.pointer (some ⟨12, 0, none⟩))]⟩), (.func (.func 246) ⟨[]⟩ ⟨[(.pointer (some ⟨11, 0, none⟩)), (.pointer (some ⟨12, 0, none⟩))]⟩), (.func (.func 247) ⟨[]⟩ ⟨[(.pointer (some ⟨11, 0, none⟩)), (.pointer (some ⟨12, 0, none⟩))]⟩), (.string (bs [107, 101, 121])), (.bool false), (.func (.func 242) ⟨[]⟩ ⟨[(.pointer (some ⟨13, 0, none⟩))]⟩), (.func (.func 243) ⟨[]⟩ ⟨[(.pointer (some ⟨13, 0, none⟩))]⟩), (.func (.func 244) ⟨[]⟩ ⟨[(.pointer (some ⟨13, 0, none⟩))]⟩), (.string (bs [119, 97, 115])), (.bool true), (.func (.func 245) ⟨[]⟩ ⟨[(.pointer (some ⟨14, 0, none⟩)), (.pointer (some ⟨15, 0, none⟩))]⟩), (.func (.func 246) ⟨[]⟩ ⟨[(.pointer (some ⟨14, 0, none⟩)), (.pointer (some ⟨15, 0, none⟩))]⟩), (.func (.func 247) ⟨[]⟩ ⟨[(.pointer (some ⟨14, 0, none⟩)), (.pointer (some ⟨15, 0, none⟩))]⟩)] 248 0, .cells [(.string (bs [98, 121])), (.bool false), (.func (.func 248) ⟨[]⟩ ⟨[]⟩), (.func (.func 249) ⟨[]⟩ ⟨[]⟩), (.func (.func 250) ⟨[]⟩ ⟨[]⟩), (.string (bs [107, 101, 121])), (.bool false), (.func (.func 242) ⟨[]⟩ ⟨[(.pointer (some ⟨13, 0, none⟩))]⟩), (.func (.func 243) ⟨[]⟩ ⟨[(.pointer (some ⟨13, 0, none⟩))]⟩), (.func (.func 244) ⟨[]⟩ ⟨[(.pointer (some ⟨13, 0, none⟩))]⟩)] 248 0, .cells [(.string (bs [107, 101, 121])), (.bool false), (.func (.func 242) ⟨[]⟩ ⟨[(.pointer (some ⟨13, 0, none⟩))]⟩), (.func (.func 243) ⟨[]⟩ ⟨[(.pointer (some ⟨13, 0, none⟩))]⟩), (.func (.func 244) ⟨[]⟩ ⟨[(.pointer (some ⟨13, 0, none⟩))]⟩), (.string (bs [118, 97, 108, 117, 101])), (.bool false), (.func (.func 245) ⟨[]⟩ ⟨[(.pointer (some ⟨16, 0, none⟩)), (.pointer (some ⟨17, 0, none⟩))]⟩), (.func (.func 246) ⟨[]⟩ ⟨[(.pointer (some ⟨16, 0, none⟩)), (.pointer (some ⟨17, 0, none⟩))]⟩), (.func (.func 247) ⟨[]⟩ ⟨[(.pointer (some ⟨16, 0, none⟩)), (.pointer (some ⟨17, 0, none⟩))]⟩)] 248 0, .cells [(.string (bs [107, 101, 121])), (.bool false), (.func (.func 242) ⟨[]⟩ ⟨[(.pointer (some ⟨13, 0, none⟩))]⟩), (.func (.func 243) ⟨[]⟩ ⟨[(.pointer (some ⟨13, 0, none⟩))]⟩), (.func (.func 244) ⟨[]⟩ ⟨[(.pointer (some ⟨13, 0, none⟩))]⟩)] 248 0, .cells [(.string (bs [107, 101, 121])), (.bool false), (.func (.func 242) ⟨[]⟩ ⟨[(.pointer (some ⟨13, 0, none⟩))]⟩), (.func (.func 243) ⟨[]⟩ ⟨[(.pointer (some ⟨13, 0, none⟩))]⟩), (.func (.func 244) ⟨[]⟩ ⟨[(.pointer (some ⟨13, 0, none⟩))]⟩), (.string (bs [118, 97, 108, 117, 101])), (.bool false), (.func (.func 245) ⟨[]⟩ ⟨[(.pointer (some ⟨16, 0, none⟩)), (.pointer (some ⟨17, 0, none⟩))]⟩), (.func (.func 246) ⟨[]⟩ ⟨[(.pointer (some ⟨16, 0, none⟩)), (.pointer (some ⟨17, 0, none⟩))]⟩), (.func (.func 247) ⟨[]⟩ ⟨[(.pointer (some ⟨16, 0, none⟩)), (.pointer (some ⟨17, 0, none⟩))]⟩)] 248 0, .cells [(.bool true), (.func (.func 245) ⟨[]⟩ ⟨[(.pointer (some ⟨18, 0, none⟩)), (.pointer (some ⟨19, 0, none⟩))]⟩), (.func (.func 246) ⟨[]⟩ ⟨[(.pointer (some ⟨18, 0, none⟩)), (.pointer (some ⟨19, 0, none⟩))]⟩), (.func (.func 247) ⟨[]⟩ ⟨[(.pointer (some ⟨18, 0, none⟩)), (.pointer (some ⟨19, 0, none⟩))]⟩)] 246 0, .cells [(.func (.func 181) ⟨[]⟩ ⟨[]⟩)] 304 0, .cells [(.func (.func 188) ⟨[]⟩ ⟨[]⟩)] 304 0, .cells [(.func (.func 183) ⟨[]⟩ ⟨[]⟩)] 306 0, .cells [(.func (.func 185) ⟨[]⟩ ⟨[]⟩)] 308 0, .cells [(.func (.func 181) ⟨[]⟩ ⟨[]⟩)] 304 0, .cells [(.func (.func 186) ⟨[]⟩ ⟨[]⟩)] 306 0, .cells [(.func (.func 187) ⟨[]⟩ ⟨[]⟩)] 308 0, .cells [(.func (.func 183) ⟨[]⟩ ⟨[]⟩)] 306 0, .cells [.nilFunc] 308 0, .cells [(.func (.func 186) ⟨[]⟩ ⟨[]⟩)] 306 0, .cells [(.func (.func 187) ⟨[]⟩ ⟨[]⟩)] 308 0]
noncomputable def cons3 : BT Con := addTo cons2 132 m2
/-- commonplace/utf.Valid, 81 steps -/
def m3 : Memo where
  pre := []
  args := [(.string (bs [97]))]
  v := (.bool true)
  xs := []
noncomputable def cons4 : BT Con := addTo cons3 134 m3
/-- commonplace/utf.Valid, 35 steps -/
def m4 : Memo where
  pre := []
  args := [(.string (bs []))]
  v := (.bool true)
  xs := []
noncomputable def cons5 : BT Con := addTo cons4 134 m4
/-- commonplace/value.May, 138 steps -/
def m5 : Memo where
  pre := []
  args := [(.agg ⟨[(.int .i64 (.ofNat 1)), (.bool false), (.int .i64 (.ofNat 0)), (.string (bs [])), (.slice none 0 0), (.slice none 0 0)]⟩)]
  v := (.int .i64 (.ofNat 0))
  xs := []
noncomputable def cons6 : BT Con := addTo cons5 57 m5
/-- commonplace/encode.text, 159 steps -/
def m6 : Memo where
  pre := []
  args := [(.agg ⟨[(.int .i64 (.ofNat 1)), (.bool false), (.int .i64 (.ofNat 0)), (.string (bs [])), (.slice none 0 0), (.slice none 0 0)]⟩)]
  v := (.string (bs [110, 117, 108, 108]))
  xs := []
noncomputable def cons7 : BT Con := addTo cons6 58 m6
/-- commonplace/encode.Text, 30 steps -/
def m7 : Memo where
  pre := []
  args := [(.agg ⟨[(.int .i64 (.ofNat 1)), (.bool false), (.int .i64 (.ofNat 0)), (.string (bs [])), (.slice none 0 0), (.slice none 0 0)]⟩)]
  v := (.tuple ⟨[(.string (bs [110, 117, 108, 108])), (.int .i64 (.ofNat 0))]⟩)
  xs := []
noncomputable def cons8 : BT Con := addTo cons7 24 m7
/-- commonplace/mutator.May, 941 steps -/
def m8 : Memo where
  pre := []
  args := [(.agg ⟨[(.int .i64 (.ofNat 1)), (.string (bs [97])), (.string (bs [])), (.int .i64 (.ofNat 0)), (.bool false), (.int .i64 (.ofNat 0)), (.bool false), (.int .i64 (.ofNat 0)), (.string (bs [])), (.slice none 0 0), (.slice none 0 0), (.bool false), (.int .i64 (.ofNat 1)), (.bool false), (.int .i64 (.ofNat 0)), (.string (bs [])), (.slice none 0 0), (.slice none 0 0), (.slice none 0 0)]⟩)]
  v := (.int .i64 (.ofNat 0))
  xs := []
noncomputable def cons9 : BT Con := addTo cons8 54 m8
/-- commonplace/utf.Valid, 81 steps -/
def m9 : Memo where
  pre := []
  args := [(.string (bs [98]))]
  v := (.bool true)
  xs := []
noncomputable def cons10 : BT Con := addTo cons9 134 m9
/-- commonplace/mutator.May, 941 steps -/
def m10 : Memo where
  pre := []
  args := [(.agg ⟨[(.int .i64 (.ofNat 1)), (.string (bs [98])), (.string (bs [])), (.int .i64 (.ofNat 0)), (.bool false), (.int .i64 (.ofNat 0)), (.bool false), (.int .i64 (.ofNat 0)), (.string (bs [])), (.slice none 0 0), (.slice none 0 0), (.bool false), (.int .i64 (.ofNat 1)), (.bool false), (.int .i64 (.ofNat 0)), (.string (bs [])), (.slice none 0 0), (.slice none 0 0), (.slice none 0 0)]⟩)]
  v := (.int .i64 (.ofNat 0))
  xs := []
noncomputable def cons11 : BT Con := addTo cons10 54 m10
/-- commonplace/utf.Valid, 81 steps -/
def m11 : Memo where
  pre := []
  args := [(.string (bs [99]))]
  v := (.bool true)
  xs := []
noncomputable def cons12 : BT Con := addTo cons11 134 m11
/-- commonplace/mutator.May, 941 steps -/
def m12 : Memo where
  pre := []
  args := [(.agg ⟨[(.int .i64 (.ofNat 1)), (.string (bs [99])), (.string (bs [])), (.int .i64 (.ofNat 0)), (.bool false), (.int .i64 (.ofNat 0)), (.bool false), (.int .i64 (.ofNat 0)), (.string (bs [])), (.slice none 0 0), (.slice none 0 0), (.bool false), (.int .i64 (.ofNat 1)), (.bool false), (.int .i64 (.ofNat 0)), (.string (bs [])), (.slice none 0 0), (.slice none 0 0), (.slice none 0 0)]⟩)]
  v := (.int .i64 (.ofNat 0))
  xs := []
noncomputable def cons13 : BT Con := addTo cons12 54 m12
/-- commonplace/value.Copy, 98 steps -/
def m13 : Memo where
  pre := []
  args := [(.agg ⟨[(.int .i64 (.ofNat 4)), (.bool false), (.int .i64 (.ofNat 0)), (.string (bs [97])), (.slice none 0 0), (.slice none 0 0)]⟩)]
  v := (.agg ⟨[(.int .i64 (.ofNat 4)), (.bool false), (.int .i64 (.ofNat 0)), (.string (bs [97])), (.slice none 0 0), (.slice none 0 0)]⟩)
  xs := []
noncomputable def cons14 : BT Con := addTo cons13 74 m13
/-- commonplace/value.Copy, 98 steps -/
def m14 : Memo where
  pre := []
  args := [(.agg ⟨[(.int .i64 (.ofNat 1)), (.bool false), (.int .i64 (.ofNat 0)), (.string (bs [])), (.slice none 0 0), (.slice none 0 0)]⟩)]
  v := (.agg ⟨[(.int .i64 (.ofNat 1)), (.bool false), (.int .i64 (.ofNat 0)), (.string (bs [])), (.slice none 0 0), (.slice none 0 0)]⟩)
  xs := []
noncomputable def cons15 : BT Con := addTo cons14 74 m14
/-- commonplace/mutator.Object, 270 steps -/
def m15 : Memo where
  pre := []
  args := [(.agg ⟨[(.int .i64 (.ofNat 1)), (.string (bs [97])), (.string (bs [])), (.int .i64 (.ofNat 0)), (.bool false), (.int .i64 (.ofNat 0)), (.bool false), (.int .i64 (.ofNat 0)), (.string (bs [])), (.slice none 0 0), (.slice none 0 0), (.bool false), (.int .i64 (.ofNat 1)), (.bool false), (.int .i64 (.ofNat 0)), (.string (bs [])), (.slice none 0 0), (.slice none 0 0), (.slice none 0 0)]⟩)]
  v := (.tuple ⟨[(.agg ⟨[(.int .i64 (.ofNat 6)), (.bool false), (.int .i64 (.ofNat 0)), (.string (bs [])), (.slice none 0 0), (.slice (some ⟨0, 0, none⟩) 2 2)]⟩), (.int .i64 (.ofNat 0))]⟩)
  xs := [.cells [(.string (bs [97, 114, 103, 115])), (.int .i64 (.ofNat 6)), (.bool false), (.int .i64 (.ofNat 0)), (.string (bs [])), (.slice none 0 0), (.slice (some ⟨1, 0, none⟩) 2 OPEN), (.string (bs [110, 97, 109, 101])), (.int .i64 (.ofNat 4)), (.bool false), (.int .i64 (.ofNat 0)), (.string (bs [112, 117, 116])), (.slice none 0 0), (.slice none 0 0)] 128 0, .cells [(.string (bs [107, 101, 121])), (.int .i64 (.ofNat 4)), (.bool false), (.int .i64 (.ofNat 0)), (.string (bs [97])), (.slice none 0 0), (.slice none 0 0), (.string (bs [118, 97, 108, 117, 101])), (.int .i64 (.ofNat 1)), (.bool false), (.int .i64 (.ofNat 0)), (.string (bs [])), (.slice none 0 0), (.slice none 0 0)] 128 1]
noncomputable def cons16 : BT Con := addTo cons15 56 m15
/-- commonplace/value.Copy, 98 steps -/
def m16 : Memo where
  pre := []
  args := [(.agg ⟨[(.int .i64 (.ofNat 4)), (.bool false), (.int .i64 (.ofNat 0)), (.string (bs [98])), (.slice none 0 0), (.slice none 0 0)]⟩)]
  v := (.agg ⟨[(.int .i64 (.ofNat 4)), (.bool false), (.int .i64 (.ofNat 0)), (.string (bs [98])), (.slice none 0 0), (.slice none 0 0)]⟩)
  xs := []
noncomputable def cons17 : BT Con := addTo cons16 74 m16
/-- commonplace/mutator.Object, 270 steps -/
def m17 : Memo where
  pre := []
  args := [(.agg ⟨[(.int .i64 (.ofNat 1)), (.string (bs [98])), (.string (bs [])), (.int .i64 (.ofNat 0)), (.bool false), (.int .i64 (.ofNat 0)), (.bool false), (.int .i64 (.ofNat 0)), (.string (bs [])), (.slice none 0 0), (.slice none 0 0), (.bool false), (.int .i64 (.ofNat 1)), (.bool false), (.int .i64 (.ofNat 0)), (.string (bs [])), (.slice none 0 0), (.slice none 0 0), (.slice none 0 0)]⟩)]
  v := (.tuple ⟨[(.agg ⟨[(.int .i64 (.ofNat 6)), (.bool false), (.int .i64 (.ofNat 0)), (.string (bs [])), (.slice none 0 0), (.slice (some ⟨0, 0, none⟩) 2 2)]⟩), (.int .i64 (.ofNat 0))]⟩)
  xs := [.cells [(.string (bs [97, 114, 103, 115])), (.int .i64 (.ofNat 6)), (.bool false), (.int .i64 (.ofNat 0)), (.string (bs [])), (.slice none 0 0), (.slice (some ⟨1, 0, none⟩) 2 OPEN), (.string (bs [110, 97, 109, 101])), (.int .i64 (.ofNat 4)), (.bool false), (.int .i64 (.ofNat 0)), (.string (bs [112, 117, 116])), (.slice none 0 0), (.slice none 0 0)] 128 0, .cells [(.string (bs [107, 101, 121])), (.int .i64 (.ofNat 4)), (.bool false), (.int .i64 (.ofNat 0)), (.string (bs [98])), (.slice none 0 0), (.slice none 0 0), (.string (bs [118, 97, 108, 117, 101])), (.int .i64 (.ofNat 1)), (.bool false), (.int .i64 (.ofNat 0)), (.string (bs [])), (.slice none 0 0), (.slice none 0 0)] 128 1]
noncomputable def cons18 : BT Con := addTo cons17 56 m17
/-- commonplace/value.Copy, 98 steps -/
def m18 : Memo where
  pre := []
  args := [(.agg ⟨[(.int .i64 (.ofNat 4)), (.bool false), (.int .i64 (.ofNat 0)), (.string (bs [99])), (.slice none 0 0), (.slice none 0 0)]⟩)]
  v := (.agg ⟨[(.int .i64 (.ofNat 4)), (.bool false), (.int .i64 (.ofNat 0)), (.string (bs [99])), (.slice none 0 0), (.slice none 0 0)]⟩)
  xs := []
noncomputable def cons19 : BT Con := addTo cons18 74 m18
/-- commonplace/mutator.Object, 270 steps -/
def m19 : Memo where
  pre := []
  args := [(.agg ⟨[(.int .i64 (.ofNat 1)), (.string (bs [99])), (.string (bs [])), (.int .i64 (.ofNat 0)), (.bool false), (.int .i64 (.ofNat 0)), (.bool false), (.int .i64 (.ofNat 0)), (.string (bs [])), (.slice none 0 0), (.slice none 0 0), (.bool false), (.int .i64 (.ofNat 1)), (.bool false), (.int .i64 (.ofNat 0)), (.string (bs [])), (.slice none 0 0), (.slice none 0 0), (.slice none 0 0)]⟩)]
  v := (.tuple ⟨[(.agg ⟨[(.int .i64 (.ofNat 6)), (.bool false), (.int .i64 (.ofNat 0)), (.string (bs [])), (.slice none 0 0), (.slice (some ⟨0, 0, none⟩) 2 2)]⟩), (.int .i64 (.ofNat 0))]⟩)
  xs := [.cells [(.string (bs [97, 114, 103, 115])), (.int .i64 (.ofNat 6)), (.bool false), (.int .i64 (.ofNat 0)), (.string (bs [])), (.slice none 0 0), (.slice (some ⟨1, 0, none⟩) 2 OPEN), (.string (bs [110, 97, 109, 101])), (.int .i64 (.ofNat 4)), (.bool false), (.int .i64 (.ofNat 0)), (.string (bs [112, 117, 116])), (.slice none 0 0), (.slice none 0 0)] 128 0, .cells [(.string (bs [107, 101, 121])), (.int .i64 (.ofNat 4)), (.bool false), (.int .i64 (.ofNat 0)), (.string (bs [99])), (.slice none 0 0), (.slice none 0 0), (.string (bs [118, 97, 108, 117, 101])), (.int .i64 (.ofNat 1)), (.bool false), (.int .i64 (.ofNat 0)), (.string (bs [])), (.slice none 0 0), (.slice none 0 0)] 128 1]
noncomputable def cons20 : BT Con := addTo cons19 56 m19
/-- commonplace/utf.Valid, 311 steps -/
def m20 : Memo where
  pre := []
  args := [(.string (bs [99, 108, 105, 101, 110, 116]))]
  v := (.bool true)
  xs := []
noncomputable def cons21 : BT Con := addTo cons20 134 m20
/-- commonplace/utf.Valid, 219 steps -/
def m21 : Memo where
  pre := []
  args := [(.string (bs [108, 105, 115, 116]))]
  v := (.bool true)
  xs := []
noncomputable def cons22 : BT Con := addTo cons21 134 m21
/-- commonplace/utf.Valid, 127 steps -/
def m22 : Memo where
  pre := []
  args := [(.string (bs [105, 100]))]
  v := (.bool true)
  xs := []
noncomputable def cons23 : BT Con := addTo cons22 134 m22
/-- commonplace/utf.Valid, 357 steps -/
def m23 : Memo where
  pre := []
  args := [(.string (bs [109, 117, 116, 97, 116, 111, 114]))]
  v := (.bool true)
  xs := []
noncomputable def cons24 : BT Con := addTo cons23 134 m23
/-- commonplace/utf.Valid, 219 steps -/
def m24 : Memo where
  pre := []
  args := [(.string (bs [97, 114, 103, 115]))]
  v := (.bool true)
  xs := []
noncomputable def cons25 : BT Con := addTo cons24 134 m24
/-- commonplace/utf.Valid, 173 steps -/
def m25 : Memo where
  pre := []
  args := [(.string (bs [107, 101, 121]))]
  v := (.bool true)
  xs := []
noncomputable def cons26 : BT Con := addTo cons25 134 m25
/-- commonplace/utf.Valid, 265 steps -/
def m26 : Memo where
  pre := []
  args := [(.string (bs [118, 97, 108, 117, 101]))]
  v := (.bool true)
  xs := []
noncomputable def cons27 : BT Con := addTo cons26 134 m26
/-- commonplace/utf.Valid, 219 steps -/
def m27 : Memo where
  pre := []
  args := [(.string (bs [110, 97, 109, 101]))]
  v := (.bool true)
  xs := []
noncomputable def cons28 : BT Con := addTo cons27 134 m27
/-- commonplace/utf.Valid, 173 steps -/
def m28 : Memo where
  pre := []
  args := [(.string (bs [112, 117, 116]))]
  v := (.bool true)
  xs := []
noncomputable def cons29 : BT Con := addTo cons28 134 m28
/-- commonplace/value.May, 5104 steps -/
def m29 : Memo where
  pre := [([(.string (bs [99, 108, 105, 101, 110, 116])), (.int .i64 (.ofNat 3)), (.bool false), (.int .i64 (.ofNat 1)), (.string (bs [])), (.slice none 0 0), (.slice none 0 0), (.string (bs [108, 105, 115, 116])), (.int .i64 (.ofNat 5)), (.bool false), (.int .i64 (.ofNat 0)), (.string (bs [])), (.slice (some ⟨1, 0, none⟩) 3 OPEN), (.slice none 0 0)], 128), ([(.int .i64 (.ofNat 6)), (.bool false), (.int .i64 (.ofNat 0)), (.string (bs [])), (.slice none 0 0), (.slice (some ⟨2, 0, none⟩) 2 2), (.int .i64 (.ofNat 6)), (.bool false), (.int .i64 (.ofNat 0)), (.string (bs [])), (.slice none 0 0), (.slice (some ⟨3, 0, none⟩) 2 2), (.int .i64 (.ofNat 6)), (.bool false), (.int .i64 (.ofNat 0)), (.string (bs [])), (.slice none 0 0), (.slice (some ⟨4, 0, none⟩) 2 2)], 29), ([(.string (bs [105, 100])), (.int .i64 (.ofNat 3)), (.bool false), (.int .i64 (.ofNat 1)), (.string (bs [])), (.slice none 0 0), (.slice none 0 0), (.string (bs [109, 117, 116, 97, 116, 111, 114])), (.int .i64 (.ofNat 6)), (.bool false), (.int .i64 (.ofNat 0)), (.string (bs [])), (.slice none 0 0), (.slice (some ⟨5, 0, none⟩) 2 2)], 128), ([(.string (bs [105, 100])), (.int .i64 (.ofNat 3)), (.bool false), (.int .i64 (.ofNat 2)), (.string (bs [])), (.slice none 0 0), (.slice none 0 0), (.string (bs [109, 117, 116, 97, 116, 111, 114])), (.int .i64 (.ofNat 6)), (.bool false), (.int .i64 (.ofNat 0)), (.string (bs [])), (.slice none 0 0), (.slice (some ⟨6, 0, none⟩) 2 2)], 128), ([(.string (bs [105, 100])), (.int .i64 (.ofNat 3)), (.bool false), (.int .i64 (.ofNat 3)), (.string (bs [])), (.slice none 0 0), (.slice none 0 0), (.string (bs [109, 117, 116, 97, 116, 111, 114])), (.int .i64 (.ofNat 6)), (.bool false), (.int .i64 (.ofNat 0)), (.string (bs [])), (.slice none 0 0), (.slice (some ⟨7, 0, none⟩) 2 2)], 128), ([(.string (bs [97, 114, 103, 115])), (.int .i64 (.ofNat 6)), (.bool false), (.int .i64 (.ofNat 0)), (.string (bs [])), (.slice none 0 0), (.slice (some ⟨8, 0, none⟩) 2 OPEN), (.string (bs [110, 97, 109, 101])), (.int .i64 (.ofNat 4)), (.bool false), (.int .i64 (.ofNat 0)), (.string (bs [112, 117, 116])), (.slice none 0 0), (.slice none 0 0)], 128), ([(.string (bs [97, 114, 103, 115])), (.int .i64 (.ofNat 6)), (.bool false), (.int .i64 (.ofNat 0)), (.string (bs [])), (.slice none 0 0), (.slice (some ⟨9, 0, none⟩) 2 OPEN), (.string (bs [110, 97, 109, 101])), (.int .i64 (.ofNat 4)), (.bool false), (.int .i64 (.ofNat 0)), (.string (bs [112, 117, 116])), (.slice none 0 0), (.slice none 0 0)], 128), ([(.string (bs [97, 114, 103, 115])), (.int .i64 (.ofNat 6)), (.bool false), (.int .i64 (.ofNat 0)), (.string (bs [])), (.slice none 0 0), (.slice (some ⟨10, 0, none⟩) 2 OPEN), (.string (bs [110, 97, 109, 101])), (.int .i64 (.ofNat 4)), (.bool false), (.int .i64 (.ofNat 0)), (.string (bs [112, 117, 116])), (.slice none 0 0), (.slice none 0 0)], 128), ([(.string (bs [107, 101, 121])), (.int .i64 (.ofNat 4)), (.bool false), (.int .i64 (.ofNat 0)), (.string (bs [97])), (.slice none 0 0), (.slice none 0 0), (.string (bs [118, 97, 108, 117, 101])), (.int .i64 (.ofNat 1)), (.bool false), (.int .i64 (.ofNat 0)), (.string (bs [])), (.slice none 0 0), (.slice none 0 0)], 128), ([(.string (bs [107, 101, 121])), (.int .i64 (.ofNat 4)), (.bool false), (.int .i64 (.ofNat 0)), (.string (bs [98])), (.slice none 0 0), (.slice none 0 0), (.string (bs [118, 97, 108, 117, 101])), (.int .i64 (.ofNat 1)), (.bool false), (.int .i64 (.ofNat 0)), (.string (bs [])), (.slice none 0 0), (.slice none 0 0)], 128), ([(.string (bs [107, 101, 121])), (.int .i64 (.ofNat 4)), (.bool false), (.int .i64 (.ofNat 0)), (.string (bs [99])), (.slice none 0 0), (.slice none 0 0), (.string (bs [118, 97, 108, 117, 101])), (.int .i64 (.ofNat 1)), (.bool false), (.int .i64 (.ofNat 0)), (.string (bs [])), (.slice none 0 0), (.slice none 0 0)], 128)]
  args := [(.agg ⟨[(.int .i64 (.ofNat 6)), (.bool false), (.int .i64 (.ofNat 0)), (.string (bs [])), (.slice none 0 0), (.slice (some ⟨0, 0, none⟩) 2 2)]⟩)]
  v := (.int .i64 (.ofNat 0))
  xs := []
noncomputable def cons30 : BT Con := addTo cons29 57 m29
/-- commonplace/utf.Quote, 1455 steps -/
def m30 : Memo where
  pre := []
  args := [(.string (bs [99, 108, 105, 101, 110, 116]))]
  v := (.tuple ⟨[(.string (bs [34, 99, 108, 105, 101, 110, 116, 34])), (.int .i64 (.ofNat 0))]⟩)
  xs := []
noncomputable def cons31 : BT Con := addTo cons30 103 m30
/-- strconv.FormatInt, 65 steps -/
def m31 : Memo where
  pre := []
  args := [(.int .i64 (.ofNat 1)), (.int .i64 (.ofNat 10))]
  v := (.string (bs [49]))
  xs := []
noncomputable def cons32 : BT Con := addTo cons31 102 m31
/-- commonplace/encode.text, 174 steps -/
def m32 : Memo where
  pre := []
  args := [(.agg ⟨[(.int .i64 (.ofNat 3)), (.bool false), (.int .i64 (.ofNat 1)), (.string (bs [])), (.slice none 0 0), (.slice none 0 0)]⟩)]
  v := (.string (bs [49]))
  xs := []
noncomputable def cons33 : BT Con := addTo cons32 58 m32
/-- commonplace/utf.Quote, 1045 steps -/
def m33 : Memo where
  pre := []
  args := [(.string (bs [108, 105, 115, 116]))]
  v := (.tuple ⟨[(.string (bs [34, 108, 105, 115, 116, 34])), (.int .i64 (.ofNat 0))]⟩)
  xs := []
noncomputable def cons34 : BT Con := addTo cons33 103 m33
/-- commonplace/utf.Quote, 635 steps -/
def m34 : Memo where
  pre := []
  args := [(.string (bs [105, 100]))]
  v := (.tuple ⟨[(.string (bs [34, 105, 100, 34])), (.int .i64 (.ofNat 0))]⟩)
  xs := []
noncomputable def cons35 : BT Con := addTo cons34 103 m34
/-- commonplace/utf.Quote, 1660 steps -/
def m35 : Memo where
  pre := []
  args := [(.string (bs [109, 117, 116, 97, 116, 111, 114]))]
  v := (.tuple ⟨[(.string (bs [34, 109, 117, 116, 97, 116, 111, 114, 34])), (.int .i64 (.ofNat 0))]⟩)
  xs := []
noncomputable def cons36 : BT Con := addTo cons35 103 m35
/-- commonplace/utf.Quote, 1045 steps -/
def m36 : Memo where
  pre := []
  args := [(.string (bs [97, 114, 103, 115]))]
  v := (.tuple ⟨[(.string (bs [34, 97, 114, 103, 115, 34])), (.int .i64 (.ofNat 0))]⟩)
  xs := []
noncomputable def cons37 : BT Con := addTo cons36 103 m36
/-- commonplace/utf.Quote, 840 steps -/
def m37 : Memo where
  pre := []
  args := [(.string (bs [107, 101, 121]))]
  v := (.tuple ⟨[(.string (bs [34, 107, 101, 121, 34])), (.int .i64 (.ofNat 0))]⟩)
  xs := []
noncomputable def cons38 : BT Con := addTo cons37 103 m37
/-- commonplace/utf.Quote, 430 steps -/
def m38 : Memo where
  pre := []
  args := [(.string (bs [97]))]
  v := (.tuple ⟨[(.string (bs [34, 97, 34])), (.int .i64 (.ofNat 0))]⟩)
  xs := []
noncomputable def cons39 : BT Con := addTo cons38 103 m38
/-- commonplace/encode.text, 189 steps -/
def m39 : Memo where
  pre := []
  args := [(.agg ⟨[(.int .i64 (.ofNat 4)), (.bool false), (.int .i64 (.ofNat 0)), (.string (bs [97])), (.slice none 0 0), (.slice none 0 0)]⟩)]
  v := (.string (bs [34, 97, 34]))
  xs := []
noncomputable def cons40 : BT Con := addTo cons39 58 m39
/-- commonplace/utf.Quote, 1250 steps -/
def m40 : Memo where
  pre := []
  args := [(.string (bs [118, 97, 108, 117, 101]))]
  v := (.tuple ⟨[(.string (bs [34, 118, 97, 108, 117, 101, 34])), (.int .i64 (.ofNat 0))]⟩)
  xs := []
noncomputable def cons41 : BT Con := addTo cons40 103 m40
/-- commonplace/encode.text, 1071 steps -/
def m41 : Memo where
  pre := [([(.string (bs [107, 101, 121])), (.int .i64 (.ofNat 4)), (.bool false), (.int .i64 (.ofNat 0)), (.string (bs [97])), (.slice none 0 0), (.slice none 0 0), (.string (bs [118, 97, 108, 117, 101])), (.int .i64 (.ofNat 1)), (.bool false), (.int .i64 (.ofNat 0)), (.string (bs [])), (.slice none 0 0), (.slice none 0 0)], 128)]
  args := [(.agg ⟨[(.int .i64 (.ofNat 6)), (.bool false), (.int .i64 (.ofNat 0)), (.string (bs [])), (.slice none 0 0), (.slice (some ⟨0, 0, none⟩) 2 OPEN)]⟩)]
  v := (.string (bs [123, 34, 107, 101, 121, 34, 58, 34, 97, 34, 44, 34, 118, 97, 108, 117, 101, 34, 58, 110, 117, 108, 108, 125]))
  xs := []
noncomputable def cons42 : BT Con := addTo cons41 58 m41
/-- commonplace/utf.Quote, 1045 steps -/
def m42 : Memo where
  pre := []
  args := [(.string (bs [110, 97, 109, 101]))]
  v := (.tuple ⟨[(.string (bs [34, 110, 97, 109, 101, 34])), (.int .i64 (.ofNat 0))]⟩)
  xs := []
noncomputable def cons43 : BT Con := addTo cons42 103 m42
/-- commonplace/utf.Quote, 840 steps -/
def m43 : Memo where
  pre := []
  args := [(.string (bs [112, 117, 116]))]
  v := (.tuple ⟨[(.string (bs [34, 112, 117, 116, 34])), (.int .i64 (.ofNat 0))]⟩)
  xs := []
noncomputable def cons44 : BT Con := addTo cons43 103 m43
/-- commonplace/encode.text, 189 steps -/
def m44 : Memo where
  pre := []
  args := [(.agg ⟨[(.int .i64 (.ofNat 4)), (.bool false), (.int .i64 (.ofNat 0)), (.string (bs [112, 117, 116])), (.slice none 0 0), (.slice none 0 0)]⟩)]
  v := (.string (bs [34, 112, 117, 116, 34]))
  xs := []
noncomputable def cons45 : BT Con := addTo cons44 58 m44
/-- commonplace/encode.text, 1071 steps -/
def m45 : Memo where
  pre := [([(.string (bs [97, 114, 103, 115])), (.int .i64 (.ofNat 6)), (.bool false), (.int .i64 (.ofNat 0)), (.string (bs [])), (.slice none 0 0), (.slice (some ⟨1, 0, none⟩) 2 OPEN), (.string (bs [110, 97, 109, 101])), (.int .i64 (.ofNat 4)), (.bool false), (.int .i64 (.ofNat 0)), (.string (bs [112, 117, 116])), (.slice none 0 0), (.slice none 0 0)], 128), ([(.string (bs [107, 101, 121])), (.int .i64 (.ofNat 4)), (.bool false), (.int .i64 (.ofNat 0)), (.string (bs [97])), (.slice none 0 0), (.slice none 0 0), (.string (bs [118, 97, 108, 117, 101])), (.int .i64 (.ofNat 1)), (.bool false), (.int .i64 (.ofNat 0)), (.string (bs [])), (.slice none 0 0), (.slice none 0 0)], 128)]
  args := [(.agg ⟨[(.int .i64 (.ofNat 6)), (.bool false), (.int .i64 (.ofNat 0)), (.string (bs [])), (.slice none 0 0), (.slice (some ⟨0, 0, none⟩) 2 2)]⟩)]
  v := (.string (bs [123, 34, 97, 114, 103, 115, 34, 58, 123, 34, 107, 101, 121, 34, 58, 34, 97, 34, 44, 34, 118, 97, 108, 117, 101, 34, 58, 110, 117, 108, 108, 125, 44, 34, 110, 97, 109, 101, 34, 58, 34, 112, 117, 116, 34, 125]))
  xs := []
noncomputable def cons46 : BT Con := addTo cons45 58 m45
/-- commonplace/encode.text, 1071 steps -/
def m46 : Memo where
  pre := [([(.string (bs [105, 100])), (.int .i64 (.ofNat 3)), (.bool false), (.int .i64 (.ofNat 1)), (.string (bs [])), (.slice none 0 0), (.slice none 0 0), (.string (bs [109, 117, 116, 97, 116, 111, 114])), (.int .i64 (.ofNat 6)), (.bool false), (.int .i64 (.ofNat 0)), (.string (bs [])), (.slice none 0 0), (.slice (some ⟨1, 0, none⟩) 2 2)], 128), ([(.string (bs [97, 114, 103, 115])), (.int .i64 (.ofNat 6)), (.bool false), (.int .i64 (.ofNat 0)), (.string (bs [])), (.slice none 0 0), (.slice (some ⟨2, 0, none⟩) 2 OPEN), (.string (bs [110, 97, 109, 101])), (.int .i64 (.ofNat 4)), (.bool false), (.int .i64 (.ofNat 0)), (.string (bs [112, 117, 116])), (.slice none 0 0), (.slice none 0 0)], 128), ([(.string (bs [107, 101, 121])), (.int .i64 (.ofNat 4)), (.bool false), (.int .i64 (.ofNat 0)), (.string (bs [97])), (.slice none 0 0), (.slice none 0 0), (.string (bs [118, 97, 108, 117, 101])), (.int .i64 (.ofNat 1)), (.bool false), (.int .i64 (.ofNat 0)), (.string (bs [])), (.slice none 0 0), (.slice none 0 0)], 128)]
  args := [(.agg ⟨[(.int .i64 (.ofNat 6)), (.bool false), (.int .i64 (.ofNat 0)), (.string (bs [])), (.slice none 0 0), (.slice (some ⟨0, 0, none⟩) 2 2)]⟩)]
  v := (.string (bs [123, 34, 105, 100, 34, 58, 49, 44, 34, 109, 117, 116, 97, 116, 111, 114, 34, 58, 123, 34, 97, 114, 103, 115, 34, 58, 123, 34, 107, 101, 121, 34, 58, 34, 97, 34, 44, 34, 118, 97, 108, 117, 101, 34, 58, 110, 117, 108, 108, 125, 44, 34, 110, 97, 109, 101, 34, 58, 34, 112, 117, 116, 34, 125, 125]))
  xs := []
noncomputable def cons47 : BT Con := addTo cons46 58 m46
/-- strconv.FormatInt, 65 steps -/
def m47 : Memo where
  pre := []
  args := [(.int .i64 (.ofNat 2)), (.int .i64 (.ofNat 10))]
  v := (.string (bs [50]))
  xs := []
noncomputable def cons48 : BT Con := addTo cons47 102 m47
/-- commonplace/encode.text, 174 steps -/
def m48 : Memo where
  pre := []
  args := [(.agg ⟨[(.int .i64 (.ofNat 3)), (.bool false), (.int .i64 (.ofNat 2)), (.string (bs [])), (.slice none 0 0), (.slice none 0 0)]⟩)]
  v := (.string (bs [50]))
  xs := []
noncomputable def cons49 : BT Con := addTo cons48 58 m48
/-- commonplace/utf.Quote, 430 steps -/
def m49 : Memo where
  pre := []
  args := [(.string (bs [98]))]
  v := (.tuple ⟨[(.string (bs [34, 98, 34])), (.int .i64 (.ofNat 0))]⟩)
  xs := []
noncomputable def cons50 : BT Con := addTo cons49 103 m49
/-- commonplace/encode.text, 189 steps -/
def m50 : Memo where
  pre := []
  args := [(.agg ⟨[(.int .i64 (.ofNat 4)), (.bool false), (.int .i64 (.ofNat 0)), (.string (bs [98])), (.slice none 0 0), (.slice none 0 0)]⟩)]
  v := (.string (bs [34, 98, 34]))
  xs := []
noncomputable def cons51 : BT Con := addTo cons50 58 m50
/-- commonplace/encode.text, 1071 steps -/
def m51 : Memo where
  pre := [([(.string (bs [107, 101, 121])), (.int .i64 (.ofNat 4)), (.bool false), (.int .i64 (.ofNat 0)), (.string (bs [98])), (.slice none 0 0), (.slice none 0 0), (.string (bs [118, 97, 108, 117, 101])), (.int .i64 (.ofNat 1)), (.bool false), (.int .i64 (.ofNat 0)), (.string (bs [])), (.slice none 0 0), (.slice none 0 0)], 128)]
  args := [(.agg ⟨[(.int .i64 (.ofNat 6)), (.bool false), (.int .i64 (.ofNat 0)), (.string (bs [])), (.slice none 0 0), (.slice (some ⟨0, 0, none⟩) 2 OPEN)]⟩)]
  v := (.string (bs [123, 34, 107, 101, 121, 34, 58, 34, 98, 34, 44, 34, 118, 97, 108, 117, 101, 34, 58, 110, 117, 108, 108, 125]))
  xs := []
noncomputable def cons52 : BT Con := addTo cons51 58 m51
/-- commonplace/encode.text, 1071 steps -/
def m52 : Memo where
  pre := [([(.string (bs [97, 114, 103, 115])), (.int .i64 (.ofNat 6)), (.bool false), (.int .i64 (.ofNat 0)), (.string (bs [])), (.slice none 0 0), (.slice (some ⟨1, 0, none⟩) 2 OPEN), (.string (bs [110, 97, 109, 101])), (.int .i64 (.ofNat 4)), (.bool false), (.int .i64 (.ofNat 0)), (.string (bs [112, 117, 116])), (.slice none 0 0), (.slice none 0 0)], 128), ([(.string (bs [107, 101, 121])), (.int .i64 (.ofNat 4)), (.bool false), (.int .i64 (.ofNat 0)), (.string (bs [98])), (.slice none 0 0), (.slice none 0 0), (.string (bs [118, 97, 108, 117, 101])), (.int .i64 (.ofNat 1)), (.bool false), (.int .i64 (.ofNat 0)), (.string (bs [])), (.slice none 0 0), (.slice none 0 0)], 128)]
  args := [(.agg ⟨[(.int .i64 (.ofNat 6)), (.bool false), (.int .i64 (.ofNat 0)), (.string (bs [])), (.slice none 0 0), (.slice (some ⟨0, 0, none⟩) 2 2)]⟩)]
  v := (.string (bs [123, 34, 97, 114, 103, 115, 34, 58, 123, 34, 107, 101, 121, 34, 58, 34, 98, 34, 44, 34, 118, 97, 108, 117, 101, 34, 58, 110, 117, 108, 108, 125, 44, 34, 110, 97, 109, 101, 34, 58, 34, 112, 117, 116, 34, 125]))
  xs := []
noncomputable def cons53 : BT Con := addTo cons52 58 m52
/-- commonplace/encode.text, 1071 steps -/
def m53 : Memo where
  pre := [([(.string (bs [105, 100])), (.int .i64 (.ofNat 3)), (.bool false), (.int .i64 (.ofNat 2)), (.string (bs [])), (.slice none 0 0), (.slice none 0 0), (.string (bs [109, 117, 116, 97, 116, 111, 114])), (.int .i64 (.ofNat 6)), (.bool false), (.int .i64 (.ofNat 0)), (.string (bs [])), (.slice none 0 0), (.slice (some ⟨1, 0, none⟩) 2 2)], 128), ([(.string (bs [97, 114, 103, 115])), (.int .i64 (.ofNat 6)), (.bool false), (.int .i64 (.ofNat 0)), (.string (bs [])), (.slice none 0 0), (.slice (some ⟨2, 0, none⟩) 2 OPEN), (.string (bs [110, 97, 109, 101])), (.int .i64 (.ofNat 4)), (.bool false), (.int .i64 (.ofNat 0)), (.string (bs [112, 117, 116])), (.slice none 0 0), (.slice none 0 0)], 128), ([(.string (bs [107, 101, 121])), (.int .i64 (.ofNat 4)), (.bool false), (.int .i64 (.ofNat 0)), (.string (bs [98])), (.slice none 0 0), (.slice none 0 0), (.string (bs [118, 97, 108, 117, 101])), (.int .i64 (.ofNat 1)), (.bool false), (.int .i64 (.ofNat 0)), (.string (bs [])), (.slice none 0 0), (.slice none 0 0)], 128)]
  args := [(.agg ⟨[(.int .i64 (.ofNat 6)), (.bool false), (.int .i64 (.ofNat 0)), (.string (bs [])), (.slice none 0 0), (.slice (some ⟨0, 0, none⟩) 2 2)]⟩)]
  v := (.string (bs [123, 34, 105, 100, 34, 58, 50, 44, 34, 109, 117, 116, 97, 116, 111, 114, 34, 58, 123, 34, 97, 114, 103, 115, 34, 58, 123, 34, 107, 101, 121, 34, 58, 34, 98, 34, 44, 34, 118, 97, 108, 117, 101, 34, 58, 110, 117, 108, 108, 125, 44, 34, 110, 97, 109, 101, 34, 58, 34, 112, 117, 116, 34, 125, 125]))
  xs := []
noncomputable def cons54 : BT Con := addTo cons53 58 m53
/-- strconv.FormatInt, 65 steps -/
def m54 : Memo where
  pre := []
  args := [(.int .i64 (.ofNat 3)), (.int .i64 (.ofNat 10))]
  v := (.string (bs [51]))
  xs := []
noncomputable def cons55 : BT Con := addTo cons54 102 m54
/-- commonplace/encode.text, 174 steps -/
def m55 : Memo where
  pre := []
  args := [(.agg ⟨[(.int .i64 (.ofNat 3)), (.bool false), (.int .i64 (.ofNat 3)), (.string (bs [])), (.slice none 0 0), (.slice none 0 0)]⟩)]
  v := (.string (bs [51]))
  xs := []
noncomputable def cons56 : BT Con := addTo cons55 58 m55
/-- commonplace/utf.Quote, 430 steps -/
def m56 : Memo where
  pre := []
  args := [(.string (bs [99]))]
  v := (.tuple ⟨[(.string (bs [34, 99, 34])), (.int .i64 (.ofNat 0))]⟩)
  xs := []
noncomputable def cons57 : BT Con := addTo cons56 103 m56
/-- commonplace/encode.text, 189 steps -/
def m57 : Memo where
  pre := []
  args := [(.agg ⟨[(.int .i64 (.ofNat 4)), (.bool false), (.int .i64 (.ofNat 0)), (.string (bs [99])), (.slice none 0 0), (.slice none 0 0)]⟩)]
  v := (.string (bs [34, 99, 34]))
  xs := []
noncomputable def cons58 : BT Con := addTo cons57 58 m57
/-- commonplace/encode.text, 1071 steps -/
def m58 : Memo where
  pre := [([(.string (bs [107, 101, 121])), (.int .i64 (.ofNat 4)), (.bool false), (.int .i64 (.ofNat 0)), (.string (bs [99])), (.slice none 0 0), (.slice none 0 0), (.string (bs [118, 97, 108, 117, 101])), (.int .i64 (.ofNat 1)), (.bool false), (.int .i64 (.ofNat 0)), (.string (bs [])), (.slice none 0 0), (.slice none 0 0)], 128)]
  args := [(.agg ⟨[(.int .i64 (.ofNat 6)), (.bool false), (.int .i64 (.ofNat 0)), (.string (bs [])), (.slice none 0 0), (.slice (some ⟨0, 0, none⟩) 2 OPEN)]⟩)]
  v := (.string (bs [123, 34, 107, 101, 121, 34, 58, 34, 99, 34, 44, 34, 118, 97, 108, 117, 101, 34, 58, 110, 117, 108, 108, 125]))
  xs := []
noncomputable def cons59 : BT Con := addTo cons58 58 m58
/-- commonplace/encode.text, 1071 steps -/
def m59 : Memo where
  pre := [([(.string (bs [97, 114, 103, 115])), (.int .i64 (.ofNat 6)), (.bool false), (.int .i64 (.ofNat 0)), (.string (bs [])), (.slice none 0 0), (.slice (some ⟨1, 0, none⟩) 2 OPEN), (.string (bs [110, 97, 109, 101])), (.int .i64 (.ofNat 4)), (.bool false), (.int .i64 (.ofNat 0)), (.string (bs [112, 117, 116])), (.slice none 0 0), (.slice none 0 0)], 128), ([(.string (bs [107, 101, 121])), (.int .i64 (.ofNat 4)), (.bool false), (.int .i64 (.ofNat 0)), (.string (bs [99])), (.slice none 0 0), (.slice none 0 0), (.string (bs [118, 97, 108, 117, 101])), (.int .i64 (.ofNat 1)), (.bool false), (.int .i64 (.ofNat 0)), (.string (bs [])), (.slice none 0 0), (.slice none 0 0)], 128)]
  args := [(.agg ⟨[(.int .i64 (.ofNat 6)), (.bool false), (.int .i64 (.ofNat 0)), (.string (bs [])), (.slice none 0 0), (.slice (some ⟨0, 0, none⟩) 2 2)]⟩)]
  v := (.string (bs [123, 34, 97, 114, 103, 115, 34, 58, 123, 34, 107, 101, 121, 34, 58, 34, 99, 34, 44, 34, 118, 97, 108, 117, 101, 34, 58, 110, 117, 108, 108, 125, 44, 34, 110, 97, 109, 101, 34, 58, 34, 112, 117, 116, 34, 125]))
  xs := []
noncomputable def cons60 : BT Con := addTo cons59 58 m59
/-- commonplace/encode.text, 1071 steps -/
def m60 : Memo where
  pre := [([(.string (bs [105, 100])), (.int .i64 (.ofNat 3)), (.bool false), (.int .i64 (.ofNat 3)), (.string (bs [])), (.slice none 0 0), (.slice none 0 0), (.string (bs [109, 117, 116, 97, 116, 111, 114])), (.int .i64 (.ofNat 6)), (.bool false), (.int .i64 (.ofNat 0)), (.string (bs [])), (.slice none 0 0), (.slice (some ⟨1, 0, none⟩) 2 2)], 128), ([(.string (bs [97, 114, 103, 115])), (.int .i64 (.ofNat 6)), (.bool false), (.int .i64 (.ofNat 0)), (.string (bs [])), (.slice none 0 0), (.slice (some ⟨2, 0, none⟩) 2 OPEN), (.string (bs [110, 97, 109, 101])), (.int .i64 (.ofNat 4)), (.bool false), (.int .i64 (.ofNat 0)), (.string (bs [112, 117, 116])), (.slice none 0 0), (.slice none 0 0)], 128), ([(.string (bs [107, 101, 121])), (.int .i64 (.ofNat 4)), (.bool false), (.int .i64 (.ofNat 0)), (.string (bs [99])), (.slice none 0 0), (.slice none 0 0), (.string (bs [118, 97, 108, 117, 101])), (.int .i64 (.ofNat 1)), (.bool false), (.int .i64 (.ofNat 0)), (.string (bs [])), (.slice none 0 0), (.slice none 0 0)], 128)]
  args := [(.agg ⟨[(.int .i64 (.ofNat 6)), (.bool false), (.int .i64 (.ofNat 0)), (.string (bs [])), (.slice none 0 0), (.slice (some ⟨0, 0, none⟩) 2 2)]⟩)]
  v := (.string (bs [123, 34, 105, 100, 34, 58, 51, 44, 34, 109, 117, 116, 97, 116, 111, 114, 34, 58, 123, 34, 97, 114, 103, 115, 34, 58, 123, 34, 107, 101, 121, 34, 58, 34, 99, 34, 44, 34, 118, 97, 108, 117, 101, 34, 58, 110, 117, 108, 108, 125, 44, 34, 110, 97, 109, 101, 34, 58, 34, 112, 117, 116, 34, 125, 125]))
  xs := []
noncomputable def cons61 : BT Con := addTo cons60 58 m60
/-- commonplace/encode.text, 1258 steps -/
def m61 : Memo where
  pre := [([(.int .i64 (.ofNat 6)), (.bool false), (.int .i64 (.ofNat 0)), (.string (bs [])), (.slice none 0 0), (.slice (some ⟨1, 0, none⟩) 2 2), (.int .i64 (.ofNat 6)), (.bool false), (.int .i64 (.ofNat 0)), (.string (bs [])), (.slice none 0 0), (.slice (some ⟨2, 0, none⟩) 2 2), (.int .i64 (.ofNat 6)), (.bool false), (.int .i64 (.ofNat 0)), (.string (bs [])), (.slice none 0 0), (.slice (some ⟨3, 0, none⟩) 2 2)], 29), ([(.string (bs [105, 100])), (.int .i64 (.ofNat 3)), (.bool false), (.int .i64 (.ofNat 1)), (.string (bs [])), (.slice none 0 0), (.slice none 0 0), (.string (bs [109, 117, 116, 97, 116, 111, 114])), (.int .i64 (.ofNat 6)), (.bool false), (.int .i64 (.ofNat 0)), (.string (bs [])), (.slice none 0 0), (.slice (some ⟨4, 0, none⟩) 2 2)], 128), ([(.string (bs [105, 100])), (.int .i64 (.ofNat 3)), (.bool false), (.int .i64 (.ofNat 2)), (.string (bs [])), (.slice none 0 0), (.slice none 0 0), (.string (bs [109, 117, 116, 97, 116, 111, 114])), (.int .i64 (.ofNat 6)), (.bool false), (.int .i64 (.ofNat 0)), (.string (bs [])), (.slice none 0 0), (.slice (some ⟨5, 0, none⟩) 2 2)], 128), ([(.string (bs [105, 100])), (.int .i64 (.ofNat 3)), (.bool false), (.int .i64 (.ofNat 3)), (.string (bs [])), (.slice none 0 0), (.slice none 0 0), (.string (bs [109, 117, 116, 97, 116, 111, 114])), (.int .i64 (.ofNat 6)), (.bool false), (.int .i64 (.ofNat 0)), (.string (bs [])), (.slice none 0 0), (.slice (some ⟨6, 0, none⟩) 2 2)], 128), ([(.string (bs [97, 114, 103, 115])), (.int .i64 (.ofNat 6)), (.bool false), (.int .i64 (.ofNat 0)), (.string (bs [])), (.slice none 0 0), (.slice (some ⟨7, 0, none⟩) 2 OPEN), (.string (bs [110, 97, 109, 101])), (.int .i64 (.ofNat 4)), (.bool false), (.int .i64 (.ofNat 0)), (.string (bs [112, 117, 116])), (.slice none 0 0), (.slice none 0 0)], 128), ([(.string (bs [97, 114, 103, 115])), (.int .i64 (.ofNat 6)), (.bool false), (.int .i64 (.ofNat 0)), (.string (bs [])), (.slice none 0 0), (.slice (some ⟨8, 0, none⟩) 2 OPEN), (.string (bs [110, 97, 109, 101])), (.int .i64 (.ofNat 4)), (.bool false), (.int .i64 (.ofNat 0)), (.string (bs [112, 117, 116])), (.slice none 0 0), (.slice none 0 0)], 128), ([(.string (bs [97, 114, 103, 115])), (.int .i64 (.ofNat 6)), (.bool false), (.int .i64 (.ofNat 0)), (.string (bs [])), (.slice none 0 0), (.slice (some ⟨9, 0, none⟩) 2 OPEN), (.string (bs [110, 97, 109, 101])), (.int .i64 (.ofNat 4)), (.bool false), (.int .i64 (.ofNat 0)), (.string (bs [112, 117, 116])), (.slice none 0 0), (.slice none 0 0)], 128), ([(.string (bs [107, 101, 121])), (.int .i64 (.ofNat 4)), (.bool false), (.int .i64 (.ofNat 0)), (.string (bs [97])), (.slice none 0 0), (.slice none 0 0), (.string (bs [118, 97, 108, 117, 101])), (.int .i64 (.ofNat 1)), (.bool false), (.int .i64 (.ofNat 0)), (.string (bs [])), (.slice none 0 0), (.slice none 0 0)], 128), ([(.string (bs [107, 101, 121])), (.int .i64 (.ofNat 4)), (.bool false), (.int .i64 (.ofNat 0)), (.string (bs [98])), (.slice none 0 0), (.slice none 0 0), (.string (bs [118, 97, 108, 117, 101])), (.int .i64 (.ofNat 1)), (.bool false), (.int .i64 (.ofNat 0)), (.string (bs [])), (.slice none 0 0), (.slice none 0 0)], 128), ([(.string (bs [107, 101, 121])), (.int .i64 (.ofNat 4)), (.bool false), (.int .i64 (.ofNat 0)), (.string (bs [99])), (.slice none 0 0), (.slice none 0 0), (.string (bs [118, 97, 108, 117, 101])), (.int .i64 (.ofNat 1)), (.bool false), (.int .i64 (.ofNat 0)), (.string (bs [])), (.slice none 0 0), (.slice none 0 0)], 128)]
  args := [(.agg ⟨[(.int .i64 (.ofNat 5)), (.bool false), (.int .i64 (.ofNat 0)), (.string (bs [])), (.slice (some ⟨0, 0, none⟩) 3 OPEN), (.slice none 0 0)]⟩)]
  v := (.string (bs [91, 123, 34, 105, 100, 34, 58, 49, 44, 34, 109, 117, 116, 97, 116, 111, 114, 34, 58, 123, 34, 97, 114, 103, 115, 34, 58, 123, 34, 107, 101, 121, 34, 58, 34, 97, 34, 44, 34, 118, 97, 108, 117, 101, 34, 58, 110, 117, 108, 108, 125, 44, 34, 110, 97, 109, 101, 34, 58, 34, 112, 117, 116, 34, 125, 125, 44, 123, 34, 105, 100, 34, 58, 50, 44, 34, 109, 117, 116, 97, 116, 111, 114, 34, 58, 123, 34, 97, 114, 103, 115, 34, 58, 123, 34, 107, 101, 121, 34, 58, 34, 98, 34, 44, 34, 118, 97, 108, 117, 101, 34, 58, 110, 117, 108, 108, 125, 44, 34, 110, 97, 109, 101, 34, 58, 34, 112, 117, 116, 34, 125, 125, 44, 123, 34, 105, 100, 34, 58, 51, 44, 34, 109, 117, 116, 97, 116, 111, 114, 34, 58, 123, 34, 97, 114, 103, 115, 34, 58, 123, 34, 107, 101, 121, 34, 58, 34, 99, 34, 44, 34, 118, 97, 108, 117, 101, 34, 58, 110, 117, 108, 108, 125, 44, 34, 110, 97, 109, 101, 34, 58, 34, 112, 117, 116, 34, 125, 125, 93]))
  xs := []
noncomputable def cons62 : BT Con := addTo cons61 58 m61
/-- commonplace/encode.text, 1071 steps -/
def m62 : Memo where
  pre := [([(.string (bs [99, 108, 105, 101, 110, 116])), (.int .i64 (.ofNat 3)), (.bool false), (.int .i64 (.ofNat 1)), (.string (bs [])), (.slice none 0 0), (.slice none 0 0), (.string (bs [108, 105, 115, 116])), (.int .i64 (.ofNat 5)), (.bool false), (.int .i64 (.ofNat 0)), (.string (bs [])), (.slice (some ⟨1, 0, none⟩) 3 OPEN), (.slice none 0 0)], 128), ([(.int .i64 (.ofNat 6)), (.bool false), (.int .i64 (.ofNat 0)), (.string (bs [])), (.slice none 0 0), (.slice (some ⟨2, 0, none⟩) 2 2), (.int .i64 (.ofNat 6)), (.bool false), (.int .i64 (.ofNat 0)), (.string (bs [])), (.slice none 0 0), (.slice (some ⟨3, 0, none⟩) 2 2), (.int .i64 (.ofNat 6)), (.bool false), (.int .i64 (.ofNat 0)), (.string (bs [])), (.slice none 0 0), (.slice (some ⟨4, 0, none⟩) 2 2)], 29), ([(.string (bs [105, 100])), (.int .i64 (.ofNat 3)), (.bool false), (.int .i64 (.ofNat 1)), (.string (bs [])), (.slice none 0 0), (.slice none 0 0), (.string (bs [109, 117, 116, 97, 116, 111, 114])), (.int .i64 (.ofNat 6)), (.bool false), (.int .i64 (.ofNat 0)), (.string (bs [])), (.slice none 0 0), (.slice (some ⟨5, 0, none⟩) 2 2)], 128), ([(.string (bs [105, 100])), (.int .i64 (.ofNat 3)), (.bool false), (.int .i64 (.ofNat 2)), (.string (bs [])), (.slice none 0 0), (.slice none 0 0), (.string (bs [109, 117, 116, 97, 116, 111, 114])), (.int .i64 (.ofNat 6)), (.bool false), (.int .i64 (.ofNat 0)), (.string (bs [])), (.slice none 0 0), (.slice (some ⟨6, 0, none⟩) 2 2)], 128), ([(.string (bs [105, 100])), (.int .i64 (.ofNat 3)), (.bool false), (.int .i64 (.ofNat 3)), (.string (bs [])), (.slice none 0 0), (.slice none 0 0), (.string (bs [109, 117, 116, 97, 116, 111, 114])), (.int .i64 (.ofNat 6)), (.bool false), (.int .i64 (.ofNat 0)), (.string (bs [])), (.slice none 0 0), (.slice (some ⟨7, 0, none⟩) 2 2)], 128), ([(.string (bs [97, 114, 103, 115])), (.int .i64 (.ofNat 6)), (.bool false), (.int .i64 (.ofNat 0)), (.string (bs [])), (.slice none 0 0), (.slice (some ⟨8, 0, none⟩) 2 OPEN), (.string (bs [110, 97, 109, 101])), (.int .i64 (.ofNat 4)), (.bool false), (.int .i64 (.ofNat 0)), (.string (bs [112, 117, 116])), (.slice none 0 0), (.slice none 0 0)], 128), ([(.string (bs [97, 114, 103, 115])), (.int .i64 (.ofNat 6)), (.bool false), (.int .i64 (.ofNat 0)), (.string (bs [])), (.slice none 0 0), (.slice (some ⟨9, 0, none⟩) 2 OPEN), (.string (bs [110, 97, 109, 101])), (.int .i64 (.ofNat 4)), (.bool false), (.int .i64 (.ofNat 0)), (.string (bs [112, 117, 116])), (.slice none 0 0), (.slice none 0 0)], 128), ([(.string (bs [97, 114, 103, 115])), (.int .i64 (.ofNat 6)), (.bool false), (.int .i64 (.ofNat 0)), (.string (bs [])), (.slice none 0 0), (.slice (some ⟨10, 0, none⟩) 2 OPEN), (.string (bs [110, 97, 109, 101])), (.int .i64 (.ofNat 4)), (.bool false), (.int .i64 (.ofNat 0)), (.string (bs [112, 117, 116])), (.slice none 0 0), (.slice none 0 0)], 128), ([(.string (bs [107, 101, 121])), (.int .i64 (.ofNat 4)), (.bool false), (.int .i64 (.ofNat 0)), (.string (bs [97])), (.slice none 0 0), (.slice none 0 0), (.string (bs [118, 97, 108, 117, 101])), (.int .i64 (.ofNat 1)), (.bool false), (.int .i64 (.ofNat 0)), (.string (bs [])), (.slice none 0 0), (.slice none 0 0)], 128), ([(.string (bs [107, 101, 121])), (.int .i64 (.ofNat 4)), (.bool false), (.int .i64 (.ofNat 0)), (.string (bs [98])), (.slice none 0 0), (.slice none 0 0), (.string (bs [118, 97, 108, 117, 101])), (.int .i64 (.ofNat 1)), (.bool false), (.int .i64 (.ofNat 0)), (.string (bs [])), (.slice none 0 0), (.slice none 0 0)], 128), ([(.string (bs [107, 101, 121])), (.int .i64 (.ofNat 4)), (.bool false), (.int .i64 (.ofNat 0)), (.string (bs [99])), (.slice none 0 0), (.slice none 0 0), (.string (bs [118, 97, 108, 117, 101])), (.int .i64 (.ofNat 1)), (.bool false), (.int .i64 (.ofNat 0)), (.string (bs [])), (.slice none 0 0), (.slice none 0 0)], 128)]
  args := [(.agg ⟨[(.int .i64 (.ofNat 6)), (.bool false), (.int .i64 (.ofNat 0)), (.string (bs [])), (.slice none 0 0), (.slice (some ⟨0, 0, none⟩) 2 2)]⟩)]
  v := (.string (bs [123, 34, 99, 108, 105, 101, 110, 116, 34, 58, 49, 44, 34, 108, 105, 115, 116, 34, 58, 91, 123, 34, 105, 100, 34, 58, 49, 44, 34, 109, 117, 116, 97, 116, 111, 114, 34, 58, 123, 34, 97, 114, 103, 115, 34, 58, 123, 34, 107, 101, 121, 34, 58, 34, 97, 34, 44, 34, 118, 97, 108, 117, 101, 34, 58, 110, 117, 108, 108, 125, 44, 34, 110, 97, 109, 101, 34, 58, 34, 112, 117, 116, 34, 125, 125, 44, 123, 34, 105, 100, 34, 58, 50, 44, 34, 109, 117, 116, 97, 116, 111, 114, 34, 58, 123, 34, 97, 114, 103, 115, 34, 58, 123, 34, 107, 101, 121, 34, 58, 34, 98, 34, 44, 34, 118, 97, 108, 117, 101, 34, 58, 110, 117, 108, 108, 125, 44, 34, 110, 97, 109, 101, 34, 58, 34, 112, 117, 116, 34, 125, 125, 44, 123, 34, 105, 100, 34, 58, 51, 44, 34, 109, 117, 116, 97, 116, 111, 114, 34, 58, 123, 34, 97, 114, 103, 115, 34, 58, 123, 34, 107, 101, 121, 34, 58, 34, 99, 34, 44, 34, 118, 97, 108, 117, 101, 34, 58, 110, 117, 108, 108, 125, 44, 34, 110, 97, 109, 101, 34, 58, 34, 112, 117, 116, 34, 125, 125, 93, 125]))
  xs := []
noncomputable def cons63 : BT Con := addTo cons62 58 m62
/-- commonplace/encode.Text, 30 steps -/
def m63 : Memo where
  pre := [([(.string (bs [99, 108, 105, 101, 110, 116])), (.int .i64 (.ofNat 3)), (.bool false), (.int .i64 (.ofNat 1)), (.string (bs [])), (.slice none 0 0), (.slice none 0 0), (.string (bs [108, 105, 115, 116])), (.int .i64 (.ofNat 5)), (.bool false), (.int .i64 (.ofNat 0)), (.string (bs [])), (.slice (some ⟨1, 0, none⟩) 3 OPEN), (.slice none 0 0)], 128), ([(.int .i64 (.ofNat 6)), (.bool false), (.int .i64 (.ofNat 0)), (.string (bs [])), (.slice none 0 0), (.slice (some ⟨2, 0, none⟩) 2 2), (.int .i64 (.ofNat 6)), (.bool false), (.int .i64 (.ofNat 0)), (.string (bs [])), (.slice none 0 0), (.slice (some ⟨3, 0, none⟩) 2 2), (.int .i64 (.ofNat 6)), (.bool false), (.int .i64 (.ofNat 0)), (.string (bs [])), (.slice none 0 0), (.slice (some ⟨4, 0, none⟩) 2 2)], 29), ([(.string (bs [105, 100])), (.int .i64 (.ofNat 3)), (.bool false), (.int .i64 (.ofNat 1)), (.string (bs [])), (.slice none 0 0), (.slice none 0 0), (.string (bs [109, 117, 116, 97, 116, 111, 114])), (.int .i64 (.ofNat 6)), (.bool false), (.int .i64 (.ofNat 0)), (.string (bs [])), (.slice none 0 0), (.slice (some ⟨5, 0, none⟩) 2 2)], 128), ([(.string (bs [105, 100])), (.int .i64 (.ofNat 3)), (.bool false), (.int .i64 (.ofNat 2)), (.string (bs [])), (.slice none 0 0), (.slice none 0 0), (.string (bs [109, 117, 116, 97, 116, 111, 114])), (.int .i64 (.ofNat 6)), (.bool false), (.int .i64 (.ofNat 0)), (.string (bs [])), (.slice none 0 0), (.slice (some ⟨6, 0, none⟩) 2 2)], 128), ([(.string (bs [105, 100])), (.int .i64 (.ofNat 3)), (.bool false), (.int .i64 (.ofNat 3)), (.string (bs [])), (.slice none 0 0), (.slice none 0 0), (.string (bs [109, 117, 116, 97, 116, 111, 114])), (.int .i64 (.ofNat 6)), (.bool false), (.int .i64 (.ofNat 0)), (.string (bs [])), (.slice none 0 0), (.slice (some ⟨7, 0, none⟩) 2 2)], 128), ([(.string (bs [97, 114, 103, 115])), (.int .i64 (.ofNat 6)), (.bool false), (.int .i64 (.ofNat 0)), (.string (bs [])), (.slice none 0 0), (.slice (some ⟨8, 0, none⟩) 2 OPEN), (.string (bs [110, 97, 109, 101])), (.int .i64 (.ofNat 4)), (.bool false), (.int .i64 (.ofNat 0)), (.string (bs [112, 117, 116])), (.slice none 0 0), (.slice none 0 0)], 128), ([(.string (bs [97, 114, 103, 115])), (.int .i64 (.ofNat 6)), (.bool false), (.int .i64 (.ofNat 0)), (.string (bs [])), (.slice none 0 0), (.slice (some ⟨9, 0, none⟩) 2 OPEN), (.string (bs [110, 97, 109, 101])), (.int .i64 (.ofNat 4)), (.bool false), (.int .i64 (.ofNat 0)), (.string (bs [112, 117, 116])), (.slice none 0 0), (.slice none 0 0)], 128), ([(.string (bs [97, 114, 103, 115])), (.int .i64 (.ofNat 6)), (.bool false), (.int .i64 (.ofNat 0)), (.string (bs [])), (.slice none 0 0), (.slice (some ⟨10, 0, none⟩) 2 OPEN), (.string (bs [110, 97, 109, 101])), (.int .i64 (.ofNat 4)), (.bool false), (.int .i64 (.ofNat 0)), (.string (bs [112, 117, 116])), (.slice none 0 0), (.slice none 0 0)], 128), ([(.string (bs [107, 101, 121])), (.int .i64 (.ofNat 4)), (.bool false), (.int .i64 (.ofNat 0)), (.string (bs [97])), (.slice none 0 0), (.slice none 0 0), (.string (bs [118, 97, 108, 117, 101])), (.int .i64 (.ofNat 1)), (.bool false), (.int .i64 (.ofNat 0)), (.string (bs [])), (.slice none 0 0), (.slice none 0 0)], 128), ([(.string (bs [107, 101, 121])), (.int .i64 (.ofNat 4)), (.bool false), (.int .i64 (.ofNat 0)), (.string (bs [98])), (.slice none 0 0), (.slice none 0 0), (.string (bs [118, 97, 108, 117, 101])), (.int .i64 (.ofNat 1)), (.bool false), (.int .i64 (.ofNat 0)), (.string (bs [])), (.slice none 0 0), (.slice none 0 0)], 128), ([(.string (bs [107, 101, 121])), (.int .i64 (.ofNat 4)), (.bool false), (.int .i64 (.ofNat 0)), (.string (bs [99])), (.slice none 0 0), (.slice none 0 0), (.string (bs [118, 97, 108, 117, 101])), (.int .i64 (.ofNat 1)), (.bool false), (.int .i64 (.ofNat 0)), (.string (bs [])), (.slice none 0 0), (.slice none 0 0)], 128)]
  args := [(.agg ⟨[(.int .i64 (.ofNat 6)), (.bool false), (.int .i64 (.ofNat 0)), (.string (bs [])), (.slice none 0 0), (.slice (some ⟨0, 0, none⟩) 2 2)]⟩)]
  v := (.tuple ⟨[(.string (bs [123, 34, 99, 108, 105, 101, 110, 116, 34, 58, 49, 44, 34, 108, 105, 115, 116, 34, 58, 91, 123, 34, 105, 100, 34, 58, 49, 44, 34, 109, 117, 116, 97, 116, 111, 114, 34, 58, 123, 34, 97, 114, 103, 115, 34, 58, 123, 34, 107, 101, 121, 34, 58, 34, 97, 34, 44, 34, 118, 97, 108, 117, 101, 34, 58, 110, 117, 108, 108, 125, 44, 34, 110, 97, 109, 101, 34, 58, 34, 112, 117, 116, 34, 125, 125, 44, 123, 34, 105, 100, 34, 58, 50, 44, 34, 109, 117, 116, 97, 116, 111, 114, 34, 58, 123, 34, 97, 114, 103, 115, 34, 58, 123, 34, 107, 101, 121, 34, 58, 34, 98, 34, 44, 34, 118, 97, 108, 117, 101, 34, 58, 110, 117, 108, 108, 125, 44, 34, 110, 97, 109, 101, 34, 58, 34, 112, 117, 116, 34, 125, 125, 44, 123, 34, 105, 100, 34, 58, 51, 44, 34, 109, 117, 116, 97, 116, 111, 114, 34, 58, 123, 34, 97, 114, 103, 115, 34, 58, 123, 34, 107, 101, 121, 34, 58, 34, 99, 34, 44, 34, 118, 97, 108, 117, 101, 34, 58, 110, 117, 108, 108, 125, 44, 34, 110, 97, 109, 101, 34, 58, 34, 112, 117, 116, 34, 125, 125, 93, 125])), (.int .i64 (.ofNat 0))]⟩)
  xs := []
noncomputable def cons64 : BT Con := addTo cons63 24 m63
/-- commonplace/crc.table, 1938 steps -/
def m64 : Memo where
  pre := []
  args := []
  v := (.agg ⟨[(.int .u32 (.ofNat 0)), (.int .u32 (.ofNat 498536548)), (.int .u32 (.ofNat 997073096)), (.int .u32 (.ofNat 651767980)), (.int .u32 (.ofNat 1994146192)), (.int .u32 (.ofNat 1802195444)), (.int .u32 (.ofNat 1303535960)), (.int .u32 (.ofNat 1342533948)), (.int .u32 (.ofNat 3988292384)), (.int .u32 (.ofNat 4027552580)), (.int .u32 (.ofNat 3604390888)), (.int .u32 (.ofNat 3412177804)), (.int .u32 (.ofNat 2607071920)), (.int .u32 (.ofNat 2262029012)), (.int .u32 (.ofNat 2685067896)), (.int .u32 (.ofNat 3183342108))]⟩)
  xs := []
noncomputable def cons65 : BT Con := addTo cons64 201 m64
/-- commonplace/crc.Sum, 17678 steps -/
def m65 : Memo where
  pre := [((bytes8 [1, 123, 34, 99, 108, 105, 101, 110, 116, 34, 58, 49, 44, 34, 108, 105, 115, 116, 34, 58, 91, 123, 34, 105, 100, 34, 58, 49, 44, 34, 109, 117, 116, 97, 116, 111, 114, 34, 58, 123, 34, 97, 114, 103, 115, 34, 58, 123, 34, 107, 101, 121, 34, 58, 34, 97, 34, 44, 34, 118, 97, 108, 117, 101, 34, 58, 110, 117, 108, 108, 125, 44, 34, 110, 97, 109, 101, 34, 58, 34, 112, 117, 116, 34, 125, 125, 44, 123, 34, 105, 100, 34, 58, 50, 44, 34, 109, 117, 116, 97, 116, 111, 114, 34, 58, 123, 34, 97, 114, 103, 115, 34, 58, 123, 34, 107, 101, 121, 34, 58, 34, 98, 34, 44, 34, 118, 97, 108, 117, 101, 34, 58, 110, 117, 108, 108, 125, 44, 34, 110, 97, 109, 101, 34, 58, 34, 112, 117, 116, 34, 125, 125, 44, 123, 34, 105, 100, 34, 58, 51, 44, 34, 109, 117, 116, 97, 116, 111, 114, 34, 58, 123, 34, 97, 114, 103, 115, 34, 58, 123, 34, 107, 101, 121, 34, 58, 34, 99, 34, 44, 34, 118, 97, 108, 117, 101, 34, 58, 110, 117, 108, 108, 125, 44, 34, 110, 97, 109, 101, 34, 58, 34, 112, 117, 116, 34, 125, 125, 93, 125]), 5)]
  args := [(.slice (some ⟨0, 0, none⟩) 220 OPEN)]
  v := (.int .u32 (.ofNat 1743444443))
  xs := []
noncomputable def cons66 : BT Con := addTo cons65 105 m65
/-- commonplace/crc.Seal, 53 steps -/
def m66 : Memo where
  pre := [((bytes8 [1, 123, 34, 99, 108, 105, 101, 110, 116, 34, 58, 49, 44, 34, 108, 105, 115, 116, 34, 58, 91, 123, 34, 105, 100, 34, 58, 49, 44, 34, 109, 117, 116, 97, 116, 111, 114, 34, 58, 123, 34, 97, 114, 103, 115, 34, 58, 123, 34, 107, 101, 121, 34, 58, 34, 97, 34, 44, 34, 118, 97, 108, 117, 101, 34, 58, 110, 117, 108, 108, 125, 44, 34, 110, 97, 109, 101, 34, 58, 34, 112, 117, 116, 34, 125, 125, 44, 123, 34, 105, 100, 34, 58, 50, 44, 34, 109, 117, 116, 97, 116, 111, 114, 34, 58, 123, 34, 97, 114, 103, 115, 34, 58, 123, 34, 107, 101, 121, 34, 58, 34, 98, 34, 44, 34, 118, 97, 108, 117, 101, 34, 58, 110, 117, 108, 108, 125, 44, 34, 110, 97, 109, 101, 34, 58, 34, 112, 117, 116, 34, 125, 125, 44, 123, 34, 105, 100, 34, 58, 51, 44, 34, 109, 117, 116, 97, 116, 111, 114, 34, 58, 123, 34, 97, 114, 103, 115, 34, 58, 123, 34, 107, 101, 121, 34, 58, 34, 99, 34, 44, 34, 118, 97, 108, 117, 101, 34, 58, 110, 117, 108, 108, 125, 44, 34, 110, 97, 109, 101, 34, 58, 34, 112, 117, 116, 34, 125, 125, 93, 125]), 5)]
  args := [(.slice (some ⟨0, 0, none⟩) 220 OPEN)]
  v := (.slice (some ⟨1, 0, none⟩) 224 OPEN)
  xs := [.cells (bytes8 [1, 123, 34, 99, 108, 105, 101, 110, 116, 34, 58, 49, 44, 34, 108, 105, 115, 116, 34, 58, 91, 123, 34, 105, 100, 34, 58, 49, 44, 34, 109, 117, 116, 97, 116, 111, 114, 34, 58, 123, 34, 97, 114, 103, 115, 34, 58, 123, 34, 107, 101, 121, 34, 58, 34, 97, 34, 44, 34, 118, 97, 108, 117, 101, 34, 58, 110, 117, 108, 108, 125, 44, 34, 110, 97, 109, 101, 34, 58, 34, 112, 117, 116, 34, 125, 125, 44, 123, 34, 105, 100, 34, 58, 50, 44, 34, 109, 117, 116, 97, 116, 111, 114, 34, 58, 123, 34, 97, 114, 103, 115, 34, 58, 123, 34, 107, 101, 121, 34, 58, 34, 98, 34, 44, 34, 118, 97, 108, 117, 101, 34, 58, 110, 117, 108, 108, 125, 44, 34, 110, 97, 109, 101, 34, 58, 34, 112, 117, 116, 34, 125, 125, 44, 123, 34, 105, 100, 34, 58, 51, 44, 34, 109, 117, 116, 97, 116, 111, 114, 34, 58, 123, 34, 97, 114, 103, 115, 34, 58, 123, 34, 107, 101, 121, 34, 58, 34, 99, 34, 44, 34, 118, 97, 108, 117, 101, 34, 58, 110, 117, 108, 108, 125, 44, 34, 110, 97, 109, 101, 34, 58, 34, 112, 117, 116, 34, 125, 125, 93, 125, 219, 217, 234, 103]) 5 1]
noncomputable def cons67 : BT Con := addTo cons66 60 m66
/-- commonplace/frame.Frame, 49 steps -/
def m67 : Memo where
  pre := [((bytes8 [123, 34, 99, 108, 105, 101, 110, 116, 34, 58, 49, 44, 34, 108, 105, 115, 116, 34, 58, 91, 123, 34, 105, 100, 34, 58, 49, 44, 34, 109, 117, 116, 97, 116, 111, 114, 34, 58, 123, 34, 97, 114, 103, 115, 34, 58, 123, 34, 107, 101, 121, 34, 58, 34, 97, 34, 44, 34, 118, 97, 108, 117, 101, 34, 58, 110, 117, 108, 108, 125, 44, 34, 110, 97, 109, 101, 34, 58, 34, 112, 117, 116, 34, 125, 125, 44, 123, 34, 105, 100, 34, 58, 50, 44, 34, 109, 117, 116, 97, 116, 111, 114, 34, 58, 123, 34, 97, 114, 103, 115, 34, 58, 123, 34, 107, 101, 121, 34, 58, 34, 98, 34, 44, 34, 118, 97, 108, 117, 101, 34, 58, 110, 117, 108, 108, 125, 44, 34, 110, 97, 109, 101, 34, 58, 34, 112, 117, 116, 34, 125, 125, 44, 123, 34, 105, 100, 34, 58, 51, 44, 34, 109, 117, 116, 97, 116, 111, 114, 34, 58, 123, 34, 97, 114, 103, 115, 34, 58, 123, 34, 107, 101, 121, 34, 58, 34, 99, 34, 44, 34, 118, 97, 108, 117, 101, 34, 58, 110, 117, 108, 108, 125, 44, 34, 110, 97, 109, 101, 34, 58, 34, 112, 117, 116, 34, 125, 125, 93, 125]), 5)]
  args := [(.int .u8 (.ofNat 1)), (.slice (some ⟨0, 0, none⟩) 219 OPEN)]
  v := (.tuple ⟨[(.slice (some ⟨1, 0, none⟩) 224 OPEN), (.int .i64 (.ofNat 0))]⟩)
  xs := [.cells (bytes8 [1, 123, 34, 99, 108, 105, 101, 110, 116, 34, 58, 49, 44, 34, 108, 105, 115, 116, 34, 58, 91, 123, 34, 105, 100, 34, 58, 49, 44, 34, 109, 117, 116, 97, 116, 111, 114, 34, 58, 123, 34, 97, 114, 103, 115, 34, 58, 123, 34, 107, 101, 121, 34, 58, 34, 97, 34, 44, 34, 118, 97, 108, 117, 101, 34, 58, 110, 117, 108, 108, 125, 44, 34, 110, 97, 109, 101, 34, 58, 34, 112, 117, 116, 34, 125, 125, 44, 123, 34, 105, 100, 34, 58, 50, 44, 34, 109, 117, 116, 97, 116, 111, 114, 34, 58, 123, 34, 97, 114, 103, 115, 34, 58, 123, 34, 107, 101, 121, 34, 58, 34, 98, 34, 44, 34, 118, 97, 108, 117, 101, 34, 58, 110, 117, 108, 108, 125, 44, 34, 110, 97, 109, 101, 34, 58, 34, 112, 117, 116, 34, 125, 125, 44, 123, 34, 105, 100, 34, 58, 51, 44, 34, 109, 117, 116, 97, 116, 111, 114, 34, 58, 123, 34, 97, 114, 103, 115, 34, 58, 123, 34, 107, 101, 121, 34, 58, 34, 99, 34, 44, 34, 118, 97, 108, 117, 101, 34, 58, 110, 117, 108, 108, 125, 44, 34, 110, 97, 109, 101, 34, 58, 34, 112, 117, 116, 34, 125, 125, 93, 125, 219, 217, 234, 103]) 5 1]
noncomputable def cons68 : BT Con := addTo cons67 27 m67
/-- commonplace/push.Encode, 708 steps -/
def m68 : Memo where
  pre := [([(.int .u64 (.ofNat 1)), (.int .i64 (.ofNat 1)), (.string (bs [97])), (.string (bs [])), (.int .i64 (.ofNat 0)), (.bool false), (.int .i64 (.ofNat 0)), (.bool false), (.int .i64 (.ofNat 0)), (.string (bs [])), (.slice none 0 0), (.slice none 0 0), (.bool false), (.int .i64 (.ofNat 1)), (.bool false), (.int .i64 (.ofNat 0)), (.string (bs [])), (.slice none 0 0), (.slice none 0 0), (.slice none 0 0), (.int .u64 (.ofNat 2)), (.int .i64 (.ofNat 1)), (.string (bs [98])), (.string (bs [])), (.int .i64 (.ofNat 0)), (.bool false), (.int .i64 (.ofNat 0)), (.bool false), (.int .i64 (.ofNat 0)), (.string (bs [])), (.slice none 0 0), (.slice none 0 0), (.bool false), (.int .i64 (.ofNat 1)), (.bool false), (.int .i64 (.ofNat 0)), (.string (bs [])), (.slice none 0 0), (.slice none 0 0), (.slice none 0 0), (.int .u64 (.ofNat 3)), (.int .i64 (.ofNat 1)), (.string (bs [99])), (.string (bs [])), (.int .i64 (.ofNat 0)), (.bool false), (.int .i64 (.ofNat 0)), (.bool false), (.int .i64 (.ofNat 0)), (.string (bs [])), (.slice none 0 0), (.slice none 0 0), (.bool false), (.int .i64 (.ofNat 1)), (.bool false), (.int .i64 (.ofNat 0)), (.string (bs [])), (.slice none 0 0), (.slice none 0 0), (.slice none 0 0)], 35)]
  args := [(.agg ⟨[(.int .u64 (.ofNat 1)), (.slice (some ⟨0, 0, none⟩) 3 3)]⟩)]
  v := (.tuple ⟨[(.slice (some ⟨1, 0, none⟩) 224 OPEN), (.int .i64 (.ofNat 0))]⟩)
  xs := [.cells (bytes8 [1, 123, 34, 99, 108, 105, 101, 110, 116, 34, 58, 49, 44, 34, 108, 105, 115, 116, 34, 58, 91, 123, 34, 105, 100, 34, 58, 49, 44, 34, 109, 117, 116, 97, 116, 111, 114, 34, 58, 123, 34, 97, 114, 103, 115, 34, 58, 123, 34, 107, 101, 121, 34, 58, 34, 97, 34, 44, 34, 118, 97, 108, 117, 101, 34, 58, 110, 117, 108, 108, 125, 44, 34, 110, 97, 109, 101, 34, 58, 34, 112, 117, 116, 34, 125, 125, 44, 123, 34, 105, 100, 34, 58, 50, 44, 34, 109, 117, 116, 97, 116, 111, 114, 34, 58, 123, 34, 97, 114, 103, 115, 34, 58, 123, 34, 107, 101, 121, 34, 58, 34, 98, 34, 44, 34, 118, 97, 108, 117, 101, 34, 58, 110, 117, 108, 108, 125, 44, 34, 110, 97, 109, 101, 34, 58, 34, 112, 117, 116, 34, 125, 125, 44, 123, 34, 105, 100, 34, 58, 51, 44, 34, 109, 117, 116, 97, 116, 111, 114, 34, 58, 123, 34, 97, 114, 103, 115, 34, 58, 123, 34, 107, 101, 121, 34, 58, 34, 99, 34, 44, 34, 118, 97, 108, 117, 101, 34, 58, 110, 117, 108, 108, 125, 44, 34, 110, 97, 109, 101, 34, 58, 34, 112, 117, 116, 34, 125, 125, 93, 125, 219, 217, 234, 103]) 5 1]
noncomputable def cons69 : BT Con := addTo cons68 7 m68
/-- commonplace/crc.Sum, 17678 steps -/
def m69 : Memo where
  pre := [((bytes8 [1, 123, 34, 99, 108, 105, 101, 110, 116, 34, 58, 49, 44, 34, 108, 105, 115, 116, 34, 58, 91, 123, 34, 105, 100, 34, 58, 49, 44, 34, 109, 117, 116, 97, 116, 111, 114, 34, 58, 123, 34, 97, 114, 103, 115, 34, 58, 123, 34, 107, 101, 121, 34, 58, 34, 97, 34, 44, 34, 118, 97, 108, 117, 101, 34, 58, 110, 117, 108, 108, 125, 44, 34, 110, 97, 109, 101, 34, 58, 34, 112, 117, 116, 34, 125, 125, 44, 123, 34, 105, 100, 34, 58, 50, 44, 34, 109, 117, 116, 97, 116, 111, 114, 34, 58, 123, 34, 97, 114, 103, 115, 34, 58, 123, 34, 107, 101, 121, 34, 58, 34, 98, 34, 44, 34, 118, 97, 108, 117, 101, 34, 58, 110, 117, 108, 108, 125, 44, 34, 110, 97, 109, 101, 34, 58, 34, 112, 117, 116, 34, 125, 125, 44, 123, 34, 105, 100, 34, 58, 51, 44, 34, 109, 117, 116, 97, 116, 111, 114, 34, 58, 123, 34, 97, 114, 103, 115, 34, 58, 123, 34, 107, 101, 121, 34, 58, 34, 99, 34, 44, 34, 118, 97, 108, 117, 101, 34, 58, 110, 117, 108, 108, 125, 44, 34, 110, 97, 109, 101, 34, 58, 34, 112, 117, 116, 34, 125, 125, 93, 125, 219, 217, 234, 103]), 5)]
  args := [(.slice (some ⟨0, 0, none⟩) 220 OPEN)]
  v := (.int .u32 (.ofNat 1743444443))
  xs := []
noncomputable def cons70 : BT Con := addTo cons69 105 m69
/-- commonplace/crc.Seal, 53 steps -/
def m70 : Memo where
  pre := [((bytes8 [1, 123, 34, 99, 108, 105, 101, 110, 116, 34, 58, 49, 44, 34, 108, 105, 115, 116, 34, 58, 91, 123, 34, 105, 100, 34, 58, 49, 44, 34, 109, 117, 116, 97, 116, 111, 114, 34, 58, 123, 34, 97, 114, 103, 115, 34, 58, 123, 34, 107, 101, 121, 34, 58, 34, 97, 34, 44, 34, 118, 97, 108, 117, 101, 34, 58, 110, 117, 108, 108, 125, 44, 34, 110, 97, 109, 101, 34, 58, 34, 112, 117, 116, 34, 125, 125, 44, 123, 34, 105, 100, 34, 58, 50, 44, 34, 109, 117, 116, 97, 116, 111, 114, 34, 58, 123, 34, 97, 114, 103, 115, 34, 58, 123, 34, 107, 101, 121, 34, 58, 34, 98, 34, 44, 34, 118, 97, 108, 117, 101, 34, 58, 110, 117, 108, 108, 125, 44, 34, 110, 97, 109, 101, 34, 58, 34, 112, 117, 116, 34, 125, 125, 44, 123, 34, 105, 100, 34, 58, 51, 44, 34, 109, 117, 116, 97, 116, 111, 114, 34, 58, 123, 34, 97, 114, 103, 115, 34, 58, 123, 34, 107, 101, 121, 34, 58, 34, 99, 34, 44, 34, 118, 97, 108, 117, 101, 34, 58, 110, 117, 108, 108, 125, 44, 34, 110, 97, 109, 101, 34, 58, 34, 112, 117, 116, 34, 125, 125, 93, 125, 219, 217, 234, 103]), 5)]
  args := [(.slice (some ⟨0, 0, none⟩) 220 OPEN)]
  v := (.slice (some ⟨1, 0, none⟩) 224 OPEN)
  xs := [.cells (bytes8 [1, 123, 34, 99, 108, 105, 101, 110, 116, 34, 58, 49, 44, 34, 108, 105, 115, 116, 34, 58, 91, 123, 34, 105, 100, 34, 58, 49, 44, 34, 109, 117, 116, 97, 116, 111, 114, 34, 58, 123, 34, 97, 114, 103, 115, 34, 58, 123, 34, 107, 101, 121, 34, 58, 34, 97, 34, 44, 34, 118, 97, 108, 117, 101, 34, 58, 110, 117, 108, 108, 125, 44, 34, 110, 97, 109, 101, 34, 58, 34, 112, 117, 116, 34, 125, 125, 44, 123, 34, 105, 100, 34, 58, 50, 44, 34, 109, 117, 116, 97, 116, 111, 114, 34, 58, 123, 34, 97, 114, 103, 115, 34, 58, 123, 34, 107, 101, 121, 34, 58, 34, 98, 34, 44, 34, 118, 97, 108, 117, 101, 34, 58, 110, 117, 108, 108, 125, 44, 34, 110, 97, 109, 101, 34, 58, 34, 112, 117, 116, 34, 125, 125, 44, 123, 34, 105, 100, 34, 58, 51, 44, 34, 109, 117, 116, 97, 116, 111, 114, 34, 58, 123, 34, 97, 114, 103, 115, 34, 58, 123, 34, 107, 101, 121, 34, 58, 34, 99, 34, 44, 34, 118, 97, 108, 117, 101, 34, 58, 110, 117, 108, 108, 125, 44, 34, 110, 97, 109, 101, 34, 58, 34, 112, 117, 116, 34, 125, 125, 93, 125, 219, 217, 234, 103]) 5 1]
noncomputable def cons71 : BT Con := addTo cons70 60 m70
/-- commonplace/crc.Open, 7720 steps -/
def m71 : Memo where
  pre := [((bytes8 [1, 123, 34, 99, 108, 105, 101, 110, 116, 34, 58, 49, 44, 34, 108, 105, 115, 116, 34, 58, 91, 123, 34, 105, 100, 34, 58, 49, 44, 34, 109, 117, 116, 97, 116, 111, 114, 34, 58, 123, 34, 97, 114, 103, 115, 34, 58, 123, 34, 107, 101, 121, 34, 58, 34, 97, 34, 44, 34, 118, 97, 108, 117, 101, 34, 58, 110, 117, 108, 108, 125, 44, 34, 110, 97, 109, 101, 34, 58, 34, 112, 117, 116, 34, 125, 125, 44, 123, 34, 105, 100, 34, 58, 50, 44, 34, 109, 117, 116, 97, 116, 111, 114, 34, 58, 123, 34, 97, 114, 103, 115, 34, 58, 123, 34, 107, 101, 121, 34, 58, 34, 98, 34, 44, 34, 118, 97, 108, 117, 101, 34, 58, 110, 117, 108, 108, 125, 44, 34, 110, 97, 109, 101, 34, 58, 34, 112, 117, 116, 34, 125, 125, 44, 123, 34, 105, 100, 34, 58, 51, 44, 34, 109, 117, 116, 97, 116, 111, 114, 34, 58, 123, 34, 97, 114, 103, 115, 34, 58, 123, 34, 107, 101, 121, 34, 58, 34, 99, 34, 44, 34, 118, 97, 108, 117, 101, 34, 58, 110, 117, 108, 108, 125, 44, 34, 110, 97, 109, 101, 34, 58, 34, 112, 117, 116, 34, 125, 125, 93, 125, 219, 217, 234, 103]), 5)]
  args := [(.slice (some ⟨0, 0, none⟩) 224 OPEN)]
  v := (.tuple ⟨[(.slice (some ⟨1, 0, none⟩) 220 OPEN), (.bool true)]⟩)
  xs := [.cells (bytes8 [1, 123, 34, 99, 108, 105, 101, 110, 116, 34, 58, 49, 44, 34, 108, 105, 115, 116, 34, 58, 91, 123, 34, 105, 100, 34, 58, 49, 44, 34, 109, 117, 116, 97, 116, 111, 114, 34, 58, 123, 34, 97, 114, 103, 115, 34, 58, 123, 34, 107, 101, 121, 34, 58, 34, 97, 34, 44, 34, 118, 97, 108, 117, 101, 34, 58, 110, 117, 108, 108, 125, 44, 34, 110, 97, 109, 101, 34, 58, 34, 112, 117, 116, 34, 125, 125, 44, 123, 34, 105, 100, 34, 58, 50, 44, 34, 109, 117, 116, 97, 116, 111, 114, 34, 58, 123, 34, 97, 114, 103, 115, 34, 58, 123, 34, 107, 101, 121, 34, 58, 34, 98, 34, 44, 34, 118, 97, 108, 117, 101, 34, 58, 110, 117, 108, 108, 125, 44, 34, 110, 97, 109, 101, 34, 58, 34, 112, 117, 116, 34, 125, 125, 44, 123, 34, 105, 100, 34, 58, 51, 44, 34, 109, 117, 116, 97, 116, 111, 114, 34, 58, 123, 34, 97, 114, 103, 115, 34, 58, 123, 34, 107, 101, 121, 34, 58, 34, 99, 34, 44, 34, 118, 97, 108, 117, 101, 34, 58, 110, 117, 108, 108, 125, 44, 34, 110, 97, 109, 101, 34, 58, 34, 112, 117, 116, 34, 125, 125, 93, 125]) 5 1]
noncomputable def cons72 : BT Con := addTo cons71 146 m71
/-- commonplace/frame.Body, 145 steps -/
def m72 : Memo where
  pre := [((bytes8 [1, 123, 34, 99, 108, 105, 101, 110, 116, 34, 58, 49, 44, 34, 108, 105, 115, 116, 34, 58, 91, 123, 34, 105, 100, 34, 58, 49, 44, 34, 109, 117, 116, 97, 116, 111, 114, 34, 58, 123, 34, 97, 114, 103, 115, 34, 58, 123, 34, 107, 101, 121, 34, 58, 34, 97, 34, 44, 34, 118, 97, 108, 117, 101, 34, 58, 110, 117, 108, 108, 125, 44, 34, 110, 97, 109, 101, 34, 58, 34, 112, 117, 116, 34, 125, 125, 44, 123, 34, 105, 100, 34, 58, 50, 44, 34, 109, 117, 116, 97, 116, 111, 114, 34, 58, 123, 34, 97, 114, 103, 115, 34, 58, 123, 34, 107, 101, 121, 34, 58, 34, 98, 34, 44, 34, 118, 97, 108, 117, 101, 34, 58, 110, 117, 108, 108, 125, 44, 34, 110, 97, 109, 101, 34, 58, 34, 112, 117, 116, 34, 125, 125, 44, 123, 34, 105, 100, 34, 58, 51, 44, 34, 109, 117, 116, 97, 116, 111, 114, 34, 58, 123, 34, 97, 114, 103, 115, 34, 58, 123, 34, 107, 101, 121, 34, 58, 34, 99, 34, 44, 34, 118, 97, 108, 117, 101, 34, 58, 110, 117, 108, 108, 125, 44, 34, 110, 97, 109, 101, 34, 58, 34, 112, 117, 116, 34, 125, 125, 93, 125, 219, 217, 234, 103]), 5)]
  args := [(.int .u8 (.ofNat 1)), (.slice (some ⟨0, 0, none⟩) 224 OPEN)]
  v := (.tuple ⟨[(.slice (some ⟨1, 0, none⟩) 219 OPEN), (.int .i64 (.ofNat 0))]⟩)
  xs := [.cells (bytes8 [123, 34, 99, 108, 105, 101, 110, 116, 34, 58, 49, 44, 34, 108, 105, 115, 116, 34, 58, 91, 123, 34, 105, 100, 34, 58, 49, 44, 34, 109, 117, 116, 97, 116, 111, 114, 34, 58, 123, 34, 97, 114, 103, 115, 34, 58, 123, 34, 107, 101, 121, 34, 58, 34, 97, 34, 44, 34, 118, 97, 108, 117, 101, 34, 58, 110, 117, 108, 108, 125, 44, 34, 110, 97, 109, 101, 34, 58, 34, 112, 117, 116, 34, 125, 125, 44, 123, 34, 105, 100, 34, 58, 50, 44, 34, 109, 117, 116, 97, 116, 111, 114, 34, 58, 123, 34, 97, 114, 103, 115, 34, 58, 123, 34, 107, 101, 121, 34, 58, 34, 98, 34, 44, 34, 118, 97, 108, 117, 101, 34, 58, 110, 117, 108, 108, 125, 44, 34, 110, 97, 109, 101, 34, 58, 34, 112, 117, 116, 34, 125, 125, 44, 123, 34, 105, 100, 34, 58, 51, 44, 34, 109, 117, 116, 97, 116, 111, 114, 34, 58, 123, 34, 97, 114, 103, 115, 34, 58, 123, 34, 107, 101, 121, 34, 58, 34, 99, 34, 44, 34, 118, 97, 108, 117, 101, 34, 58, 110, 117, 108, 108, 125, 44, 34, 110, 97, 109, 101, 34, 58, 34, 112, 117, 116, 34, 125, 125, 93, 125]) 5 1]
noncomputable def cons73 : BT Con := addTo cons72 62 m72
/-- strings.IndexByte, 27 steps -/
def m73 : Memo where
  pre := []
  args := [(.string (bs [9, 10, 13, 32])), (.int .u8 (.ofNat 123))]
  v := (.int .i64 (.negSucc 0))
  xs := []
noncomputable def cons74 : BT Con := addTo cons73 210 m73
/-- strings.IndexByte, 27 steps -/
def m74 : Memo where
  pre := []
  args := [(.string (bs [9, 10, 13, 32])), (.int .u8 (.ofNat 34))]
  v := (.int .i64 (.negSucc 0))
  xs := []
noncomputable def cons75 : BT Con := addTo cons74 210 m74
/-- commonplace/utf.Unquote, 1299 steps -/
def m75 : Memo where
  pre := []
  args := [(.string (bs [123, 34, 99, 108, 105, 101, 110, 116, 34, 58, 49, 44, 34, 108, 105, 115, 116, 34, 58, 91, 123, 34, 105, 100, 34, 58, 49, 44, 34, 109, 117, 116, 97, 116, 111, 114, 34, 58, 123, 34, 97, 114, 103, 115, 34, 58, 123, 34, 107, 101, 121, 34, 58, 34, 97, 34, 44, 34, 118, 97, 108, 117, 101, 34, 58, 110, 117, 108, 108, 125, 44, 34, 110, 97, 109, 101, 34, 58, 34, 112, 117, 116, 34, 125, 125, 44, 123, 34, 105, 100, 34, 58, 50, 44, 34, 109, 117, 116, 97, 116, 111, 114, 34, 58, 123, 34, 97, 114, 103, 115, 34, 58, 123, 34, 107, 101, 121, 34, 58, 34, 98, 34, 44, 34, 118, 97, 108, 117, 101, 34, 58, 110, 117, 108, 108, 125, 44, 34, 110, 97, 109, 101, 34, 58, 34, 112, 117, 116, 34, 125, 125, 44, 123, 34, 105, 100, 34, 58, 51, 44, 34, 109, 117, 116, 97, 116, 111, 114, 34, 58, 123, 34, 97, 114, 103, 115, 34, 58, 123, 34, 107, 101, 121, 34, 58, 34, 99, 34, 44, 34, 118, 97, 108, 117, 101, 34, 58, 110, 117, 108, 108, 125, 44, 34, 110, 97, 109, 101, 34, 58, 34, 112, 117, 116, 34, 125, 125, 93, 125])), (.int .i64 (.ofNat 1))]
  v := (.tuple ⟨[(.string (bs [99, 108, 105, 101, 110, 116])), (.int .i64 (.ofNat 9)), (.int .i64 (.ofNat 0))]⟩)
  xs := []
noncomputable def cons76 : BT Con := addTo cons75 317 m75
/-- strings.IndexByte, 27 steps -/
def m76 : Memo where
  pre := []
  args := [(.string (bs [9, 10, 13, 32])), (.int .u8 (.ofNat 58))]
  v := (.int .i64 (.negSucc 0))
  xs := []
noncomputable def cons77 : BT Con := addTo cons76 210 m76
/-- strings.IndexByte, 27 steps -/
def m77 : Memo where
  pre := []
  args := [(.string (bs [9, 10, 13, 32])), (.int .u8 (.ofNat 49))]
  v := (.int .i64 (.negSucc 0))
  xs := []
noncomputable def cons78 : BT Con := addTo cons77 210 m77
/-- strconv.ParseInt, 400 steps -/
def m78 : Memo where
  pre := []
  args := [(.string (bs [49])), (.int .i64 (.ofNat 10)), (.int .i64 (.ofNat 64))]
  v := (.tuple ⟨[(.int .i64 (.ofNat 1)), .nilIface]⟩)
  xs := []
noncomputable def cons79 : BT Con := addTo cons78 271 m78
/-- strings.IndexByte, 27 steps -/
def m79 : Memo where
  pre := []
  args := [(.string (bs [9, 10, 13, 32])), (.int .u8 (.ofNat 44))]
  v := (.int .i64 (.negSucc 0))
  xs := []
noncomputable def cons80 : BT Con := addTo cons79 210 m79
/-- commonplace/utf.Unquote, 907 steps -/
def m80 : Memo where
  pre := []
  args := [(.string (bs [123, 34, 99, 108, 105, 101, 110, 116, 34, 58, 49, 44, 34, 108, 105, 115, 116, 34, 58, 91, 123, 34, 105, 100, 34, 58, 49, 44, 34, 109, 117, 116, 97, 116, 111, 114, 34, 58, 123, 34, 97, 114, 103, 115, 34, 58, 123, 34, 107, 101, 121, 34, 58, 34, 97, 34, 44, 34, 118, 97, 108, 117, 101, 34, 58, 110, 117, 108, 108, 125, 44, 34, 110, 97, 109, 101, 34, 58, 34, 112, 117, 116, 34, 125, 125, 44, 123, 34, 105, 100, 34, 58, 50, 44, 34, 109, 117, 116, 97, 116, 111, 114, 34, 58, 123, 34, 97, 114, 103, 115, 34, 58, 123, 34, 107, 101, 121, 34, 58, 34, 98, 34, 44, 34, 118, 97, 108, 117, 101, 34, 58, 110, 117, 108, 108, 125, 44, 34, 110, 97, 109, 101, 34, 58, 34, 112, 117, 116, 34, 125, 125, 44, 123, 34, 105, 100, 34, 58, 51, 44, 34, 109, 117, 116, 97, 116, 111, 114, 34, 58, 123, 34, 97, 114, 103, 115, 34, 58, 123, 34, 107, 101, 121, 34, 58, 34, 99, 34, 44, 34, 118, 97, 108, 117, 101, 34, 58, 110, 117, 108, 108, 125, 44, 34, 110, 97, 109, 101, 34, 58, 34, 112, 117, 116, 34, 125, 125, 93, 125])), (.int .i64 (.ofNat 12))]
  v := (.tuple ⟨[(.string (bs [108, 105, 115, 116])), (.int .i64 (.ofNat 18)), (.int .i64 (.ofNat 0))]⟩)
  xs := []
noncomputable def cons81 : BT Con := addTo cons80 317 m80
/-- strings.IndexByte, 27 steps -/
def m81 : Memo where
  pre := []
  args := [(.string (bs [9, 10, 13, 32])), (.int .u8 (.ofNat 91))]
  v := (.int .i64 (.negSucc 0))
  xs := []
noncomputable def cons82 : BT Con := addTo cons81 210 m81
/-- commonplace/utf.Unquote, 515 steps -/
def m82 : Memo where
  pre := []
  args := [(.string (bs [123, 34, 99, 108, 105, 101, 110, 116, 34, 58, 49, 44, 34, 108, 105, 115, 116, 34, 58, 91, 123, 34, 105, 100, 34, 58, 49, 44, 34, 109, 117, 116, 97, 116, 111, 114, 34, 58, 123, 34, 97, 114, 103, 115, 34, 58, 123, 34, 107, 101, 121, 34, 58, 34, 97, 34, 44, 34, 118, 97, 108, 117, 101, 34, 58, 110, 117, 108, 108, 125, 44, 34, 110, 97, 109, 101, 34, 58, 34, 112, 117, 116, 34, 125, 125, 44, 123, 34, 105, 100, 34, 58, 50, 44, 34, 109, 117, 116, 97, 116, 111, 114, 34, 58, 123, 34, 97, 114, 103, 115, 34, 58, 123, 34, 107, 101, 121, 34, 58, 34, 98, 34, 44, 34, 118, 97, 108, 117, 101, 34, 58, 110, 117, 108, 108, 125, 44, 34, 110, 97, 109, 101, 34, 58, 34, 112, 117, 116, 34, 125, 125, 44, 123, 34, 105, 100, 34, 58, 51, 44, 34, 109, 117, 116, 97, 116, 111, 114, 34, 58, 123, 34, 97, 114, 103, 115, 34, 58, 123, 34, 107, 101, 121, 34, 58, 34, 99, 34, 44, 34, 118, 97, 108, 117, 101, 34, 58, 110, 117, 108, 108, 125, 44, 34, 110, 97, 109, 101, 34, 58, 34, 112, 117, 116, 34, 125, 125, 93, 125])), (.int .i64 (.ofNat 21))]
  v := (.tuple ⟨[(.string (bs [105, 100])), (.int .i64 (.ofNat 25)), (.int .i64 (.ofNat 0))]⟩)
  xs := []
noncomputable def cons83 : BT Con := addTo cons82 317 m82
/-- commonplace/utf.Unquote, 1495 steps -/
def m83 : Memo where
  pre := []
  args := [(.string (bs [123, 34, 99, 108, 105, 101, 110, 116, 34, 58, 49, 44, 34, 108, 105, 115, 116, 34, 58, 91, 123, 34, 105, 100, 34, 58, 49, 44, 34, 109, 117, 116, 97, 116, 111, 114, 34, 58, 123, 34, 97, 114, 103, 115, 34, 58, 123, 34, 107, 101, 121, 34, 58, 34, 97, 34, 44, 34, 118, 97, 108, 117, 101, 34, 58, 110, 117, 108, 108, 125, 44, 34, 110, 97, 109, 101, 34, 58, 34, 112, 117, 116, 34, 125, 125, 44, 123, 34, 105, 100, 34, 58, 50, 44, 34, 109, 117, 116, 97, 116, 111, 114, 34, 58, 123, 34, 97, 114, 103, 115, 34, 58, 123, 34, 107, 101, 121, 34, 58, 34, 98, 34, 44, 34, 118, 97, 108, 117, 101, 34, 58, 110, 117, 108, 108, 125, 44, 34, 110, 97, 109, 101, 34, 58, 34, 112, 117, 116, 34, 125, 125, 44, 123, 34, 105, 100, 34, 58, 51, 44, 34, 109, 117, 116, 97, 116, 111, 114, 34, 58, 123, 34, 97, 114, 103, 115, 34, 58, 123, 34, 107, 101, 121, 34, 58, 34, 99, 34, 44, 34, 118, 97, 108, 117, 101, 34, 58, 110, 117, 108, 108, 125, 44, 34, 110, 97, 109, 101, 34, 58, 34, 112, 117, 116, 34, 125, 125, 93, 125])), (.int .i64 (.ofNat 28))]
  v := (.tuple ⟨[(.string (bs [109, 117, 116, 97, 116, 111, 114])), (.int .i64 (.ofNat 37)), (.int .i64 (.ofNat 0))]⟩)
  xs := []
noncomputable def cons84 : BT Con := addTo cons83 317 m83
/-- commonplace/utf.Unquote, 907 steps -/
def m84 : Memo where
  pre := []
  args := [(.string (bs [123, 34, 99, 108, 105, 101, 110, 116, 34, 58, 49, 44, 34, 108, 105, 115, 116, 34, 58, 91, 123, 34, 105, 100, 34, 58, 49, 44, 34, 109, 117, 116, 97, 116, 111, 114, 34, 58, 123, 34, 97, 114, 103, 115, 34, 58, 123, 34, 107, 101, 121, 34, 58, 34, 97, 34, 44, 34, 118, 97, 108, 117, 101, 34, 58, 110, 117, 108, 108, 125, 44, 34, 110, 97, 109, 101, 34, 58, 34, 112, 117, 116, 34, 125, 125, 44, 123, 34, 105, 100, 34, 58, 50, 44, 34, 109, 117, 116, 97, 116, 111, 114, 34, 58, 123, 34, 97, 114, 103, 115, 34, 58, 123, 34, 107, 101, 121, 34, 58, 34, 98, 34, 44, 34, 118, 97, 108, 117, 101, 34, 58, 110, 117, 108, 108, 125, 44, 34, 110, 97, 109, 101, 34, 58, 34, 112, 117, 116, 34, 125, 125, 44, 123, 34, 105, 100, 34, 58, 51, 44, 34, 109, 117, 116, 97, 116, 111, 114, 34, 58, 123, 34, 97, 114, 103, 115, 34, 58, 123, 34, 107, 101, 121, 34, 58, 34, 99, 34, 44, 34, 118, 97, 108, 117, 101, 34, 58, 110, 117, 108, 108, 125, 44, 34, 110, 97, 109, 101, 34, 58, 34, 112, 117, 116, 34, 125, 125, 93, 125])), (.int .i64 (.ofNat 39))]
  v := (.tuple ⟨[(.string (bs [97, 114, 103, 115])), (.int .i64 (.ofNat 45)), (.int .i64 (.ofNat 0))]⟩)
  xs := []
noncomputable def cons85 : BT Con := addTo cons84 317 m84
/-- commonplace/utf.Unquote, 711 steps -/
def m85 : Memo where
  pre := []
  args := [(.string (bs [123, 34, 99, 108, 105, 101, 110, 116, 34, 58, 49, 44, 34, 108, 105, 115, 116, 34, 58, 91, 123, 34, 105, 100, 34, 58, 49, 44, 34, 109, 117, 116, 97, 116, 111, 114, 34, 58, 123, 34, 97, 114, 103, 115, 34, 58, 123, 34, 107, 101, 121, 34, 58, 34, 97, 34, 44, 34, 118, 97, 108, 117, 101, 34, 58, 110, 117, 108, 108, 125, 44, 34, 110, 97, 109, 101, 34, 58, 34, 112, 117, 116, 34, 125, 125, 44, 123, 34, 105, 100, 34, 58, 50, 44, 34, 109, 117, 116, 97, 116, 111, 114, 34, 58, 123, 34, 97, 114, 103, 115, 34, 58, 123, 34, 107, 101, 121, 34, 58, 34, 98, 34, 44, 34, 118, 97, 108, 117, 101, 34, 58, 110, 117, 108, 108, 125, 44, 34, 110, 97, 109, 101, 34, 58, 34, 112, 117, 116, 34, 125, 125, 44, 123, 34, 105, 100, 34, 58, 51, 44, 34, 109, 117, 116, 97, 116, 111, 114, 34, 58, 123, 34, 97, 114, 103, 115, 34, 58, 123, 34, 107, 101, 121, 34, 58, 34, 99, 34, 44, 34, 118, 97, 108, 117, 101, 34, 58, 110, 117, 108, 108, 125, 44, 34, 110, 97, 109, 101, 34, 58, 34, 112, 117, 116, 34, 125, 125, 93, 125])), (.int .i64 (.ofNat 47))]
  v := (.tuple ⟨[(.string (bs [107, 101, 121])), (.int .i64 (.ofNat 52)), (.int .i64 (.ofNat 0))]⟩)
  xs := []
noncomputable def cons86 : BT Con := addTo cons85 317 m85
/-- commonplace/utf.Unquote, 319 steps -/
def m86 : Memo where
  pre := []
  args := [(.string (bs [123, 34, 99, 108, 105, 101, 110, 116, 34, 58, 49, 44, 34, 108, 105, 115, 116, 34, 58, 91, 123, 34, 105, 100, 34, 58, 49, 44, 34, 109, 117, 116, 97, 116, 111, 114, 34, 58, 123, 34, 97, 114, 103, 115, 34, 58, 123, 34, 107, 101, 121, 34, 58, 34, 97, 34, 44, 34, 118, 97, 108, 117, 101, 34, 58, 110, 117, 108, 108, 125, 44, 34, 110, 97, 109, 101, 34, 58, 34, 112, 117, 116, 34, 125, 125, 44, 123, 34, 105, 100, 34, 58, 50, 44, 34, 109, 117, 116, 97, 116, 111, 114, 34, 58, 123, 34, 97, 114, 103, 115, 34, 58, 123, 34, 107, 101, 121, 34, 58, 34, 98, 34, 44, 34, 118, 97, 108, 117, 101, 34, 58, 110, 117, 108, 108, 125, 44, 34, 110, 97, 109, 101, 34, 58, 34, 112, 117, 116, 34, 125, 125, 44, 123, 34, 105, 100, 34, 58, 51, 44, 34, 109, 117, 116, 97, 116, 111, 114, 34, 58, 123, 34, 97, 114, 103, 115, 34, 58, 123, 34, 107, 101, 121, 34, 58, 34, 99, 34, 44, 34, 118, 97, 108, 117, 101, 34, 58, 110, 117, 108, 108, 125, 44, 34, 110, 97, 109, 101, 34, 58, 34, 112, 117, 116, 34, 125, 125, 93, 125])), (.int .i64 (.ofNat 53))]
  v := (.tuple ⟨[(.string (bs [97])), (.int .i64 (.ofNat 56)), (.int .i64 (.ofNat 0))]⟩)
  xs := []
noncomputable def cons87 : BT Con := addTo cons86 317 m86
/-- commonplace/utf.Unquote, 1103 steps -/
def m87 : Memo where
  pre := []
  args := [(.string (bs [123, 34, 99, 108, 105, 101, 110, 116, 34, 58, 49, 44, 34, 108, 105, 115, 116, 34, 58, 91, 123, 34, 105, 100, 34, 58, 49, 44, 34, 109, 117, 116, 97, 116, 111, 114, 34, 58, 123, 34, 97, 114, 103, 115, 34, 58, 123, 34, 107, 101, 121, 34, 58, 34, 97, 34, 44, 34, 118, 97, 108, 117, 101, 34, 58, 110, 117, 108, 108, 125, 44, 34, 110, 97, 109, 101, 34, 58, 34, 112, 117, 116, 34, 125, 125, 44, 123, 34, 105, 100, 34, 58, 50, 44, 34, 109, 117, 116, 97, 116, 111, 114, 34, 58, 123, 34, 97, 114, 103, 115, 34, 58, 123, 34, 107, 101, 121, 34, 58, 34, 98, 34, 44, 34, 118, 97, 108, 117, 101, 34, 58, 110, 117, 108, 108, 125, 44, 34, 110, 97, 109, 101, 34, 58, 34, 112, 117, 116, 34, 125, 125, 44, 123, 34, 105, 100, 34, 58, 51, 44, 34, 109, 117, 116, 97, 116, 111, 114, 34, 58, 123, 34, 97, 114, 103, 115, 34, 58, 123, 34, 107, 101, 121, 34, 58, 34, 99, 34, 44, 34, 118, 97, 108, 117, 101, 34, 58, 110, 117, 108, 108, 125, 44, 34, 110, 97, 109, 101, 34, 58, 34, 112, 117, 116, 34, 125, 125, 93, 125])), (.int .i64 (.ofNat 57))]
  v := (.tuple ⟨[(.string (bs [118, 97, 108, 117, 101])), (.int .i64 (.ofNat 64)), (.int .i64 (.ofNat 0))]⟩)
  xs := []
noncomputable def cons88 : BT Con := addTo cons87 317 m87
/-- strings.IndexByte, 27 steps -/
def m88 : Memo where
  pre := []
  args := [(.string (bs [9, 10, 13, 32])), (.int .u8 (.ofNat 110))]
  v := (.int .i64 (.negSucc 0))
  xs := []
noncomputable def cons89 : BT Con := addTo cons88 210 m88
/-- strings.IndexByte, 27 steps -/
def m89 : Memo where
  pre := []
  args := [(.string (bs [9, 10, 13, 32])), (.int .u8 (.ofNat 125))]
  v := (.int .i64 (.negSucc 0))
  xs := []
noncomputable def cons90 : BT Con := addTo cons89 210 m89
/-- commonplace/value.Copy, 176 steps -/
def m90 : Memo where
  pre := [([(.string (bs [107, 101, 121])), (.int .i64 (.ofNat 4)), (.bool false), (.int .i64 (.ofNat 0)), (.string (bs [97])), (.slice none 0 0), (.slice none 0 0), (.string (bs [118, 97, 108, 117, 101])), (.int .i64 (.ofNat 1)), (.bool false), (.int .i64 (.ofNat 0)), (.string (bs [])), (.slice none 0 0), (.slice none 0 0)], 128)]
  args := [(.agg ⟨[(.int .i64 (.ofNat 0)), (.bool false), (.int .i64 (.ofNat 0)), (.string (bs [])), (.slice none 0 0), (.slice (some ⟨0, 0, none⟩) 2 OPEN)]⟩)]
  v := (.agg ⟨[(.int .i64 (.ofNat 0)), (.bool false), (.int .i64 (.ofNat 0)), (.string (bs [])), (.slice none 0 0), (.slice (some ⟨1, 0, none⟩) 2 OPEN)]⟩)
  xs := [.cells [(.string (bs [107, 101, 121])), (.int .i64 (.ofNat 4)), (.bool false), (.int .i64 (.ofNat 0)), (.string (bs [97])), (.slice none 0 0), (.slice none 0 0), (.string (bs [118, 97, 108, 117, 101])), (.int .i64 (.ofNat 1)), (.bool false), (.int .i64 (.ofNat 0)), (.string (bs [])), (.slice none 0 0), (.slice none 0 0)] 128 1]
noncomputable def cons91 : BT Con := addTo cons90 74 m90
/-- commonplace/value.Object, 297 steps -/
def m91 : Memo where
  pre := [([(.string (bs [107, 101, 121])), (.int .i64 (.ofNat 4)), (.bool false), (.int .i64 (.ofNat 0)), (.string (bs [97])), (.slice none 0 0), (.slice none 0 0), (.string (bs [118, 97, 108, 117, 101])), (.int .i64 (.ofNat 1)), (.bool false), (.int .i64 (.ofNat 0)), (.string (bs [])), (.slice none 0 0), (.slice none 0 0)], 128)]
  args := [(.slice (some ⟨0, 0, none⟩) 2 OPEN)]
  v := (.tuple ⟨[(.agg ⟨[(.int .i64 (.ofNat 6)), (.bool false), (.int .i64 (.ofNat 0)), (.string (bs [])), (.slice none 0 0), (.slice (some ⟨1, 0, none⟩) 2 OPEN)]⟩), (.int .i64 (.ofNat 0))]⟩)
  xs := [.cells [(.string (bs [107, 101, 121])), (.int .i64 (.ofNat 4)), (.bool false), (.int .i64 (.ofNat 0)), (.string (bs [97])), (.slice none 0 0), (.slice none 0 0), (.string (bs [118, 97, 108, 117, 101])), (.int .i64 (.ofNat 1)), (.bool false), (.int .i64 (.ofNat 0)), (.string (bs [])), (.slice none 0 0), (.slice none 0 0)] 128 1]
noncomputable def cons92 : BT Con := addTo cons91 127 m91
/-- commonplace/utf.Unquote, 907 steps -/
def m92 : Memo where
  pre := []
  args := [(.string (bs [123, 34, 99, 108, 105, 101, 110, 116, 34, 58, 49, 44, 34, 108, 105, 115, 116, 34, 58, 91, 123, 34, 105, 100, 34, 58, 49, 44, 34, 109, 117, 116, 97, 116, 111, 114, 34, 58, 123, 34, 97, 114, 103, 115, 34, 58, 123, 34, 107, 101, 121, 34, 58, 34, 97, 34, 44, 34, 118, 97, 108, 117, 101, 34, 58, 110, 117, 108, 108, 125, 44, 34, 110, 97, 109, 101, 34, 58, 34, 112, 117, 116, 34, 125, 125, 44, 123, 34, 105, 100, 34, 58, 50, 44, 34, 109, 117, 116, 97, 116, 111, 114, 34, 58, 123, 34, 97, 114, 103, 115, 34, 58, 123, 34, 107, 101, 121, 34, 58, 34, 98, 34, 44, 34, 118, 97, 108, 117, 101, 34, 58, 110, 117, 108, 108, 125, 44, 34, 110, 97, 109, 101, 34, 58, 34, 112, 117, 116, 34, 125, 125, 44, 123, 34, 105, 100, 34, 58, 51, 44, 34, 109, 117, 116, 97, 116, 111, 114, 34, 58, 123, 34, 97, 114, 103, 115, 34, 58, 123, 34, 107, 101, 121, 34, 58, 34, 99, 34, 44, 34, 118, 97, 108, 117, 101, 34, 58, 110, 117, 108, 108, 125, 44, 34, 110, 97, 109, 101, 34, 58, 34, 112, 117, 116, 34, 125, 125, 93, 125])), (.int .i64 (.ofNat 71))]
  v := (.tuple ⟨[(.string (bs [110, 97, 109, 101])), (.int .i64 (.ofNat 77)), (.int .i64 (.ofNat 0))]⟩)
  xs := []
noncomputable def cons93 : BT Con := addTo cons92 317 m92
/-- commonplace/utf.Unquote, 711 steps -/
def m93 : Memo where
  pre := []
  args := [(.string (bs [123, 34, 99, 108, 105, 101, 110, 116, 34, 58, 49, 44, 34, 108, 105, 115, 116, 34, 58, 91, 123, 34, 105, 100, 34, 58, 49, 44, 34, 109, 117, 116, 97, 116, 111, 114, 34, 58, 123, 34, 97, 114, 103, 115, 34, 58, 123, 34, 107, 101, 121, 34, 58, 34, 97, 34, 44, 34, 118, 97, 108, 117, 101, 34, 58, 110, 117, 108, 108, 125, 44, 34, 110, 97, 109, 101, 34, 58, 34, 112, 117, 116, 34, 125, 125, 44, 123, 34, 105, 100, 34, 58, 50, 44, 34, 109, 117, 116, 97, 116, 111, 114, 34, 58, 123, 34, 97, 114, 103, 115, 34, 58, 123, 34, 107, 101, 121, 34, 58, 34, 98, 34, 44, 34, 118, 97, 108, 117, 101, 34, 58, 110, 117, 108, 108, 125, 44, 34, 110, 97, 109, 101, 34, 58, 34, 112, 117, 116, 34, 125, 125, 44, 123, 34, 105, 100, 34, 58, 51, 44, 34, 109, 117, 116, 97, 116, 111, 114, 34, 58, 123, 34, 97, 114, 103, 115, 34, 58, 123, 34, 107, 101, 121, 34, 58, 34, 99, 34, 44, 34, 118, 97, 108, 117, 101, 34, 58, 110, 117, 108, 108, 125, 44, 34, 110, 97, 109, 101, 34, 58, 34, 112, 117, 116, 34, 125, 125, 93, 125])), (.int .i64 (.ofNat 78))]
  v := (.tuple ⟨[(.string (bs [112, 117, 116])), (.int .i64 (.ofNat 83)), (.int .i64 (.ofNat 0))]⟩)
  xs := []
noncomputable def cons94 : BT Con := addTo cons93 317 m93
/-- commonplace/value.Copy, 176 steps -/
def m94 : Memo where
  pre := [([(.string (bs [107, 101, 121])), (.int .i64 (.ofNat 4)), (.bool false), (.int .i64 (.ofNat 0)), (.string (bs [97])), (.slice none 0 0), (.slice none 0 0), (.string (bs [118, 97, 108, 117, 101])), (.int .i64 (.ofNat 1)), (.bool false), (.int .i64 (.ofNat 0)), (.string (bs [])), (.slice none 0 0), (.slice none 0 0)], 128)]
  args := [(.agg ⟨[(.int .i64 (.ofNat 6)), (.bool false), (.int .i64 (.ofNat 0)), (.string (bs [])), (.slice none 0 0), (.slice (some ⟨0, 0, none⟩) 2 OPEN)]⟩)]
  v := (.agg ⟨[(.int .i64 (.ofNat 6)), (.bool false), (.int .i64 (.ofNat 0)), (.string (bs [])), (.slice none 0 0), (.slice (some ⟨1, 0, none⟩) 2 OPEN)]⟩)
  xs := [.cells [(.string (bs [107, 101, 121])), (.int .i64 (.ofNat 4)), (.bool false), (.int .i64 (.ofNat 0)), (.string (bs [97])), (.slice none 0 0), (.slice none 0 0), (.string (bs [118, 97, 108, 117, 101])), (.int .i64 (.ofNat 1)), (.bool false), (.int .i64 (.ofNat 0)), (.string (bs [])), (.slice none 0 0), (.slice none 0 0)] 128 1]
noncomputable def cons95 : BT Con := addTo cons94 74 m94
/-- commonplace/value.Copy, 98 steps -/
def m95 : Memo where
  pre := []
  args := [(.agg ⟨[(.int .i64 (.ofNat 4)), (.bool false), (.int .i64 (.ofNat 0)), (.string (bs [112, 117, 116])), (.slice none 0 0), (.slice none 0 0)]⟩)]
  v := (.agg ⟨[(.int .i64 (.ofNat 4)), (.bool false), (.int .i64 (.ofNat 0)), (.string (bs [112, 117, 116])), (.slice none 0 0), (.slice none 0 0)]⟩)
  xs := []
noncomputable def cons96 : BT Con := addTo cons95 74 m95
/-- commonplace/value.Copy, 176 steps -/
def m96 : Memo where
  pre := [([(.string (bs [97, 114, 103, 115])), (.int .i64 (.ofNat 6)), (.bool false), (.int .i64 (.ofNat 0)), (.string (bs [])), (.slice none 0 0), (.slice (some ⟨1, 0, none⟩) 2 OPEN), (.string (bs [110, 97, 109, 101])), (.int .i64 (.ofNat 4)), (.bool false), (.int .i64 (.ofNat 0)), (.string (bs [112, 117, 116])), (.slice none 0 0), (.slice none 0 0)], 128), ([(.string (bs [107, 101, 121])), (.int .i64 (.ofNat 4)), (.bool false), (.int .i64 (.ofNat 0)), (.string (bs [97])), (.slice none 0 0), (.slice none 0 0), (.string (bs [118, 97, 108, 117, 101])), (.int .i64 (.ofNat 1)), (.bool false), (.int .i64 (.ofNat 0)), (.string (bs [])), (.slice none 0 0), (.slice none 0 0)], 128)]
  args := [(.agg ⟨[(.int .i64 (.ofNat 0)), (.bool false), (.int .i64 (.ofNat 0)), (.string (bs [])), (.slice none 0 0), (.slice (some ⟨0, 0, none⟩) 2 OPEN)]⟩)]
  v := (.agg ⟨[(.int .i64 (.ofNat 0)), (.bool false), (.int .i64 (.ofNat 0)), (.string (bs [])), (.slice none 0 0), (.slice (some ⟨2, 0, none⟩) 2 OPEN)]⟩)
  xs := [.cells [(.string (bs [97, 114, 103, 115])), (.int .i64 (.ofNat 6)), (.bool false), (.int .i64 (.ofNat 0)), (.string (bs [])), (.slice none 0 0), (.slice (some ⟨3, 0, none⟩) 2 OPEN), (.string (bs [110, 97, 109, 101])), (.int .i64 (.ofNat 4)), (.bool false), (.int .i64 (.ofNat 0)), (.string (bs [112, 117, 116])), (.slice none 0 0), (.slice none 0 0)] 128 1, .cells [(.string (bs [107, 101, 121])), (.int .i64 (.ofNat 4)), (.bool false), (.int .i64 (.ofNat 0)), (.string (bs [97])), (.slice none 0 0), (.slice none 0 0), (.string (bs [118, 97, 108, 117, 101])), (.int .i64 (.ofNat 1)), (.bool false), (.int .i64 (.ofNat 0)), (.string (bs [])), (.slice none 0 0), (.slice none 0 0)] 128 1]
noncomputable def cons97 : BT Con := addTo cons96 74 m96
/-- commonplace/value.Object, 297 steps -/
def m97 : Memo where
  pre := [([(.string (bs [97, 114, 103, 115])), (.int .i64 (.ofNat 6)), (.bool false), (.int .i64 (.ofNat 0)), (.string (bs [])), (.slice none 0 0), (.slice (some ⟨1, 0, none⟩) 2 OPEN), (.string (bs [110, 97, 109, 101])), (.int .i64 (.ofNat 4)), (.bool false), (.int .i64 (.ofNat 0)), (.string (bs [112, 117, 116])), (.slice none 0 0), (.slice none 0 0)], 128), ([(.string (bs [107, 101, 121])), (.int .i64 (.ofNat 4)), (.bool false), (.int .i64 (.ofNat 0)), (.string (bs [97])), (.slice none 0 0), (.slice none 0 0), (.string (bs [118, 97, 108, 117, 101])), (.int .i64 (.ofNat 1)), (.bool false), (.int .i64 (.ofNat 0)), (.string (bs [])), (.slice none 0 0), (.slice none 0 0)], 128)]
  args := [(.slice (some ⟨0, 0, none⟩) 2 OPEN)]
  v := (.tuple ⟨[(.agg ⟨[(.int .i64 (.ofNat 6)), (.bool false), (.int .i64 (.ofNat 0)), (.string (bs [])), (.slice none 0 0), (.slice (some ⟨2, 0, none⟩) 2 OPEN)]⟩), (.int .i64 (.ofNat 0))]⟩)
  xs := [.cells [(.string (bs [97, 114, 103, 115])), (.int .i64 (.ofNat 6)), (.bool false), (.int .i64 (.ofNat 0)), (.string (bs [])), (.slice none 0 0), (.slice (some ⟨3, 0, none⟩) 2 OPEN), (.string (bs [110, 97, 109, 101])), (.int .i64 (.ofNat 4)), (.bool false), (.int .i64 (.ofNat 0)), (.string (bs [112, 117, 116])), (.slice none 0 0), (.slice none 0 0)] 128 1, .cells [(.string (bs [107, 101, 121])), (.int .i64 (.ofNat 4)), (.bool false), (.int .i64 (.ofNat 0)), (.string (bs [97])), (.slice none 0 0), (.slice none 0 0), (.string (bs [118, 97, 108, 117, 101])), (.int .i64 (.ofNat 1)), (.bool false), (.int .i64 (.ofNat 0)), (.string (bs [])), (.slice none 0 0), (.slice none 0 0)] 128 1]
noncomputable def cons98 : BT Con := addTo cons97 127 m97
/-- commonplace/value.Copy, 98 steps -/
def m98 : Memo where
  pre := []
  args := [(.agg ⟨[(.int .i64 (.ofNat 3)), (.bool false), (.int .i64 (.ofNat 1)), (.string (bs [])), (.slice none 0 0), (.slice none 0 0)]⟩)]
  v := (.agg ⟨[(.int .i64 (.ofNat 3)), (.bool false), (.int .i64 (.ofNat 1)), (.string (bs [])), (.slice none 0 0), (.slice none 0 0)]⟩)
  xs := []
noncomputable def cons99 : BT Con := addTo cons98 74 m98
/-- commonplace/value.Copy, 176 steps -/
def m99 : Memo where
  pre := [([(.string (bs [97, 114, 103, 115])), (.int .i64 (.ofNat 6)), (.bool false), (.int .i64 (.ofNat 0)), (.string (bs [])), (.slice none 0 0), (.slice (some ⟨1, 0, none⟩) 2 OPEN), (.string (bs [110, 97, 109, 101])), (.int .i64 (.ofNat 4)), (.bool false), (.int .i64 (.ofNat 0)), (.string (bs [112, 117, 116])), (.slice none 0 0), (.slice none 0 0)], 128), ([(.string (bs [107, 101, 121])), (.int .i64 (.ofNat 4)), (.bool false), (.int .i64 (.ofNat 0)), (.string (bs [97])), (.slice none 0 0), (.slice none 0 0), (.string (bs [118, 97, 108, 117, 101])), (.int .i64 (.ofNat 1)), (.bool false), (.int .i64 (.ofNat 0)), (.string (bs [])), (.slice none 0 0), (.slice none 0 0)], 128)]
  args := [(.agg ⟨[(.int .i64 (.ofNat 6)), (.bool false), (.int .i64 (.ofNat 0)), (.string (bs [])), (.slice none 0 0), (.slice (some ⟨0, 0, none⟩) 2 OPEN)]⟩)]
  v := (.agg ⟨[(.int .i64 (.ofNat 6)), (.bool false), (.int .i64 (.ofNat 0)), (.string (bs [])), (.slice none 0 0), (.slice (some ⟨2, 0, none⟩) 2 OPEN)]⟩)
  xs := [.cells [(.string (bs [97, 114, 103, 115])), (.int .i64 (.ofNat 6)), (.bool false), (.int .i64 (.ofNat 0)), (.string (bs [])), (.slice none 0 0), (.slice (some ⟨3, 0, none⟩) 2 OPEN), (.string (bs [110, 97, 109, 101])), (.int .i64 (.ofNat 4)), (.bool false), (.int .i64 (.ofNat 0)), (.string (bs [112, 117, 116])), (.slice none 0 0), (.slice none 0 0)] 128 1, .cells [(.string (bs [107, 101, 121])), (.int .i64 (.ofNat 4)), (.bool false), (.int .i64 (.ofNat 0)), (.string (bs [97])), (.slice none 0 0), (.slice none 0 0), (.string (bs [118, 97, 108, 117, 101])), (.int .i64 (.ofNat 1)), (.bool false), (.int .i64 (.ofNat 0)), (.string (bs [])), (.slice none 0 0), (.slice none 0 0)] 128 1]
noncomputable def cons100 : BT Con := addTo cons99 74 m99
/-- commonplace/value.Copy, 176 steps -/
def m100 : Memo where
  pre := [([(.string (bs [105, 100])), (.int .i64 (.ofNat 3)), (.bool false), (.int .i64 (.ofNat 1)), (.string (bs [])), (.slice none 0 0), (.slice none 0 0), (.string (bs [109, 117, 116, 97, 116, 111, 114])), (.int .i64 (.ofNat 6)), (.bool false), (.int .i64 (.ofNat 0)), (.string (bs [])), (.slice none 0 0), (.slice (some ⟨1, 0, none⟩) 2 OPEN)], 128), ([(.string (bs [97, 114, 103, 115])), (.int .i64 (.ofNat 6)), (.bool false), (.int .i64 (.ofNat 0)), (.string (bs [])), (.slice none 0 0), (.slice (some ⟨2, 0, none⟩) 2 OPEN), (.string (bs [110, 97, 109, 101])), (.int .i64 (.ofNat 4)), (.bool false), (.int .i64 (.ofNat 0)), (.string (bs [112, 117, 116])), (.slice none 0 0), (.slice none 0 0)], 128), ([(.string (bs [107, 101, 121])), (.int .i64 (.ofNat 4)), (.bool false), (.int .i64 (.ofNat 0)), (.string (bs [97])), (.slice none 0 0), (.slice none 0 0), (.string (bs [118, 97, 108, 117, 101])), (.int .i64 (.ofNat 1)), (.bool false), (.int .i64 (.ofNat 0)), (.string (bs [])), (.slice none 0 0), (.slice none 0 0)], 128)]
  args := [(.agg ⟨[(.int .i64 (.ofNat 0)), (.bool false), (.int .i64 (.ofNat 0)), (.string (bs [])), (.slice none 0 0), (.slice (some ⟨0, 0, none⟩) 2 OPEN)]⟩)]
  v := (.agg ⟨[(.int .i64 (.ofNat 0)), (.bool false), (.int .i64 (.ofNat 0)), (.string (bs [])), (.slice none 0 0), (.slice (some ⟨3, 0, none⟩) 2 OPEN)]⟩)
  xs := [.cells [(.string (bs [105, 100])), (.int .i64 (.ofNat 3)), (.bool false), (.int .i64 (.ofNat 1)), (.string (bs [])), (.slice none 0 0), (.slice none 0 0), (.string (bs [109, 117, 116, 97, 116, 111, 114])), (.int .i64 (.ofNat 6)), (.bool false), (.int .i64 (.ofNat 0)), (.string (bs [])), (.slice none 0 0), (.slice (some ⟨4, 0, none⟩) 2 OPEN)] 128 1, .cells [(.string (bs [97, 114, 103, 115])), (.int .i64 (.ofNat 6)), (.bool false), (.int .i64 (.ofNat 0)), (.string (bs [])), (.slice none 0 0), (.slice (some ⟨5, 0, none⟩) 2 OPEN), (.string (bs [110, 97, 109, 101])), (.int .i64 (.ofNat 4)), (.bool false), (.int .i64 (.ofNat 0)), (.string (bs [112, 117, 116])), (.slice none 0 0), (.slice none 0 0)] 128 1, .cells [(.string (bs [107, 101, 121])), (.int .i64 (.ofNat 4)), (.bool false), (.int .i64 (.ofNat 0)), (.string (bs [97])), (.slice none 0 0), (.slice none 0 0), (.string (bs [118, 97, 108, 117, 101])), (.int .i64 (.ofNat 1)), (.bool false), (.int .i64 (.ofNat 0)), (.string (bs [])), (.slice none 0 0), (.slice none 0 0)] 128 1]
noncomputable def cons101 : BT Con := addTo cons100 74 m100
/-- commonplace/value.Object, 297 steps -/
def m101 : Memo where
  pre := [([(.string (bs [105, 100])), (.int .i64 (.ofNat 3)), (.bool false), (.int .i64 (.ofNat 1)), (.string (bs [])), (.slice none 0 0), (.slice none 0 0), (.string (bs [109, 117, 116, 97, 116, 111, 114])), (.int .i64 (.ofNat 6)), (.bool false), (.int .i64 (.ofNat 0)), (.string (bs [])), (.slice none 0 0), (.slice (some ⟨1, 0, none⟩) 2 OPEN)], 128), ([(.string (bs [97, 114, 103, 115])), (.int .i64 (.ofNat 6)), (.bool false), (.int .i64 (.ofNat 0)), (.string (bs [])), (.slice none 0 0), (.slice (some ⟨2, 0, none⟩) 2 OPEN), (.string (bs [110, 97, 109, 101])), (.int .i64 (.ofNat 4)), (.bool false), (.int .i64 (.ofNat 0)), (.string (bs [112, 117, 116])), (.slice none 0 0), (.slice none 0 0)], 128), ([(.string (bs [107, 101, 121])), (.int .i64 (.ofNat 4)), (.bool false), (.int .i64 (.ofNat 0)), (.string (bs [97])), (.slice none 0 0), (.slice none 0 0), (.string (bs [118, 97, 108, 117, 101])), (.int .i64 (.ofNat 1)), (.bool false), (.int .i64 (.ofNat 0)), (.string (bs [])), (.slice none 0 0), (.slice none 0 0)], 128)]
  args := [(.slice (some ⟨0, 0, none⟩) 2 OPEN)]
  v := (.tuple ⟨[(.agg ⟨[(.int .i64 (.ofNat 6)), (.bool false), (.int .i64 (.ofNat 0)), (.string (bs [])), (.slice none 0 0), (.slice (some ⟨3, 0, none⟩) 2 OPEN)]⟩), (.int .i64 (.ofNat 0))]⟩)
  xs := [.cells [(.string (bs [105, 100])), (.int .i64 (.ofNat 3)), (.bool false), (.int .i64 (.ofNat 1)), (.string (bs [])), (.slice none 0 0), (.slice none 0 0), (.string (bs [109, 117, 116, 97, 116, 111, 114])), (.int .i64 (.ofNat 6)), (.bool false), (.int .i64 (.ofNat 0)), (.string (bs [])), (.slice none 0 0), (.slice (some ⟨4, 0, none⟩) 2 OPEN)] 128 1, .cells [(.string (bs [97, 114, 103, 115])), (.int .i64 (.ofNat 6)), (.bool false), (.int .i64 (.ofNat 0)), (.string (bs [])), (.slice none 0 0), (.slice (some ⟨5, 0, none⟩) 2 OPEN), (.string (bs [110, 97, 109, 101])), (.int .i64 (.ofNat 4)), (.bool false), (.int .i64 (.ofNat 0)), (.string (bs [112, 117, 116])), (.slice none 0 0), (.slice none 0 0)] 128 1, .cells [(.string (bs [107, 101, 121])), (.int .i64 (.ofNat 4)), (.bool false), (.int .i64 (.ofNat 0)), (.string (bs [97])), (.slice none 0 0), (.slice none 0 0), (.string (bs [118, 97, 108, 117, 101])), (.int .i64 (.ofNat 1)), (.bool false), (.int .i64 (.ofNat 0)), (.string (bs [])), (.slice none 0 0), (.slice none 0 0)] 128 1]
noncomputable def cons102 : BT Con := addTo cons101 127 m101
/-- commonplace/utf.Unquote, 515 steps -/
def m102 : Memo where
  pre := []
  args := [(.string (bs [123, 34, 99, 108, 105, 101, 110, 116, 34, 58, 49, 44, 34, 108, 105, 115, 116, 34, 58, 91, 123, 34, 105, 100, 34, 58, 49, 44, 34, 109, 117, 116, 97, 116, 111, 114, 34, 58, 123, 34, 97, 114, 103, 115, 34, 58, 123, 34, 107, 101, 121, 34, 58, 34, 97, 34, 44, 34, 118, 97, 108, 117, 101, 34, 58, 110, 117, 108, 108, 125, 44, 34, 110, 97, 109, 101, 34, 58, 34, 112, 117, 116, 34, 125, 125, 44, 123, 34, 105, 100, 34, 58, 50, 44, 34, 109, 117, 116, 97, 116, 111, 114, 34, 58, 123, 34, 97, 114, 103, 115, 34, 58, 123, 34, 107, 101, 121, 34, 58, 34, 98, 34, 44, 34, 118, 97, 108, 117, 101, 34, 58, 110, 117, 108, 108, 125, 44, 34, 110, 97, 109, 101, 34, 58, 34, 112, 117, 116, 34, 125, 125, 44, 123, 34, 105, 100, 34, 58, 51, 44, 34, 109, 117, 116, 97, 116, 111, 114, 34, 58, 123, 34, 97, 114, 103, 115, 34, 58, 123, 34, 107, 101, 121, 34, 58, 34, 99, 34, 44, 34, 118, 97, 108, 117, 101, 34, 58, 110, 117, 108, 108, 125, 44, 34, 110, 97, 109, 101, 34, 58, 34, 112, 117, 116, 34, 125, 125, 93, 125])), (.int .i64 (.ofNat 87))]
  v := (.tuple ⟨[(.string (bs [105, 100])), (.int .i64 (.ofNat 91)), (.int .i64 (.ofNat 0))]⟩)
  xs := []
noncomputable def cons103 : BT Con := addTo cons102 317 m102
/-- strings.IndexByte, 27 steps -/
def m103 : Memo where
  pre := []
  args := [(.string (bs [9, 10, 13, 32])), (.int .u8 (.ofNat 50))]
  v := (.int .i64 (.negSucc 0))
  xs := []
noncomputable def cons104 : BT Con := addTo cons103 210 m103
/-- strconv.ParseInt, 400 steps -/
def m104 : Memo where
  pre := []
  args := [(.string (bs [50])), (.int .i64 (.ofNat 10)), (.int .i64 (.ofNat 64))]
  v := (.tuple ⟨[(.int .i64 (.ofNat 2)), .nilIface]⟩)
  xs := []
noncomputable def cons105 : BT Con := addTo cons104 271 m104
/-- commonplace/utf.Unquote, 1495 steps -/
def m105 : Memo where
  pre := []
  args := [(.string (bs [123, 34, 99, 108, 105, 101, 110, 116, 34, 58, 49, 44, 34, 108, 105, 115, 116, 34, 58, 91, 123, 34, 105, 100, 34, 58, 49, 44, 34, 109, 117, 116, 97, 116, 111, 114, 34, 58, 123, 34, 97, 114, 103, 115, 34, 58, 123, 34, 107, 101, 121, 34, 58, 34, 97, 34, 44, 34, 118, 97, 108, 117, 101, 34, 58, 110, 117, 108, 108, 125, 44, 34, 110, 97, 109, 101, 34, 58, 34, 112, 117, 116, 34, 125, 125, 44, 123, 34, 105, 100, 34, 58, 50, 44, 34, 109, 117, 116, 97, 116, 111, 114, 34, 58, 123, 34, 97, 114, 103, 115, 34, 58, 123, 34, 107, 101, 121, 34, 58, 34, 98, 34, 44, 34, 118, 97, 108, 117, 101, 34, 58, 110, 117, 108, 108, 125, 44, 34, 110, 97, 109, 101, 34, 58, 34, 112, 117, 116, 34, 125, 125, 44, 123, 34, 105, 100, 34, 58, 51, 44, 34, 109, 117, 116, 97, 116, 111, 114, 34, 58, 123, 34, 97, 114, 103, 115, 34, 58, 123, 34, 107, 101, 121, 34, 58, 34, 99, 34, 44, 34, 118, 97, 108, 117, 101, 34, 58, 110, 117, 108, 108, 125, 44, 34, 110, 97, 109, 101, 34, 58, 34, 112, 117, 116, 34, 125, 125, 93, 125])), (.int .i64 (.ofNat 94))]
  v := (.tuple ⟨[(.string (bs [109, 117, 116, 97, 116, 111, 114])), (.int .i64 (.ofNat 103)), (.int .i64 (.ofNat 0))]⟩)
  xs := []
noncomputable def cons106 : BT Con := addTo cons105 317 m105
/-- commonplace/utf.Unquote, 907 steps -/
def m106 : Memo where
  pre := []
  args := [(.string (bs [123, 34, 99, 108, 105, 101, 110, 116, 34, 58, 49, 44, 34, 108, 105, 115, 116, 34, 58, 91, 123, 34, 105, 100, 34, 58, 49, 44, 34, 109, 117, 116, 97, 116, 111, 114, 34, 58, 123, 34, 97, 114, 103, 115, 34, 58, 123, 34, 107, 101, 121, 34, 58, 34, 97, 34, 44, 34, 118, 97, 108, 117, 101, 34, 58, 110, 117, 108, 108, 125, 44, 34, 110, 97, 109, 101, 34, 58, 34, 112, 117, 116, 34, 125, 125, 44, 123, 34, 105, 100, 34, 58, 50, 44, 34, 109, 117, 116, 97, 116, 111, 114, 34, 58, 123, 34, 97, 114, 103, 115, 34, 58, 123, 34, 107, 101, 121, 34, 58, 34, 98, 34, 44, 34, 118, 97, 108, 117, 101, 34, 58, 110, 117, 108, 108, 125, 44, 34, 110, 97, 109, 101, 34, 58, 34, 112, 117, 116, 34, 125, 125, 44, 123, 34, 105, 100, 34, 58, 51, 44, 34, 109, 117, 116, 97, 116, 111, 114, 34, 58, 123, 34, 97, 114, 103, 115, 34, 58, 123, 34, 107, 101, 121, 34, 58, 34, 99, 34, 44, 34, 118, 97, 108, 117, 101, 34, 58, 110, 117, 108, 108, 125, 44, 34, 110, 97, 109, 101, 34, 58, 34, 112, 117, 116, 34, 125, 125, 93, 125])), (.int .i64 (.ofNat 105))]
  v := (.tuple ⟨[(.string (bs [97, 114, 103, 115])), (.int .i64 (.ofNat 111)), (.int .i64 (.ofNat 0))]⟩)
  xs := []
noncomputable def cons107 : BT Con := addTo cons106 317 m106
/-- commonplace/utf.Unquote, 711 steps -/
def m107 : Memo where
  pre := []
  args := [(.string (bs [123, 34, 99, 108, 105, 101, 110, 116, 34, 58, 49, 44, 34, 108, 105, 115, 116, 34, 58, 91, 123, 34, 105, 100, 34, 58, 49, 44, 34, 109, 117, 116, 97, 116, 111, 114, 34, 58, 123, 34, 97, 114, 103, 115, 34, 58, 123, 34, 107, 101, 121, 34, 58, 34, 97, 34, 44, 34, 118, 97, 108, 117, 101, 34, 58, 110, 117, 108, 108, 125, 44, 34, 110, 97, 109, 101, 34, 58, 34, 112, 117, 116, 34, 125, 125, 44, 123, 34, 105, 100, 34, 58, 50, 44, 34, 109, 117, 116, 97, 116, 111, 114, 34, 58, 123, 34, 97, 114, 103, 115, 34, 58, 123, 34, 107, 101, 121, 34, 58, 34, 98, 34, 44, 34, 118, 97, 108, 117, 101, 34, 58, 110, 117, 108, 108, 125, 44, 34, 110, 97, 109, 101, 34, 58, 34, 112, 117, 116, 34, 125, 125, 44, 123, 34, 105, 100, 34, 58, 51, 44, 34, 109, 117, 116, 97, 116, 111, 114, 34, 58, 123, 34, 97, 114, 103, 115, 34, 58, 123, 34, 107, 101, 121, 34, 58, 34, 99, 34, 44, 34, 118, 97, 108, 117, 101, 34, 58, 110, 117, 108, 108, 125, 44, 34, 110, 97, 109, 101, 34, 58, 34, 112, 117, 116, 34, 125, 125, 93, 125])), (.int .i64 (.ofNat 113))]
  v := (.tuple ⟨[(.string (bs [107, 101, 121])), (.int .i64 (.ofNat 118)), (.int .i64 (.ofNat 0))]⟩)
  xs := []
noncomputable def cons108 : BT Con := addTo cons107 317 m107
/-- commonplace/utf.Unquote, 319 steps -/
def m108 : Memo where
  pre := []
  args := [(.string (bs [123, 34, 99, 108, 105, 101, 110, 116, 34, 58, 49, 44, 34, 108, 105, 115, 116, 34, 58, 91, 123, 34, 105, 100, 34, 58, 49, 44, 34, 109, 117, 116, 97, 116, 111, 114, 34, 58, 123, 34, 97, 114, 103, 115, 34, 58, 123, 34, 107, 101, 121, 34, 58, 34, 97, 34, 44, 34, 118, 97, 108, 117, 101, 34, 58, 110, 117, 108, 108, 125, 44, 34, 110, 97, 109, 101, 34, 58, 34, 112, 117, 116, 34, 125, 125, 44, 123, 34, 105, 100, 34, 58, 50, 44, 34, 109, 117, 116, 97, 116, 111, 114, 34, 58, 123, 34, 97, 114, 103, 115, 34, 58, 123, 34, 107, 101, 121, 34, 58, 34, 98, 34, 44, 34, 118, 97, 108, 117, 101, 34, 58, 110, 117, 108, 108, 125, 44, 34, 110, 97, 109, 101, 34, 58, 34, 112, 117, 116, 34, 125, 125, 44, 123, 34, 105, 100, 34, 58, 51, 44, 34, 109, 117, 116, 97, 116, 111, 114, 34, 58, 123, 34, 97, 114, 103, 115, 34, 58, 123, 34, 107, 101, 121, 34, 58, 34, 99, 34, 44, 34, 118, 97, 108, 117, 101, 34, 58, 110, 117, 108, 108, 125, 44, 34, 110, 97, 109, 101, 34, 58, 34, 112, 117, 116, 34, 125, 125, 93, 125])), (.int .i64 (.ofNat 119))]
  v := (.tuple ⟨[(.string (bs [98])), (.int .i64 (.ofNat 122)), (.int .i64 (.ofNat 0))]⟩)
  xs := []
noncomputable def cons109 : BT Con := addTo cons108 317 m108
/-- commonplace/utf.Unquote, 1103 steps -/
def m109 : Memo where
  pre := []
  args := [(.string (bs [123, 34, 99, 108, 105, 101, 110, 116, 34, 58, 49, 44, 34, 108, 105, 115, 116, 34, 58, 91, 123, 34, 105, 100, 34, 58, 49, 44, 34, 109, 117, 116, 97, 116, 111, 114, 34, 58, 123, 34, 97, 114, 103, 115, 34, 58, 123, 34, 107, 101, 121, 34, 58, 34, 97, 34, 44, 34, 118, 97, 108, 117, 101, 34, 58, 110, 117, 108, 108, 125, 44, 34, 110, 97, 109, 101, 34, 58, 34, 112, 117, 116, 34, 125, 125, 44, 123, 34, 105, 100, 34, 58, 50, 44, 34, 109, 117, 116, 97, 116, 111, 114, 34, 58, 123, 34, 97, 114, 103, 115, 34, 58, 123, 34, 107, 101, 121, 34, 58, 34, 98, 34, 44, 34, 118, 97, 108, 117, 101, 34, 58, 110, 117, 108, 108, 125, 44, 34, 110, 97, 109, 101, 34, 58, 34, 112, 117, 116, 34, 125, 125, 44, 123, 34, 105, 100, 34, 58, 51, 44, 34, 109, 117, 116, 97, 116, 111, 114, 34, 58, 123, 34, 97, 114, 103, 115, 34, 58, 123, 34, 107, 101, 121, 34, 58, 34, 99, 34, 44, 34, 118, 97, 108, 117, 101, 34, 58, 110, 117, 108, 108, 125, 44, 34, 110, 97, 109, 101, 34, 58, 34, 112, 117, 116, 34, 125, 125, 93, 125])), (.int .i64 (.ofNat 123))]
  v := (.tuple ⟨[(.string (bs [118, 97, 108, 117, 101])), (.int .i64 (.ofNat 130)), (.int .i64 (.ofNat 0))]⟩)
  xs := []
noncomputable def cons110 : BT Con := addTo cons109 317 m109
/-- commonplace/value.Copy, 176 steps -/
def m110 : Memo where
  pre := [([(.string (bs [107, 101, 121])), (.int .i64 (.ofNat 4)), (.bool false), (.int .i64 (.ofNat 0)), (.string (bs [98])), (.slice none 0 0), (.slice none 0 0), (.string (bs [118, 97, 108, 117, 101])), (.int .i64 (.ofNat 1)), (.bool false), (.int .i64 (.ofNat 0)), (.string (bs [])), (.slice none 0 0), (.slice none 0 0)], 128)]
  args := [(.agg ⟨[(.int .i64 (.ofNat 0)), (.bool false), (.int .i64 (.ofNat 0)), (.string (bs [])), (.slice none 0 0), (.slice (some ⟨0, 0, none⟩) 2 OPEN)]⟩)]
  v := (.agg ⟨[(.int .i64 (.ofNat 0)), (.bool false), (.int .i64 (.ofNat 0)), (.string (bs [])), (.slice none 0 0), (.slice (some ⟨1, 0, none⟩) 2 OPEN)]⟩)
  xs := [.cells [(.string (bs [107, 101, 121])), (.int .i64 (.ofNat 4)), (.bool false), (.int .i64 (.ofNat 0)), (.string (bs [98])), (.slice none 0 0), (.slice none 0 0), (.string (bs [118, 97, 108, 117, 101])), (.int .i64 (.ofNat 1)), (.bool false), (.int .i64 (.ofNat 0)), (.string (bs [])), (.slice none 0 0), (.slice none 0 0)] 128 1]
noncomputable def cons111 : BT Con := addTo cons110 74 m110
/-- commonplace/value.Object, 297 steps -/
def m111 : Memo where
  pre := [([(.string (bs [107, 101, 121])), (.int .i64 (.ofNat 4)), (.bool false), (.int .i64 (.ofNat 0)), (.string (bs [98])), (.slice none 0 0), (.slice none 0 0), (.string (bs [118, 97, 108, 117, 101])), (.int .i64 (.ofNat 1)), (.bool false), (.int .i64 (.ofNat 0)), (.string (bs [])), (.slice none 0 0), (.slice none 0 0)], 128)]
  args := [(.slice (some ⟨0, 0, none⟩) 2 OPEN)]
  v := (.tuple ⟨[(.agg ⟨[(.int .i64 (.ofNat 6)), (.bool false), (.int .i64 (.ofNat 0)), (.string (bs [])), (.slice none 0 0), (.slice (some ⟨1, 0, none⟩) 2 OPEN)]⟩), (.int .i64 (.ofNat 0))]⟩)
  xs := [.cells [(.string (bs [107, 101, 121])), (.int .i64 (.ofNat 4)), (.bool false), (.int .i64 (.ofNat 0)), (.string (bs [98])), (.slice none 0 0), (.slice none 0 0), (.string (bs [118, 97, 108, 117, 101])), (.int .i64 (.ofNat 1)), (.bool false), (.int .i64 (.ofNat 0)), (.string (bs [])), (.slice none 0 0), (.slice none 0 0)] 128 1]
noncomputable def cons112 : BT Con := addTo cons111 127 m111
/-- commonplace/utf.Unquote, 907 steps -/
def m112 : Memo where
  pre := []
  args := [(.string (bs [123, 34, 99, 108, 105, 101, 110, 116, 34, 58, 49, 44, 34, 108, 105, 115, 116, 34, 58, 91, 123, 34, 105, 100, 34, 58, 49, 44, 34, 109, 117, 116, 97, 116, 111, 114, 34, 58, 123, 34, 97, 114, 103, 115, 34, 58, 123, 34, 107, 101, 121, 34, 58, 34, 97, 34, 44, 34, 118, 97, 108, 117, 101, 34, 58, 110, 117, 108, 108, 125, 44, 34, 110, 97, 109, 101, 34, 58, 34, 112, 117, 116, 34, 125, 125, 44, 123, 34, 105, 100, 34, 58, 50, 44, 34, 109, 117, 116, 97, 116, 111, 114, 34, 58, 123, 34, 97, 114, 103, 115, 34, 58, 123, 34, 107, 101, 121, 34, 58, 34, 98, 34, 44, 34, 118, 97, 108, 117, 101, 34, 58, 110, 117, 108, 108, 125, 44, 34, 110, 97, 109, 101, 34, 58, 34, 112, 117, 116, 34, 125, 125, 44, 123, 34, 105, 100, 34, 58, 51, 44, 34, 109, 117, 116, 97, 116, 111, 114, 34, 58, 123, 34, 97, 114, 103, 115, 34, 58, 123, 34, 107, 101, 121, 34, 58, 34, 99, 34, 44, 34, 118, 97, 108, 117, 101, 34, 58, 110, 117, 108, 108, 125, 44, 34, 110, 97, 109, 101, 34, 58, 34, 112, 117, 116, 34, 125, 125, 93, 125])), (.int .i64 (.ofNat 137))]
  v := (.tuple ⟨[(.string (bs [110, 97, 109, 101])), (.int .i64 (.ofNat 143)), (.int .i64 (.ofNat 0))]⟩)
  xs := []
noncomputable def cons113 : BT Con := addTo cons112 317 m112
/-- commonplace/utf.Unquote, 711 steps -/
def m113 : Memo where
  pre := []
  args := [(.string (bs [123, 34, 99, 108, 105, 101, 110, 116, 34, 58, 49, 44, 34, 108, 105, 115, 116, 34, 58, 91, 123, 34, 105, 100, 34, 58, 49, 44, 34, 109, 117, 116, 97, 116, 111, 114, 34, 58, 123, 34, 97, 114, 103, 115, 34, 58, 123, 34, 107, 101, 121, 34, 58, 34, 97, 34, 44, 34, 118, 97, 108, 117, 101, 34, 58, 110, 117, 108, 108, 125, 44, 34, 110, 97, 109, 101, 34, 58, 34, 112, 117, 116, 34, 125, 125, 44, 123, 34, 105, 100, 34, 58, 50, 44, 34, 109, 117, 116, 97, 116, 111, 114, 34, 58, 123, 34, 97, 114, 103, 115, 34, 58, 123, 34, 107, 101, 121, 34, 58, 34, 98, 34, 44, 34, 118, 97, 108, 117, 101, 34, 58, 110, 117, 108, 108, 125, 44, 34, 110, 97, 109, 101, 34, 58, 34, 112, 117, 116, 34, 125, 125, 44, 123, 34, 105, 100, 34, 58, 51, 44, 34, 109, 117, 116, 97, 116, 111, 114, 34, 58, 123, 34, 97, 114, 103, 115, 34, 58, 123, 34, 107, 101, 121, 34, 58, 34, 99, 34, 44, 34, 118, 97, 108, 117, 101, 34, 58, 110, 117, 108, 108, 125, 44, 34, 110, 97, 109, 101, 34, 58, 34, 112, 117, 116, 34, 125, 125, 93, 125])), (.int .i64 (.ofNat 144))]
  v := (.tuple ⟨[(.string (bs [112, 117, 116])), (.int .i64 (.ofNat 149)), (.int .i64 (.ofNat 0))]⟩)
  xs := []
noncomputable def cons114 : BT Con := addTo cons113 317 m113
/-- commonplace/value.Copy, 176 steps -/
def m114 : Memo where
  pre := [([(.string (bs [107, 101, 121])), (.int .i64 (.ofNat 4)), (.bool false), (.int .i64 (.ofNat 0)), (.string (bs [98])), (.slice none 0 0), (.slice none 0 0), (.string (bs [118, 97, 108, 117, 101])), (.int .i64 (.ofNat 1)), (.bool false), (.int .i64 (.ofNat 0)), (.string (bs [])), (.slice none 0 0), (.slice none 0 0)], 128)]
  args := [(.agg ⟨[(.int .i64 (.ofNat 6)), (.bool false), (.int .i64 (.ofNat 0)), (.string (bs [])), (.slice none 0 0), (.slice (some ⟨0, 0, none⟩) 2 OPEN)]⟩)]
  v := (.agg ⟨[(.int .i64 (.ofNat 6)), (.bool false), (.int .i64 (.ofNat 0)), (.string (bs [])), (.slice none 0 0), (.slice (some ⟨1, 0, none⟩) 2 OPEN)]⟩)
  xs := [.cells [(.string (bs [107, 101, 121])), (.int .i64 (.ofNat 4)), (.bool false), (.int .i64 (.ofNat 0)), (.string (bs [98])), (.slice none 0 0), (.slice none 0 0), (.string (bs [118, 97, 108, 117, 101])), (.int .i64 (.ofNat 1)), (.bool false), (.int .i64 (.ofNat 0)), (.string (bs [])), (.slice none 0 0), (.slice none 0 0)] 128 1]
noncomputable def cons115 : BT Con := addTo cons114 74 m114
/-- commonplace/value.Copy, 176 steps -/
def m115 : Memo where
  pre := [([(.string (bs [97, 114, 103, 115])), (.int .i64 (.ofNat 6)), (.bool false), (.int .i64 (.ofNat 0)), (.string (bs [])), (.slice none 0 0), (.slice (some ⟨1, 0, none⟩) 2 OPEN), (.string (bs [110, 97, 109, 101])), (.int .i64 (.ofNat 4)), (.bool false), (.int .i64 (.ofNat 0)), (.string (bs [112, 117, 116])), (.slice none 0 0), (.slice none 0 0)], 128), ([(.string (bs [107, 101, 121])), (.int .i64 (.ofNat 4)), (.bool false), (.int .i64 (.ofNat 0)), (.string (bs [98])), (.slice none 0 0), (.slice none 0 0), (.string (bs [118, 97, 108, 117, 101])), (.int .i64 (.ofNat 1)), (.bool false), (.int .i64 (.ofNat 0)), (.string (bs [])), (.slice none 0 0), (.slice none 0 0)], 128)]
  args := [(.agg ⟨[(.int .i64 (.ofNat 0)), (.bool false), (.int .i64 (.ofNat 0)), (.string (bs [])), (.slice none 0 0), (.slice (some ⟨0, 0, none⟩) 2 OPEN)]⟩)]
  v := (.agg ⟨[(.int .i64 (.ofNat 0)), (.bool false), (.int .i64 (.ofNat 0)), (.string (bs [])), (.slice none 0 0), (.slice (some ⟨2, 0, none⟩) 2 OPEN)]⟩)
  xs := [.cells [(.string (bs [97, 114, 103, 115])), (.int .i64 (.ofNat 6)), (.bool false), (.int .i64 (.ofNat 0)), (.string (bs [])), (.slice none 0 0), (.slice (some ⟨3, 0, none⟩) 2 OPEN), (.string (bs [110, 97, 109, 101])), (.int .i64 (.ofNat 4)), (.bool false), (.int .i64 (.ofNat 0)), (.string (bs [112, 117, 116])), (.slice none 0 0), (.slice none 0 0)] 128 1, .cells [(.string (bs [107, 101, 121])), (.int .i64 (.ofNat 4)), (.bool false), (.int .i64 (.ofNat 0)), (.string (bs [98])), (.slice none 0 0), (.slice none 0 0), (.string (bs [118, 97, 108, 117, 101])), (.int .i64 (.ofNat 1)), (.bool false), (.int .i64 (.ofNat 0)), (.string (bs [])), (.slice none 0 0), (.slice none 0 0)] 128 1]
noncomputable def cons116 : BT Con := addTo cons115 74 m115
/-- commonplace/value.Object, 297 steps -/
def m116 : Memo where
  pre := [([(.string (bs [97, 114, 103, 115])), (.int .i64 (.ofNat 6)), (.bool false), (.int .i64 (.ofNat 0)), (.string (bs [])), (.slice none 0 0), (.slice (some ⟨1, 0, none⟩) 2 OPEN), (.string (bs [110, 97, 109, 101])), (.int .i64 (.ofNat 4)), (.bool false), (.int .i64 (.ofNat 0)), (.string (bs [112, 117, 116])), (.slice none 0 0), (.slice none 0 0)], 128), ([(.string (bs [107, 101, 121])), (.int .i64 (.ofNat 4)), (.bool false), (.int .i64 (.ofNat 0)), (.string (bs [98])), (.slice none 0 0), (.slice none 0 0), (.string (bs [118, 97, 108, 117, 101])), (.int .i64 (.ofNat 1)), (.bool false), (.int .i64 (.ofNat 0)), (.string (bs [])), (.slice none 0 0), (.slice none 0 0)], 128)]
  args := [(.slice (some ⟨0, 0, none⟩) 2 OPEN)]
  v := (.tuple ⟨[(.agg ⟨[(.int .i64 (.ofNat 6)), (.bool false), (.int .i64 (.ofNat 0)), (.string (bs [])), (.slice none 0 0), (.slice (some ⟨2, 0, none⟩) 2 OPEN)]⟩), (.int .i64 (.ofNat 0))]⟩)
  xs := [.cells [(.string (bs [97, 114, 103, 115])), (.int .i64 (.ofNat 6)), (.bool false), (.int .i64 (.ofNat 0)), (.string (bs [])), (.slice none 0 0), (.slice (some ⟨3, 0, none⟩) 2 OPEN), (.string (bs [110, 97, 109, 101])), (.int .i64 (.ofNat 4)), (.bool false), (.int .i64 (.ofNat 0)), (.string (bs [112, 117, 116])), (.slice none 0 0), (.slice none 0 0)] 128 1, .cells [(.string (bs [107, 101, 121])), (.int .i64 (.ofNat 4)), (.bool false), (.int .i64 (.ofNat 0)), (.string (bs [98])), (.slice none 0 0), (.slice none 0 0), (.string (bs [118, 97, 108, 117, 101])), (.int .i64 (.ofNat 1)), (.bool false), (.int .i64 (.ofNat 0)), (.string (bs [])), (.slice none 0 0), (.slice none 0 0)] 128 1]
noncomputable def cons117 : BT Con := addTo cons116 127 m116
/-- commonplace/value.Copy, 98 steps -/
def m117 : Memo where
  pre := []
  args := [(.agg ⟨[(.int .i64 (.ofNat 3)), (.bool false), (.int .i64 (.ofNat 2)), (.string (bs [])), (.slice none 0 0), (.slice none 0 0)]⟩)]
  v := (.agg ⟨[(.int .i64 (.ofNat 3)), (.bool false), (.int .i64 (.ofNat 2)), (.string (bs [])), (.slice none 0 0), (.slice none 0 0)]⟩)
  xs := []
noncomputable def cons118 : BT Con := addTo cons117 74 m117
/-- commonplace/value.Copy, 176 steps -/
def m118 : Memo where
  pre := [([(.string (bs [97, 114, 103, 115])), (.int .i64 (.ofNat 6)), (.bool false), (.int .i64 (.ofNat 0)), (.string (bs [])), (.slice none 0 0), (.slice (some ⟨1, 0, none⟩) 2 OPEN), (.string (bs [110, 97, 109, 101])), (.int .i64 (.ofNat 4)), (.bool false), (.int .i64 (.ofNat 0)), (.string (bs [112, 117, 116])), (.slice none 0 0), (.slice none 0 0)], 128), ([(.string (bs [107, 101, 121])), (.int .i64 (.ofNat 4)), (.bool false), (.int .i64 (.ofNat 0)), (.string (bs [98])), (.slice none 0 0), (.slice none 0 0), (.string (bs [118, 97, 108, 117, 101])), (.int .i64 (.ofNat 1)), (.bool false), (.int .i64 (.ofNat 0)), (.string (bs [])), (.slice none 0 0), (.slice none 0 0)], 128)]
  args := [(.agg ⟨[(.int .i64 (.ofNat 6)), (.bool false), (.int .i64 (.ofNat 0)), (.string (bs [])), (.slice none 0 0), (.slice (some ⟨0, 0, none⟩) 2 OPEN)]⟩)]
  v := (.agg ⟨[(.int .i64 (.ofNat 6)), (.bool false), (.int .i64 (.ofNat 0)), (.string (bs [])), (.slice none 0 0), (.slice (some ⟨2, 0, none⟩) 2 OPEN)]⟩)
  xs := [.cells [(.string (bs [97, 114, 103, 115])), (.int .i64 (.ofNat 6)), (.bool false), (.int .i64 (.ofNat 0)), (.string (bs [])), (.slice none 0 0), (.slice (some ⟨3, 0, none⟩) 2 OPEN), (.string (bs [110, 97, 109, 101])), (.int .i64 (.ofNat 4)), (.bool false), (.int .i64 (.ofNat 0)), (.string (bs [112, 117, 116])), (.slice none 0 0), (.slice none 0 0)] 128 1, .cells [(.string (bs [107, 101, 121])), (.int .i64 (.ofNat 4)), (.bool false), (.int .i64 (.ofNat 0)), (.string (bs [98])), (.slice none 0 0), (.slice none 0 0), (.string (bs [118, 97, 108, 117, 101])), (.int .i64 (.ofNat 1)), (.bool false), (.int .i64 (.ofNat 0)), (.string (bs [])), (.slice none 0 0), (.slice none 0 0)] 128 1]
noncomputable def cons119 : BT Con := addTo cons118 74 m118
/-- commonplace/value.Copy, 176 steps -/
def m119 : Memo where
  pre := [([(.string (bs [105, 100])), (.int .i64 (.ofNat 3)), (.bool false), (.int .i64 (.ofNat 2)), (.string (bs [])), (.slice none 0 0), (.slice none 0 0), (.string (bs [109, 117, 116, 97, 116, 111, 114])), (.int .i64 (.ofNat 6)), (.bool false), (.int .i64 (.ofNat 0)), (.string (bs [])), (.slice none 0 0), (.slice (some ⟨1, 0, none⟩) 2 OPEN)], 128), ([(.string (bs [97, 114, 103, 115])), (.int .i64 (.ofNat 6)), (.bool false), (.int .i64 (.ofNat 0)), (.string (bs [])), (.slice none 0 0), (.slice (some ⟨2, 0, none⟩) 2 OPEN), (.string (bs [110, 97, 109, 101])), (.int .i64 (.ofNat 4)), (.bool false), (.int .i64 (.ofNat 0)), (.string (bs [112, 117, 116])), (.slice none 0 0), (.slice none 0 0)], 128), ([(.string (bs [107, 101, 121])), (.int .i64 (.ofNat 4)), (.bool false), (.int .i64 (.ofNat 0)), (.string (bs [98])), (.slice none 0 0), (.slice none 0 0), (.string (bs [118, 97, 108, 117, 101])), (.int .i64 (.ofNat 1)), (.bool false), (.int .i64 (.ofNat 0)), (.string (bs [])), (.slice none 0 0), (.slice none 0 0)], 128)]
  args := [(.agg ⟨[(.int .i64 (.ofNat 0)), (.bool false), (.int .i64 (.ofNat 0)), (.string (bs [])), (.slice none 0 0), (.slice (some ⟨0, 0, none⟩) 2 OPEN)]⟩)]
  v := (.agg ⟨[(.int .i64 (.ofNat 0)), (.bool false), (.int .i64 (.ofNat 0)), (.string (bs [])), (.slice none 0 0), (.slice (some ⟨3, 0, none⟩) 2 OPEN)]⟩)
  xs := [.cells [(.string (bs [105, 100])), (.int .i64 (.ofNat 3)), (.bool false), (.int .i64 (.ofNat 2)), (.string (bs [])), (.slice none 0 0), (.slice none 0 0), (.string (bs [109, 117, 116, 97, 116, 111, 114])), (.int .i64 (.ofNat 6)), (.bool false), (.int .i64 (.ofNat 0)), (.string (bs [])), (.slice none 0 0), (.slice (some ⟨4, 0, none⟩) 2 OPEN)] 128 1, .cells [(.string (bs [97, 114, 103, 115])), (.int .i64 (.ofNat 6)), (.bool false), (.int .i64 (.ofNat 0)), (.string (bs [])), (.slice none 0 0), (.slice (some ⟨5, 0, none⟩) 2 OPEN), (.string (bs [110, 97, 109, 101])), (.int .i64 (.ofNat 4)), (.bool false), (.int .i64 (.ofNat 0)), (.string (bs [112, 117, 116])), (.slice none 0 0), (.slice none 0 0)] 128 1, .cells [(.string (bs [107, 101, 121])), (.int .i64 (.ofNat 4)), (.bool false), (.int .i64 (.ofNat 0)), (.string (bs [98])), (.slice none 0 0), (.slice none 0 0), (.string (bs [118, 97, 108, 117, 101])), (.int .i64 (.ofNat 1)), (.bool false), (.int .i64 (.ofNat 0)), (.string (bs [])), (.slice none 0 0), (.slice none 0 0)] 128 1]
noncomputable def cons120 : BT Con := addTo cons119 74 m119
/-- commonplace/value.Object, 297 steps -/
def m120 : Memo where
  pre := [([(.string (bs [105, 100])), (.int .i64 (.ofNat 3)), (.bool false), (.int .i64 (.ofNat 2)), (.string (bs [])), (.slice none 0 0), (.slice none 0 0), (.string (bs [109, 117, 116, 97, 116, 111, 114])), (.int .i64 (.ofNat 6)), (.bool false), (.int .i64 (.ofNat 0)), (.string (bs [])), (.slice none 0 0), (.slice (some ⟨1, 0, none⟩) 2 OPEN)], 128), ([(.string (bs [97, 114, 103, 115])), (.int .i64 (.ofNat 6)), (.bool false), (.int .i64 (.ofNat 0)), (.string (bs [])), (.slice none 0 0), (.slice (some ⟨2, 0, none⟩) 2 OPEN), (.string (bs [110, 97, 109, 101])), (.int .i64 (.ofNat 4)), (.bool false), (.int .i64 (.ofNat 0)), (.string (bs [112, 117, 116])), (.slice none 0 0), (.slice none 0 0)], 128), ([(.string (bs [107, 101, 121])), (.int .i64 (.ofNat 4)), (.bool false), (.int .i64 (.ofNat 0)), (.string (bs [98])), (.slice none 0 0), (.slice none 0 0), (.string (bs [118, 97, 108, 117, 101])), (.int .i64 (.ofNat 1)), (.bool false), (.int .i64 (.ofNat 0)), (.string (bs [])), (.slice none 0 0), (.slice none 0 0)], 128)]
  args := [(.slice (some ⟨0, 0, none⟩) 2 OPEN)]
  v := (.tuple ⟨[(.agg ⟨[(.int .i64 (.ofNat 6)), (.bool false), (.int .i64 (.ofNat 0)), (.string (bs [])), (.slice none 0 0), (.slice (some ⟨3, 0, none⟩) 2 OPEN)]⟩), (.int .i64 (.ofNat 0))]⟩)
  xs := [.cells [(.string (bs [105, 100])), (.int .i64 (.ofNat 3)), (.bool false), (.int .i64 (.ofNat 2)), (.string (bs [])), (.slice none 0 0), (.slice none 0 0), (.string (bs [109, 117, 116, 97, 116, 111, 114])), (.int .i64 (.ofNat 6)), (.bool false), (.int .i64 (.ofNat 0)), (.string (bs [])), (.slice none 0 0), (.slice (some ⟨4, 0, none⟩) 2 OPEN)] 128 1, .cells [(.string (bs [97, 114, 103, 115])), (.int .i64 (.ofNat 6)), (.bool false), (.int .i64 (.ofNat 0)), (.string (bs [])), (.slice none 0 0), (.slice (some ⟨5, 0, none⟩) 2 OPEN), (.string (bs [110, 97, 109, 101])), (.int .i64 (.ofNat 4)), (.bool false), (.int .i64 (.ofNat 0)), (.string (bs [112, 117, 116])), (.slice none 0 0), (.slice none 0 0)] 128 1, .cells [(.string (bs [107, 101, 121])), (.int .i64 (.ofNat 4)), (.bool false), (.int .i64 (.ofNat 0)), (.string (bs [98])), (.slice none 0 0), (.slice none 0 0), (.string (bs [118, 97, 108, 117, 101])), (.int .i64 (.ofNat 1)), (.bool false), (.int .i64 (.ofNat 0)), (.string (bs [])), (.slice none 0 0), (.slice none 0 0)] 128 1]
noncomputable def cons121 : BT Con := addTo cons120 127 m120
/-- commonplace/utf.Unquote, 515 steps -/
def m121 : Memo where
  pre := []
  args := [(.string (bs [123, 34, 99, 108, 105, 101, 110, 116, 34, 58, 49, 44, 34, 108, 105, 115, 116, 34, 58, 91, 123, 34, 105, 100, 34, 58, 49, 44, 34, 109, 117, 116, 97, 116, 111, 114, 34, 58, 123, 34, 97, 114, 103, 115, 34, 58, 123, 34, 107, 101, 121, 34, 58, 34, 97, 34, 44, 34, 118, 97, 108, 117, 101, 34, 58, 110, 117, 108, 108, 125, 44, 34, 110, 97, 109, 101, 34, 58, 34, 112, 117, 116, 34, 125, 125, 44, 123, 34, 105, 100, 34, 58, 50, 44, 34, 109, 117, 116, 97, 116, 111, 114, 34, 58, 123, 34, 97, 114, 103, 115, 34, 58, 123, 34, 107, 101, 121, 34, 58, 34, 98, 34, 44, 34, 118, 97, 108, 117, 101, 34, 58, 110, 117, 108, 108, 125, 44, 34, 110, 97, 109, 101, 34, 58, 34, 112, 117, 116, 34, 125, 125, 44, 123, 34, 105, 100, 34, 58, 51, 44, 34, 109, 117, 116, 97, 116, 111, 114, 34, 58, 123, 34, 97, 114, 103, 115, 34, 58, 123, 34, 107, 101, 121, 34, 58, 34, 99, 34, 44, 34, 118, 97, 108, 117, 101, 34, 58, 110, 117, 108, 108, 125, 44, 34, 110, 97, 109, 101, 34, 58, 34, 112, 117, 116, 34, 125, 125, 93, 125])), (.int .i64 (.ofNat 153))]
  v := (.tuple ⟨[(.string (bs [105, 100])), (.int .i64 (.ofNat 157)), (.int .i64 (.ofNat 0))]⟩)
  xs := []
noncomputable def cons122 : BT Con := addTo cons121 317 m121
/-- strings.IndexByte, 27 steps -/
def m122 : Memo where
  pre := []
  args := [(.string (bs [9, 10, 13, 32])), (.int .u8 (.ofNat 51))]
  v := (.int .i64 (.negSucc 0))
  xs := []
noncomputable def cons123 : BT Con := addTo cons122 210 m122
/-- strconv.ParseInt, 400 steps -/
def m123 : Memo where
  pre := []
  args := [(.string (bs [51])), (.int .i64 (.ofNat 10)), (.int .i64 (.ofNat 64))]
  v := (.tuple ⟨[(.int .i64 (.ofNat 3)), .nilIface]⟩)
  xs := []
noncomputable def cons124 : BT Con := addTo cons123 271 m123
/-- commonplace/utf.Unquote, 1495 steps -/
def m124 : Memo where
  pre := []
  args := [(.string (bs [123, 34, 99, 108, 105, 101, 110, 116, 34, 58, 49, 44, 34, 108, 105, 115, 116, 34, 58, 91, 123, 34, 105, 100, 34, 58, 49, 44, 34, 109, 117, 116, 97, 116, 111, 114, 34, 58, 123, 34, 97, 114, 103, 115, 34, 58, 123, 34, 107, 101, 121, 34, 58, 34, 97, 34, 44, 34, 118, 97, 108, 117, 101, 34, 58, 110, 117, 108, 108, 125, 44, 34, 110, 97, 109, 101, 34, 58, 34, 112, 117, 116, 34, 125, 125, 44, 123, 34, 105, 100, 34, 58, 50, 44, 34, 109, 117, 116, 97, 116, 111, 114, 34, 58, 123, 34, 97, 114, 103, 115, 34, 58, 123, 34, 107, 101, 121, 34, 58, 34, 98, 34, 44, 34, 118, 97, 108, 117, 101, 34, 58, 110, 117, 108, 108, 125, 44, 34, 110, 97, 109, 101, 34, 58, 34, 112, 117, 116, 34, 125, 125, 44, 123, 34, 105, 100, 34, 58, 51, 44, 34, 109, 117, 116, 97, 116, 111, 114, 34, 58, 123, 34, 97, 114, 103, 115, 34, 58, 123, 34, 107, 101, 121, 34, 58, 34, 99, 34, 44, 34, 118, 97, 108, 117, 101, 34, 58, 110, 117, 108, 108, 125, 44, 34, 110, 97, 109, 101, 34, 58, 34, 112, 117, 116, 34, 125, 125, 93, 125])), (.int .i64 (.ofNat 160))]
  v := (.tuple ⟨[(.string (bs [109, 117, 116, 97, 116, 111, 114])), (.int .i64 (.ofNat 169)), (.int .i64 (.ofNat 0))]⟩)
  xs := []
noncomputable def cons125 : BT Con := addTo cons124 317 m124
/-- commonplace/utf.Unquote, 907 steps -/
def m125 : Memo where
  pre := []
  args := [(.string (bs [123, 34, 99, 108, 105, 101, 110, 116, 34, 58, 49, 44, 34, 108, 105, 115, 116, 34, 58, 91, 123, 34, 105, 100, 34, 58, 49, 44, 34, 109, 117, 116, 97, 116, 111, 114, 34, 58, 123, 34, 97, 114, 103, 115, 34, 58, 123, 34, 107, 101, 121, 34, 58, 34, 97, 34, 44, 34, 118, 97, 108, 117, 101, 34, 58, 110, 117, 108, 108, 125, 44, 34, 110, 97, 109, 101, 34, 58, 34, 112, 117, 116, 34, 125, 125, 44, 123, 34, 105, 100, 34, 58, 50, 44, 34, 109, 117, 116, 97, 116, 111, 114, 34, 58, 123, 34, 97, 114, 103, 115, 34, 58, 123, 34, 107, 101, 121, 34, 58, 34, 98, 34, 44, 34, 118, 97, 108, 117, 101, 34, 58, 110, 117, 108, 108, 125, 44, 34, 110, 97, 109, 101, 34, 58, 34, 112, 117, 116, 34, 125, 125, 44, 123, 34, 105, 100, 34, 58, 51, 44, 34, 109, 117, 116, 97, 116, 111, 114, 34, 58, 123, 34, 97, 114, 103, 115, 34, 58, 123, 34, 107, 101, 121, 34, 58, 34, 99, 34, 44, 34, 118, 97, 108, 117, 101, 34, 58, 110, 117, 108, 108, 125, 44, 34, 110, 97, 109, 101, 34, 58, 34, 112, 117, 116, 34, 125, 125, 93, 125])), (.int .i64 (.ofNat 171))]
  v := (.tuple ⟨[(.string (bs [97, 114, 103, 115])), (.int .i64 (.ofNat 177)), (.int .i64 (.ofNat 0))]⟩)
  xs := []
noncomputable def cons126 : BT Con := addTo cons125 317 m125
/-- commonplace/utf.Unquote, 711 steps -/
def m126 : Memo where
  pre := []
  args := [(.string (bs [123, 34, 99, 108, 105, 101, 110, 116, 34, 58, 49, 44, 34, 108, 105, 115, 116, 34, 58, 91, 123, 34, 105, 100, 34, 58, 49, 44, 34, 109, 117, 116, 97, 116, 111, 114, 34, 58, 123, 34, 97, 114, 103, 115, 34, 58, 123, 34, 107, 101, 121, 34, 58, 34, 97, 34, 44, 34, 118, 97, 108, 117, 101, 34, 58, 110, 117, 108, 108, 125, 44, 34, 110, 97, 109, 101, 34, 58, 34, 112, 117, 116, 34, 125, 125, 44, 123, 34, 105, 100, 34, 58, 50, 44, 34, 109, 117, 116, 97, 116, 111, 114, 34, 58, 123, 34, 97, 114, 103, 115, 34, 58, 123, 34, 107, 101, 121, 34, 58, 34, 98, 34, 44, 34, 118, 97, 108, 117, 101, 34, 58, 110, 117, 108, 108, 125, 44, 34, 110, 97, 109, 101, 34, 58, 34, 112, 117, 116, 34, 125, 125, 44, 123, 34, 105, 100, 34, 58, 51, 44, 34, 109, 117, 116, 97, 116, 111, 114, 34, 58, 123, 34, 97, 114, 103, 115, 34, 58, 123, 34, 107, 101, 121, 34, 58, 34, 99, 34, 44, 34, 118, 97, 108, 117, 101, 34, 58, 110, 117, 108, 108, 125, 44, 34, 110, 97, 109, 101, 34, 58, 34, 112, 117, 116, 34, 125, 125, 93, 125])), (.int .i64 (.ofNat 179))]
  v := (.tuple ⟨[(.string (bs [107, 101, 121])), (.int .i64 (.ofNat 184)), (.int .i64 (.ofNat 0))]⟩)
  xs := []
noncomputable def cons127 : BT Con := addTo cons126 317 m126
/-- commonplace/utf.Unquote, 319 steps -/
def m127 : Memo where
  pre := []
  args := [(.string (bs [123, 34, 99, 108, 105, 101, 110, 116, 34, 58, 49, 44, 34, 108, 105, 115, 116, 34, 58, 91, 123, 34, 105, 100, 34, 58, 49, 44, 34, 109, 117, 116, 97, 116, 111, 114, 34, 58, 123, 34, 97, 114, 103, 115, 34, 58, 123, 34, 107, 101, 121, 34, 58, 34, 97, 34, 44, 34, 118, 97, 108, 117, 101, 34, 58, 110, 117, 108, 108, 125, 44, 34, 110, 97, 109, 101, 34, 58, 34, 112, 117, 116, 34, 125, 125, 44, 123, 34, 105, 100, 34, 58, 50, 44, 34, 109, 117, 116, 97, 116, 111, 114, 34, 58, 123, 34, 97, 114, 103, 115, 34, 58, 123, 34, 107, 101, 121, 34, 58, 34, 98, 34, 44, 34, 118, 97, 108, 117, 101, 34, 58, 110, 117, 108, 108, 125, 44, 34, 110, 97, 109, 101, 34, 58, 34, 112, 117, 116, 34, 125, 125, 44, 123, 34, 105, 100, 34, 58, 51, 44, 34, 109, 117, 116, 97, 116, 111, 114, 34, 58, 123, 34, 97, 114, 103, 115, 34, 58, 123, 34, 107, 101, 121, 34, 58, 34, 99, 34, 44, 34, 118, 97, 108, 117, 101, 34, 58, 110, 117, 108, 108, 125, 44, 34, 110, 97, 109, 101, 34, 58, 34, 112, 117, 116, 34, 125, 125, 93, 125])), (.int .i64 (.ofNat 185))]
  v := (.tuple ⟨[(.string (bs [99])), (.int .i64 (.ofNat 188)), (.int .i64 (.ofNat 0))]⟩)
  xs := []
noncomputable def cons128 : BT Con := addTo cons127 317 m127
/-- commonplace/utf.Unquote, 1103 steps -/
def m128 : Memo where
  pre := []
  args := [(.string (bs [123, 34, 99, 108, 105, 101, 110, 116, 34, 58, 49, 44, 34, 108, 105, 115, 116, 34, 58, 91, 123, 34, 105, 100, 34, 58, 49, 44, 34, 109, 117, 116, 97, 116, 111, 114, 34, 58, 123, 34, 97, 114, 103, 115, 34, 58, 123, 34, 107, 101, 121, 34, 58, 34, 97, 34, 44, 34, 118, 97, 108, 117, 101, 34, 58, 110, 117, 108, 108, 125, 44, 34, 110, 97, 109, 101, 34, 58, 34, 112, 117, 116, 34, 125, 125, 44, 123, 34, 105, 100, 34, 58, 50, 44, 34, 109, 117, 116, 97, 116, 111, 114, 34, 58, 123, 34, 97, 114, 103, 115, 34, 58, 123, 34, 107, 101, 121, 34, 58, 34, 98, 34, 44, 34, 118, 97, 108, 117, 101, 34, 58, 110, 117, 108, 108, 125, 44, 34, 110, 97, 109, 101, 34, 58, 34, 112, 117, 116, 34, 125, 125, 44, 123, 34, 105, 100, 34, 58, 51, 44, 34, 109, 117, 116, 97, 116, 111, 114, 34, 58, 123, 34, 97, 114, 103, 115, 34, 58, 123, 34, 107, 101, 121, 34, 58, 34, 99, 34, 44, 34, 118, 97, 108, 117, 101, 34, 58, 110, 117, 108, 108, 125, 44, 34, 110, 97, 109, 101, 34, 58, 34, 112, 117, 116, 34, 125, 125, 93, 125])), (.int .i64 (.ofNat 189))]
  v := (.tuple ⟨[(.string (bs [118, 97, 108, 117, 101])), (.int .i64 (.ofNat 196)), (.int .i64 (.ofNat 0))]⟩)
  xs := []
noncomputable def cons129 : BT Con := addTo cons128 317 m128
/-- commonplace/value.Copy, 176 steps -/
def m129 : Memo where
  pre := [([(.string (bs [107, 101, 121])), (.int .i64 (.ofNat 4)), (.bool false), (.int .i64 (.ofNat 0)), (.string (bs [99])), (.slice none 0 0), (.slice none 0 0), (.string (bs [118, 97, 108, 117, 101])), (.int .i64 (.ofNat 1)), (.bool false), (.int .i64 (.ofNat 0)), (.string (bs [])), (.slice none 0 0), (.slice none 0 0)], 128)]
  args := [(.agg ⟨[(.int .i64 (.ofNat 0)), (.bool false), (.int .i64 (.ofNat 0)), (.string (bs [])), (.slice none 0 0), (.slice (some ⟨0, 0, none⟩) 2 OPEN)]⟩)]
  v := (.agg ⟨[(.int .i64 (.ofNat 0)), (.bool false), (.int .i64 (.ofNat 0)), (.string (bs [])), (.slice none 0 0), (.slice (some ⟨1, 0, none⟩) 2 OPEN)]⟩)
  xs := [.cells [(.string (bs [107, 101, 121])), (.int .i64 (.ofNat 4)), (.bool false), (.int .i64 (.ofNat 0)), (.string (bs [99])), (.slice none 0 0), (.slice none 0 0), (.string (bs [118, 97, 108, 117, 101])), (.int .i64 (.ofNat 1)), (.bool false), (.int .i64 (.ofNat 0)), (.string (bs [])), (.slice none 0 0), (.slice none 0 0)] 128 1]
noncomputable def cons130 : BT Con := addTo cons129 74 m129
/-- commonplace/value.Object, 297 steps -/
def m130 : Memo where
  pre := [([(.string (bs [107, 101, 121])), (.int .i64 (.ofNat 4)), (.bool false), (.int .i64 (.ofNat 0)), (.string (bs [99])), (.slice none 0 0), (.slice none 0 0), (.string (bs [118, 97, 108, 117, 101])), (.int .i64 (.ofNat 1)), (.bool false), (.int .i64 (.ofNat 0)), (.string (bs [])), (.slice none 0 0), (.slice none 0 0)], 128)]
  args := [(.slice (some ⟨0, 0, none⟩) 2 OPEN)]
  v := (.tuple ⟨[(.agg ⟨[(.int .i64 (.ofNat 6)), (.bool false), (.int .i64 (.ofNat 0)), (.string (bs [])), (.slice none 0 0), (.slice (some ⟨1, 0, none⟩) 2 OPEN)]⟩), (.int .i64 (.ofNat 0))]⟩)
  xs := [.cells [(.string (bs [107, 101, 121])), (.int .i64 (.ofNat 4)), (.bool false), (.int .i64 (.ofNat 0)), (.string (bs [99])), (.slice none 0 0), (.slice none 0 0), (.string (bs [118, 97, 108, 117, 101])), (.int .i64 (.ofNat 1)), (.bool false), (.int .i64 (.ofNat 0)), (.string (bs [])), (.slice none 0 0), (.slice none 0 0)] 128 1]
noncomputable def cons131 : BT Con := addTo cons130 127 m130
/-- commonplace/utf.Unquote, 907 steps -/
def m131 : Memo where
  pre := []
  args := [(.string (bs [123, 34, 99, 108, 105, 101, 110, 116, 34, 58, 49, 44, 34, 108, 105, 115, 116, 34, 58, 91, 123, 34, 105, 100, 34, 58, 49, 44, 34, 109, 117, 116, 97, 116, 111, 114, 34, 58, 123, 34, 97, 114, 103, 115, 34, 58, 123, 34, 107, 101, 121, 34, 58, 34, 97, 34, 44, 34, 118, 97, 108, 117, 101, 34, 58, 110, 117, 108, 108, 125, 44, 34, 110, 97, 109, 101, 34, 58, 34, 112, 117, 116, 34, 125, 125, 44, 123, 34, 105, 100, 34, 58, 50, 44, 34, 109, 117, 116, 97, 116, 111, 114, 34, 58, 123, 34, 97, 114, 103, 115, 34, 58, 123, 34, 107, 101, 121, 34, 58, 34, 98, 34, 44, 34, 118, 97, 108, 117, 101, 34, 58, 110, 117, 108, 108, 125, 44, 34, 110, 97, 109, 101, 34, 58, 34, 112, 117, 116, 34, 125, 125, 44, 123, 34, 105, 100, 34, 58, 51, 44, 34, 109, 117, 116, 97, 116, 111, 114, 34, 58, 123, 34, 97, 114, 103, 115, 34, 58, 123, 34, 107, 101, 121, 34, 58, 34, 99, 34, 44, 34, 118, 97, 108, 117, 101, 34, 58, 110, 117, 108, 108, 125, 44, 34, 110, 97, 109, 101, 34, 58, 34, 112, 117, 116, 34, 125, 125, 93, 125])), (.int .i64 (.ofNat 203))]
  v := (.tuple ⟨[(.string (bs [110, 97, 109, 101])), (.int .i64 (.ofNat 209)), (.int .i64 (.ofNat 0))]⟩)
  xs := []
noncomputable def cons132 : BT Con := addTo cons131 317 m131
/-- commonplace/utf.Unquote, 711 steps -/
def m132 : Memo where
  pre := []
  args := [(.string (bs [123, 34, 99, 108, 105, 101, 110, 116, 34, 58, 49, 44, 34, 108, 105, 115, 116, 34, 58, 91, 123, 34, 105, 100, 34, 58, 49, 44, 34, 109, 117, 116, 97, 116, 111, 114, 34, 58, 123, 34, 97, 114, 103, 115, 34, 58, 123, 34, 107, 101, 121, 34, 58, 34, 97, 34, 44, 34, 118, 97, 108, 117, 101, 34, 58, 110, 117, 108, 108, 125, 44, 34, 110, 97, 109, 101, 34, 58, 34, 112, 117, 116, 34, 125, 125, 44, 123, 34, 105, 100, 34, 58, 50, 44, 34, 109, 117, 116, 97, 116, 111, 114, 34, 58, 123, 34, 97, 114, 103, 115, 34, 58, 123, 34, 107, 101, 121, 34, 58, 34, 98, 34, 44, 34, 118, 97, 108, 117, 101, 34, 58, 110, 117, 108, 108, 125, 44, 34, 110, 97, 109, 101, 34, 58, 34, 112, 117, 116, 34, 125, 125, 44, 123, 34, 105, 100, 34, 58, 51, 44, 34, 109, 117, 116, 97, 116, 111, 114, 34, 58, 123, 34, 97, 114, 103, 115, 34, 58, 123, 34, 107, 101, 121, 34, 58, 34, 99, 34, 44, 34, 118, 97, 108, 117, 101, 34, 58, 110, 117, 108, 108, 125, 44, 34, 110, 97, 109, 101, 34, 58, 34, 112, 117, 116, 34, 125, 125, 93, 125])), (.int .i64 (.ofNat 210))]
  v := (.tuple ⟨[(.string (bs [112, 117, 116])), (.int .i64 (.ofNat 215)), (.int .i64 (.ofNat 0))]⟩)
  xs := []
noncomputable def cons133 : BT Con := addTo cons132 317 m132
/-- commonplace/value.Copy, 176 steps -/
def m133 : Memo where
  pre := [([(.string (bs [107, 101, 121])), (.int .i64 (.ofNat 4)), (.bool false), (.int .i64 (.ofNat 0)), (.string (bs [99])), (.slice none 0 0), (.slice none 0 0), (.string (bs [118, 97, 108, 117, 101])), (.int .i64 (.ofNat 1)), (.bool false), (.int .i64 (.ofNat 0)), (.string (bs [])), (.slice none 0 0), (.slice none 0 0)], 128)]
  args := [(.agg ⟨[(.int .i64 (.ofNat 6)), (.bool false), (.int .i64 (.ofNat 0)), (.string (bs [])), (.slice none 0 0), (.slice (some ⟨0, 0, none⟩) 2 OPEN)]⟩)]
  v := (.agg ⟨[(.int .i64 (.ofNat 6)), (.bool false), (.int .i64 (.ofNat 0)), (.string (bs [])), (.slice none 0 0), (.slice (some ⟨1, 0, none⟩) 2 OPEN)]⟩)
  xs := [.cells [(.string (bs [107, 101, 121])), (.int .i64 (.ofNat 4)), (.bool false), (.int .i64 (.ofNat 0)), (.string (bs [99])), (.slice none 0 0), (.slice none 0 0), (.string (bs [118, 97, 108, 117, 101])), (.int .i64 (.ofNat 1)), (.bool false), (.int .i64 (.ofNat 0)), (.string (bs [])), (.slice none 0 0), (.slice none 0 0)] 128 1]
noncomputable def cons134 : BT Con := addTo cons133 74 m133
/-- commonplace/value.Copy, 176 steps -/
def m134 : Memo where
  pre := [([(.string (bs [97, 114, 103, 115])), (.int .i64 (.ofNat 6)), (.bool false), (.int .i64 (.ofNat 0)), (.string (bs [])), (.slice none 0 0), (.slice (some ⟨1, 0, none⟩) 2 OPEN), (.string (bs [110, 97, 109, 101])), (.int .i64 (.ofNat 4)), (.bool false), (.int .i64 (.ofNat 0)), (.string (bs [112, 117, 116])), (.slice none 0 0), (.slice none 0 0)], 128), ([(.string (bs [107, 101, 121])), (.int .i64 (.ofNat 4)), (.bool false), (.int .i64 (.ofNat 0)), (.string (bs [99])), (.slice none 0 0), (.slice none 0 0), (.string (bs [118, 97, 108, 117, 101])), (.int .i64 (.ofNat 1)), (.bool false), (.int .i64 (.ofNat 0)), (.string (bs [])), (.slice none 0 0), (.slice none 0 0)], 128)]
  args := [(.agg ⟨[(.int .i64 (.ofNat 0)), (.bool false), (.int .i64 (.ofNat 0)), (.string (bs [])), (.slice none 0 0), (.slice (some ⟨0, 0, none⟩) 2 OPEN)]⟩)]
  v := (.agg ⟨[(.int .i64 (.ofNat 0)), (.bool false), (.int .i64 (.ofNat 0)), (.string (bs [])), (.slice none 0 0), (.slice (some ⟨2, 0, none⟩) 2 OPEN)]⟩)
  xs := [.cells [(.string (bs [97, 114, 103, 115])), (.int .i64 (.ofNat 6)), (.bool false), (.int .i64 (.ofNat 0)), (.string (bs [])), (.slice none 0 0), (.slice (some ⟨3, 0, none⟩) 2 OPEN), (.string (bs [110, 97, 109, 101])), (.int .i64 (.ofNat 4)), (.bool false), (.int .i64 (.ofNat 0)), (.string (bs [112, 117, 116])), (.slice none 0 0), (.slice none 0 0)] 128 1, .cells [(.string (bs [107, 101, 121])), (.int .i64 (.ofNat 4)), (.bool false), (.int .i64 (.ofNat 0)), (.string (bs [99])), (.slice none 0 0), (.slice none 0 0), (.string (bs [118, 97, 108, 117, 101])), (.int .i64 (.ofNat 1)), (.bool false), (.int .i64 (.ofNat 0)), (.string (bs [])), (.slice none 0 0), (.slice none 0 0)] 128 1]
noncomputable def cons135 : BT Con := addTo cons134 74 m134
/-- commonplace/value.Object, 297 steps -/
def m135 : Memo where
  pre := [([(.string (bs [97, 114, 103, 115])), (.int .i64 (.ofNat 6)), (.bool false), (.int .i64 (.ofNat 0)), (.string (bs [])), (.slice none 0 0), (.slice (some ⟨1, 0, none⟩) 2 OPEN), (.string (bs [110, 97, 109, 101])), (.int .i64 (.ofNat 4)), (.bool false), (.int .i64 (.ofNat 0)), (.string (bs [112, 117, 116])), (.slice none 0 0), (.slice none 0 0)], 128), ([(.string (bs [107, 101, 121])), (.int .i64 (.ofNat 4)), (.bool false), (.int .i64 (.ofNat 0)), (.string (bs [99])), (.slice none 0 0), (.slice none 0 0), (.string (bs [118, 97, 108, 117, 101])), (.int .i64 (.ofNat 1)), (.bool false), (.int .i64 (.ofNat 0)), (.string (bs [])), (.slice none 0 0), (.slice none 0 0)], 128)]
  args := [(.slice (some ⟨0, 0, none⟩) 2 OPEN)]
  v := (.tuple ⟨[(.agg ⟨[(.int .i64 (.ofNat 6)), (.bool false), (.int .i64 (.ofNat 0)), (.string (bs [])), (.slice none 0 0), (.slice (some ⟨2, 0, none⟩) 2 OPEN)]⟩), (.int .i64 (.ofNat 0))]⟩)
  xs := [.cells [(.string (bs [97, 114, 103, 115])), (.int .i64 (.ofNat 6)), (.bool false), (.int .i64 (.ofNat 0)), (.string (bs [])), (.slice none 0 0), (.slice (some ⟨3, 0, none⟩) 2 OPEN), (.string (bs [110, 97, 109, 101])), (.int .i64 (.ofNat 4)), (.bool false), (.int .i64 (.ofNat 0)), (.string (bs [112, 117, 116])), (.slice none 0 0), (.slice none 0 0)] 128 1, .cells [(.string (bs [107, 101, 121])), (.int .i64 (.ofNat 4)), (.bool false), (.int .i64 (.ofNat 0)), (.string (bs [99])), (.slice none 0 0), (.slice none 0 0), (.string (bs [118, 97, 108, 117, 101])), (.int .i64 (.ofNat 1)), (.bool false), (.int .i64 (.ofNat 0)), (.string (bs [])), (.slice none 0 0), (.slice none 0 0)] 128 1]
noncomputable def cons136 : BT Con := addTo cons135 127 m135
/-- commonplace/value.Copy, 98 steps -/
def m136 : Memo where
  pre := []
  args := [(.agg ⟨[(.int .i64 (.ofNat 3)), (.bool false), (.int .i64 (.ofNat 3)), (.string (bs [])), (.slice none 0 0), (.slice none 0 0)]⟩)]
  v := (.agg ⟨[(.int .i64 (.ofNat 3)), (.bool false), (.int .i64 (.ofNat 3)), (.string (bs [])), (.slice none 0 0), (.slice none 0 0)]⟩)
  xs := []
noncomputable def cons137 : BT Con := addTo cons136 74 m136
/-- commonplace/value.Copy, 176 steps -/
def m137 : Memo where
  pre := [([(.string (bs [97, 114, 103, 115])), (.int .i64 (.ofNat 6)), (.bool false), (.int .i64 (.ofNat 0)), (.string (bs [])), (.slice none 0 0), (.slice (some ⟨1, 0, none⟩) 2 OPEN), (.string (bs [110, 97, 109, 101])), (.int .i64 (.ofNat 4)), (.bool false), (.int .i64 (.ofNat 0)), (.string (bs [112, 117, 116])), (.slice none 0 0), (.slice none 0 0)], 128), ([(.string (bs [107, 101, 121])), (.int .i64 (.ofNat 4)), (.bool false), (.int .i64 (.ofNat 0)), (.string (bs [99])), (.slice none 0 0), (.slice none 0 0), (.string (bs [118, 97, 108, 117, 101])), (.int .i64 (.ofNat 1)), (.bool false), (.int .i64 (.ofNat 0)), (.string (bs [])), (.slice none 0 0), (.slice none 0 0)], 128)]
  args := [(.agg ⟨[(.int .i64 (.ofNat 6)), (.bool false), (.int .i64 (.ofNat 0)), (.string (bs [])), (.slice none 0 0), (.slice (some ⟨0, 0, none⟩) 2 OPEN)]⟩)]
  v := (.agg ⟨[(.int .i64 (.ofNat 6)), (.bool false), (.int .i64 (.ofNat 0)), (.string (bs [])), (.slice none 0 0), (.slice (some ⟨2, 0, none⟩) 2 OPEN)]⟩)
  xs := [.cells [(.string (bs [97, 114, 103, 115])), (.int .i64 (.ofNat 6)), (.bool false), (.int .i64 (.ofNat 0)), (.string (bs [])), (.slice none 0 0), (.slice (some ⟨3, 0, none⟩) 2 OPEN), (.string (bs [110, 97, 109, 101])), (.int .i64 (.ofNat 4)), (.bool false), (.int .i64 (.ofNat 0)), (.string (bs [112, 117, 116])), (.slice none 0 0), (.slice none 0 0)] 128 1, .cells [(.string (bs [107, 101, 121])), (.int .i64 (.ofNat 4)), (.bool false), (.int .i64 (.ofNat 0)), (.string (bs [99])), (.slice none 0 0), (.slice none 0 0), (.string (bs [118, 97, 108, 117, 101])), (.int .i64 (.ofNat 1)), (.bool false), (.int .i64 (.ofNat 0)), (.string (bs [])), (.slice none 0 0), (.slice none 0 0)] 128 1]
noncomputable def cons138 : BT Con := addTo cons137 74 m137
/-- commonplace/value.Copy, 176 steps -/
def m138 : Memo where
  pre := [([(.string (bs [105, 100])), (.int .i64 (.ofNat 3)), (.bool false), (.int .i64 (.ofNat 3)), (.string (bs [])), (.slice none 0 0), (.slice none 0 0), (.string (bs [109, 117, 116, 97, 116, 111, 114])), (.int .i64 (.ofNat 6)), (.bool false), (.int .i64 (.ofNat 0)), (.string (bs [])), (.slice none 0 0), (.slice (some ⟨1, 0, none⟩) 2 OPEN)], 128), ([(.string (bs [97, 114, 103, 115])), (.int .i64 (.ofNat 6)), (.bool false), (.int .i64 (.ofNat 0)), (.string (bs [])), (.slice none 0 0), (.slice (some ⟨2, 0, none⟩) 2 OPEN), (.string (bs [110, 97, 109, 101])), (.int .i64 (.ofNat 4)), (.bool false), (.int .i64 (.ofNat 0)), (.string (bs [112, 117, 116])), (.slice none 0 0), (.slice none 0 0)], 128), ([(.string (bs [107, 101, 121])), (.int .i64 (.ofNat 4)), (.bool false), (.int .i64 (.ofNat 0)), (.string (bs [99])), (.slice none 0 0), (.slice none 0 0), (.string (bs [118, 97, 108, 117, 101])), (.int .i64 (.ofNat 1)), (.bool false), (.int .i64 (.ofNat 0)), (.string (bs [])), (.slice none 0 0), (.slice none 0 0)], 128)]
  args := [(.agg ⟨[(.int .i64 (.ofNat 0)), (.bool false), (.int .i64 (.ofNat 0)), (.string (bs [])), (.slice none 0 0), (.slice (some ⟨0, 0, none⟩) 2 OPEN)]⟩)]
  v := (.agg ⟨[(.int .i64 (.ofNat 0)), (.bool false), (.int .i64 (.ofNat 0)), (.string (bs [])), (.slice none 0 0), (.slice (some ⟨3, 0, none⟩) 2 OPEN)]⟩)
  xs := [.cells [(.string (bs [105, 100])), (.int .i64 (.ofNat 3)), (.bool false), (.int .i64 (.ofNat 3)), (.string (bs [])), (.slice none 0 0), (.slice none 0 0), (.string (bs [109, 117, 116, 97, 116, 111, 114])), (.int .i64 (.ofNat 6)), (.bool false), (.int .i64 (.ofNat 0)), (.string (bs [])), (.slice none 0 0), (.slice (some ⟨4, 0, none⟩) 2 OPEN)] 128 1, .cells [(.string (bs [97, 114, 103, 115])), (.int .i64 (.ofNat 6)), (.bool false), (.int .i64 (.ofNat 0)), (.string (bs [])), (.slice none 0 0), (.slice (some ⟨5, 0, none⟩) 2 OPEN), (.string (bs [110, 97, 109, 101])), (.int .i64 (.ofNat 4)), (.bool false), (.int .i64 (.ofNat 0)), (.string (bs [112, 117, 116])), (.slice none 0 0), (.slice none 0 0)] 128 1, .cells [(.string (bs [107, 101, 121])), (.int .i64 (.ofNat 4)), (.bool false), (.int .i64 (.ofNat 0)), (.string (bs [99])), (.slice none 0 0), (.slice none 0 0), (.string (bs [118, 97, 108, 117, 101])), (.int .i64 (.ofNat 1)), (.bool false), (.int .i64 (.ofNat 0)), (.string (bs [])), (.slice none 0 0), (.slice none 0 0)] 128 1]
noncomputable def cons139 : BT Con := addTo cons138 74 m138
/-- commonplace/value.Object, 297 steps -/
def m139 : Memo where
  pre := [([(.string (bs [105, 100])), (.int .i64 (.ofNat 3)), (.bool false), (.int .i64 (.ofNat 3)), (.string (bs [])), (.slice none 0 0), (.slice none 0 0), (.string (bs [109, 117, 116, 97, 116, 111, 114])), (.int .i64 (.ofNat 6)), (.bool false), (.int .i64 (.ofNat 0)), (.string (bs [])), (.slice none 0 0), (.slice (some ⟨1, 0, none⟩) 2 OPEN)], 128), ([(.string (bs [97, 114, 103, 115])), (.int .i64 (.ofNat 6)), (.bool false), (.int .i64 (.ofNat 0)), (.string (bs [])), (.slice none 0 0), (.slice (some ⟨2, 0, none⟩) 2 OPEN), (.string (bs [110, 97, 109, 101])), (.int .i64 (.ofNat 4)), (.bool false), (.int .i64 (.ofNat 0)), (.string (bs [112, 117, 116])), (.slice none 0 0), (.slice none 0 0)], 128), ([(.string (bs [107, 101, 121])), (.int .i64 (.ofNat 4)), (.bool false), (.int .i64 (.ofNat 0)), (.string (bs [99])), (.slice none 0 0), (.slice none 0 0), (.string (bs [118, 97, 108, 117, 101])), (.int .i64 (.ofNat 1)), (.bool false), (.int .i64 (.ofNat 0)), (.string (bs [])), (.slice none 0 0), (.slice none 0 0)], 128)]
  args := [(.slice (some ⟨0, 0, none⟩) 2 OPEN)]
  v := (.tuple ⟨[(.agg ⟨[(.int .i64 (.ofNat 6)), (.bool false), (.int .i64 (.ofNat 0)), (.string (bs [])), (.slice none 0 0), (.slice (some ⟨3, 0, none⟩) 2 OPEN)]⟩), (.int .i64 (.ofNat 0))]⟩)
  xs := [.cells [(.string (bs [105, 100])), (.int .i64 (.ofNat 3)), (.bool false), (.int .i64 (.ofNat 3)), (.string (bs [])), (.slice none 0 0), (.slice none 0 0), (.string (bs [109, 117, 116, 97, 116, 111, 114])), (.int .i64 (.ofNat 6)), (.bool false), (.int .i64 (.ofNat 0)), (.string (bs [])), (.slice none 0 0), (.slice (some ⟨4, 0, none⟩) 2 OPEN)] 128 1, .cells [(.string (bs [97, 114, 103, 115])), (.int .i64 (.ofNat 6)), (.bool false), (.int .i64 (.ofNat 0)), (.string (bs [])), (.slice none 0 0), (.slice (some ⟨5, 0, none⟩) 2 OPEN), (.string (bs [110, 97, 109, 101])), (.int .i64 (.ofNat 4)), (.bool false), (.int .i64 (.ofNat 0)), (.string (bs [112, 117, 116])), (.slice none 0 0), (.slice none 0 0)] 128 1, .cells [(.string (bs [107, 101, 121])), (.int .i64 (.ofNat 4)), (.bool false), (.int .i64 (.ofNat 0)), (.string (bs [99])), (.slice none 0 0), (.slice none 0 0), (.string (bs [118, 97, 108, 117, 101])), (.int .i64 (.ofNat 1)), (.bool false), (.int .i64 (.ofNat 0)), (.string (bs [])), (.slice none 0 0), (.slice none 0 0)] 128 1]
noncomputable def cons140 : BT Con := addTo cons139 127 m139
/-- strings.IndexByte, 27 steps -/
def m140 : Memo where
  pre := []
  args := [(.string (bs [9, 10, 13, 32])), (.int .u8 (.ofNat 93))]
  v := (.int .i64 (.negSucc 0))
  xs := []
noncomputable def cons141 : BT Con := addTo cons140 210 m140
/-- commonplace/value.Copy, 176 steps -/
def m141 : Memo where
  pre := [([(.string (bs [105, 100])), (.int .i64 (.ofNat 3)), (.bool false), (.int .i64 (.ofNat 1)), (.string (bs [])), (.slice none 0 0), (.slice none 0 0), (.string (bs [109, 117, 116, 97, 116, 111, 114])), (.int .i64 (.ofNat 6)), (.bool false), (.int .i64 (.ofNat 0)), (.string (bs [])), (.slice none 0 0), (.slice (some ⟨1, 0, none⟩) 2 OPEN)], 128), ([(.string (bs [97, 114, 103, 115])), (.int .i64 (.ofNat 6)), (.bool false), (.int .i64 (.ofNat 0)), (.string (bs [])), (.slice none 0 0), (.slice (some ⟨2, 0, none⟩) 2 OPEN), (.string (bs [110, 97, 109, 101])), (.int .i64 (.ofNat 4)), (.bool false), (.int .i64 (.ofNat 0)), (.string (bs [112, 117, 116])), (.slice none 0 0), (.slice none 0 0)], 128), ([(.string (bs [107, 101, 121])), (.int .i64 (.ofNat 4)), (.bool false), (.int .i64 (.ofNat 0)), (.string (bs [97])), (.slice none 0 0), (.slice none 0 0), (.string (bs [118, 97, 108, 117, 101])), (.int .i64 (.ofNat 1)), (.bool false), (.int .i64 (.ofNat 0)), (.string (bs [])), (.slice none 0 0), (.slice none 0 0)], 128)]
  args := [(.agg ⟨[(.int .i64 (.ofNat 6)), (.bool false), (.int .i64 (.ofNat 0)), (.string (bs [])), (.slice none 0 0), (.slice (some ⟨0, 0, none⟩) 2 OPEN)]⟩)]
  v := (.agg ⟨[(.int .i64 (.ofNat 6)), (.bool false), (.int .i64 (.ofNat 0)), (.string (bs [])), (.slice none 0 0), (.slice (some ⟨3, 0, none⟩) 2 OPEN)]⟩)
  xs := [.cells [(.string (bs [105, 100])), (.int .i64 (.ofNat 3)), (.bool false), (.int .i64 (.ofNat 1)), (.string (bs [])), (.slice none 0 0), (.slice none 0 0), (.string (bs [109, 117, 116, 97, 116, 111, 114])), (.int .i64 (.ofNat 6)), (.bool false), (.int .i64 (.ofNat 0)), (.string (bs [])), (.slice none 0 0), (.slice (some ⟨4, 0, none⟩) 2 OPEN)] 128 1, .cells [(.string (bs [97, 114, 103, 115])), (.int .i64 (.ofNat 6)), (.bool false), (.int .i64 (.ofNat 0)), (.string (bs [])), (.slice none 0 0), (.slice (some ⟨5, 0, none⟩) 2 OPEN), (.string (bs [110, 97, 109, 101])), (.int .i64 (.ofNat 4)), (.bool false), (.int .i64 (.ofNat 0)), (.string (bs [112, 117, 116])), (.slice none 0 0), (.slice none 0 0)] 128 1, .cells [(.string (bs [107, 101, 121])), (.int .i64 (.ofNat 4)), (.bool false), (.int .i64 (.ofNat 0)), (.string (bs [97])), (.slice none 0 0), (.slice none 0 0), (.string (bs [118, 97, 108, 117, 101])), (.int .i64 (.ofNat 1)), (.bool false), (.int .i64 (.ofNat 0)), (.string (bs [])), (.slice none 0 0), (.slice none 0 0)] 128 1]
noncomputable def cons142 : BT Con := addTo cons141 74 m141
/-- commonplace/value.Copy, 176 steps -/
def m142 : Memo where
  pre := [([(.string (bs [105, 100])), (.int .i64 (.ofNat 3)), (.bool false), (.int .i64 (.ofNat 2)), (.string (bs [])), (.slice none 0 0), (.slice none 0 0), (.string (bs [109, 117, 116, 97, 116, 111, 114])), (.int .i64 (.ofNat 6)), (.bool false), (.int .i64 (.ofNat 0)), (.string (bs [])), (.slice none 0 0), (.slice (some ⟨1, 0, none⟩) 2 OPEN)], 128), ([(.string (bs [97, 114, 103, 115])), (.int .i64 (.ofNat 6)), (.bool false), (.int .i64 (.ofNat 0)), (.string (bs [])), (.slice none 0 0), (.slice (some ⟨2, 0, none⟩) 2 OPEN), (.string (bs [110, 97, 109, 101])), (.int .i64 (.ofNat 4)), (.bool false), (.int .i64 (.ofNat 0)), (.string (bs [112, 117, 116])), (.slice none 0 0), (.slice none 0 0)], 128), ([(.string (bs [107, 101, 121])), (.int .i64 (.ofNat 4)), (.bool false), (.int .i64 (.ofNat 0)), (.string (bs [98])), (.slice none 0 0), (.slice none 0 0), (.string (bs [118, 97, 108, 117, 101])), (.int .i64 (.ofNat 1)), (.bool false), (.int .i64 (.ofNat 0)), (.string (bs [])), (.slice none 0 0), (.slice none 0 0)], 128)]
  args := [(.agg ⟨[(.int .i64 (.ofNat 6)), (.bool false), (.int .i64 (.ofNat 0)), (.string (bs [])), (.slice none 0 0), (.slice (some ⟨0, 0, none⟩) 2 OPEN)]⟩)]
  v := (.agg ⟨[(.int .i64 (.ofNat 6)), (.bool false), (.int .i64 (.ofNat 0)), (.string (bs [])), (.slice none 0 0), (.slice (some ⟨3, 0, none⟩) 2 OPEN)]⟩)
  xs := [.cells [(.string (bs [105, 100])), (.int .i64 (.ofNat 3)), (.bool false), (.int .i64 (.ofNat 2)), (.string (bs [])), (.slice none 0 0), (.slice none 0 0), (.string (bs [109, 117, 116, 97, 116, 111, 114])), (.int .i64 (.ofNat 6)), (.bool false), (.int .i64 (.ofNat 0)), (.string (bs [])), (.slice none 0 0), (.slice (some ⟨4, 0, none⟩) 2 OPEN)] 128 1, .cells [(.string (bs [97, 114, 103, 115])), (.int .i64 (.ofNat 6)), (.bool false), (.int .i64 (.ofNat 0)), (.string (bs [])), (.slice none 0 0), (.slice (some ⟨5, 0, none⟩) 2 OPEN), (.string (bs [110, 97, 109, 101])), (.int .i64 (.ofNat 4)), (.bool false), (.int .i64 (.ofNat 0)), (.string (bs [112, 117, 116])), (.slice none 0 0), (.slice none 0 0)] 128 1, .cells [(.string (bs [107, 101, 121])), (.int .i64 (.ofNat 4)), (.bool false), (.int .i64 (.ofNat 0)), (.string (bs [98])), (.slice none 0 0), (.slice none 0 0), (.string (bs [118, 97, 108, 117, 101])), (.int .i64 (.ofNat 1)), (.bool false), (.int .i64 (.ofNat 0)), (.string (bs [])), (.slice none 0 0), (.slice none 0 0)] 128 1]
noncomputable def cons143 : BT Con := addTo cons142 74 m142
/-- commonplace/value.Copy, 176 steps -/
def m143 : Memo where
  pre := [([(.string (bs [105, 100])), (.int .i64 (.ofNat 3)), (.bool false), (.int .i64 (.ofNat 3)), (.string (bs [])), (.slice none 0 0), (.slice none 0 0), (.string (bs [109, 117, 116, 97, 116, 111, 114])), (.int .i64 (.ofNat 6)), (.bool false), (.int .i64 (.ofNat 0)), (.string (bs [])), (.slice none 0 0), (.slice (some ⟨1, 0, none⟩) 2 OPEN)], 128), ([(.string (bs [97, 114, 103, 115])), (.int .i64 (.ofNat 6)), (.bool false), (.int .i64 (.ofNat 0)), (.string (bs [])), (.slice none 0 0), (.slice (some ⟨2, 0, none⟩) 2 OPEN), (.string (bs [110, 97, 109, 101])), (.int .i64 (.ofNat 4)), (.bool false), (.int .i64 (.ofNat 0)), (.string (bs [112, 117, 116])), (.slice none 0 0), (.slice none 0 0)], 128), ([(.string (bs [107, 101, 121])), (.int .i64 (.ofNat 4)), (.bool false), (.int .i64 (.ofNat 0)), (.string (bs [99])), (.slice none 0 0), (.slice none 0 0), (.string (bs [118, 97, 108, 117, 101])), (.int .i64 (.ofNat 1)), (.bool false), (.int .i64 (.ofNat 0)), (.string (bs [])), (.slice none 0 0), (.slice none 0 0)], 128)]
  args := [(.agg ⟨[(.int .i64 (.ofNat 6)), (.bool false), (.int .i64 (.ofNat 0)), (.string (bs [])), (.slice none 0 0), (.slice (some ⟨0, 0, none⟩) 2 OPEN)]⟩)]
  v := (.agg ⟨[(.int .i64 (.ofNat 6)), (.bool false), (.int .i64 (.ofNat 0)), (.string (bs [])), (.slice none 0 0), (.slice (some ⟨3, 0, none⟩) 2 OPEN)]⟩)
  xs := [.cells [(.string (bs [105, 100])), (.int .i64 (.ofNat 3)), (.bool false), (.int .i64 (.ofNat 3)), (.string (bs [])), (.slice none 0 0), (.slice none 0 0), (.string (bs [109, 117, 116, 97, 116, 111, 114])), (.int .i64 (.ofNat 6)), (.bool false), (.int .i64 (.ofNat 0)), (.string (bs [])), (.slice none 0 0), (.slice (some ⟨4, 0, none⟩) 2 OPEN)] 128 1, .cells [(.string (bs [97, 114, 103, 115])), (.int .i64 (.ofNat 6)), (.bool false), (.int .i64 (.ofNat 0)), (.string (bs [])), (.slice none 0 0), (.slice (some ⟨5, 0, none⟩) 2 OPEN), (.string (bs [110, 97, 109, 101])), (.int .i64 (.ofNat 4)), (.bool false), (.int .i64 (.ofNat 0)), (.string (bs [112, 117, 116])), (.slice none 0 0), (.slice none 0 0)] 128 1, .cells [(.string (bs [107, 101, 121])), (.int .i64 (.ofNat 4)), (.bool false), (.int .i64 (.ofNat 0)), (.string (bs [99])), (.slice none 0 0), (.slice none 0 0), (.string (bs [118, 97, 108, 117, 101])), (.int .i64 (.ofNat 1)), (.bool false), (.int .i64 (.ofNat 0)), (.string (bs [])), (.slice none 0 0), (.slice none 0 0)] 128 1]
noncomputable def cons144 : BT Con := addTo cons143 74 m143
/-- commonplace/value.Copy, 207 steps -/
def m144 : Memo where
  pre := [([(.int .i64 (.ofNat 6)), (.bool false), (.int .i64 (.ofNat 0)), (.string (bs [])), (.slice none 0 0), (.slice (some ⟨1, 0, none⟩) 2 OPEN), (.int .i64 (.ofNat 6)), (.bool false), (.int .i64 (.ofNat 0)), (.string (bs [])), (.slice none 0 0), (.slice (some ⟨2, 0, none⟩) 2 OPEN), (.int .i64 (.ofNat 6)), (.bool false), (.int .i64 (.ofNat 0)), (.string (bs [])), (.slice none 0 0), (.slice (some ⟨3, 0, none⟩) 2 OPEN)], 29), ([(.string (bs [105, 100])), (.int .i64 (.ofNat 3)), (.bool false), (.int .i64 (.ofNat 1)), (.string (bs [])), (.slice none 0 0), (.slice none 0 0), (.string (bs [109, 117, 116, 97, 116, 111, 114])), (.int .i64 (.ofNat 6)), (.bool false), (.int .i64 (.ofNat 0)), (.string (bs [])), (.slice none 0 0), (.slice (some ⟨4, 0, none⟩) 2 OPEN)], 128), ([(.string (bs [105, 100])), (.int .i64 (.ofNat 3)), (.bool false), (.int .i64 (.ofNat 2)), (.string (bs [])), (.slice none 0 0), (.slice none 0 0), (.string (bs [109, 117, 116, 97, 116, 111, 114])), (.int .i64 (.ofNat 6)), (.bool false), (.int .i64 (.ofNat 0)), (.string (bs [])), (.slice none 0 0), (.slice (some ⟨5, 0, none⟩) 2 OPEN)], 128), ([(.string (bs [105, 100])), (.int .i64 (.ofNat 3)), (.bool false), (.int .i64 (.ofNat 3)), (.string (bs [])), (.slice none 0 0), (.slice none 0 0), (.string (bs [109, 117, 116, 97, 116, 111, 114])), (.int .i64 (.ofNat 6)), (.bool false), (.int .i64 (.ofNat 0)), (.string (bs [])), (.slice none 0 0), (.slice (some ⟨6, 0, none⟩) 2 OPEN)], 128), ([(.string (bs [97, 114, 103, 115])), (.int .i64 (.ofNat 6)), (.bool false), (.int .i64 (.ofNat 0)), (.string (bs [])), (.slice none 0 0), (.slice (some ⟨7, 0, none⟩) 2 OPEN), (.string (bs [110, 97, 109, 101])), (.int .i64 (.ofNat 4)), (.bool false), (.int .i64 (.ofNat 0)), (.string (bs [112, 117, 116])), (.slice none 0 0), (.slice none 0 0)], 128), ([(.string (bs [97, 114, 103, 115])), (.int .i64 (.ofNat 6)), (.bool false), (.int .i64 (.ofNat 0)), (.string (bs [])), (.slice none 0 0), (.slice (some ⟨8, 0, none⟩) 2 OPEN), (.string (bs [110, 97, 109, 101])), (.int .i64 (.ofNat 4)), (.bool false), (.int .i64 (.ofNat 0)), (.string (bs [112, 117, 116])), (.slice none 0 0), (.slice none 0 0)], 128), ([(.string (bs [97, 114, 103, 115])), (.int .i64 (.ofNat 6)), (.bool false), (.int .i64 (.ofNat 0)), (.string (bs [])), (.slice none 0 0), (.slice (some ⟨9, 0, none⟩) 2 OPEN), (.string (bs [110, 97, 109, 101])), (.int .i64 (.ofNat 4)), (.bool false), (.int .i64 (.ofNat 0)), (.string (bs [112, 117, 116])), (.slice none 0 0), (.slice none 0 0)], 128), ([(.string (bs [107, 101, 121])), (.int .i64 (.ofNat 4)), (.bool false), (.int .i64 (.ofNat 0)), (.string (bs [97])), (.slice none 0 0), (.slice none 0 0), (.string (bs [118, 97, 108, 117, 101])), (.int .i64 (.ofNat 1)), (.bool false), (.int .i64 (.ofNat 0)), (.string (bs [])), (.slice none 0 0), (.slice none 0 0)], 128), ([(.string (bs [107, 101, 121])), (.int .i64 (.ofNat 4)), (.bool false), (.int .i64 (.ofNat 0)), (.string (bs [98])), (.slice none 0 0), (.slice none 0 0), (.string (bs [118, 97, 108, 117, 101])), (.int .i64 (.ofNat 1)), (.bool false), (.int .i64 (.ofNat 0)), (.string (bs [])), (.slice none 0 0), (.slice none 0 0)], 128), ([(.string (bs [107, 101, 121])), (.int .i64 (.ofNat 4)), (.bool false), (.int .i64 (.ofNat 0)), (.string (bs [99])), (.slice none 0 0), (.slice none 0 0), (.string (bs [118, 97, 108, 117, 101])), (.int .i64 (.ofNat 1)), (.bool false), (.int .i64 (.ofNat 0)), (.string (bs [])), (.slice none 0 0), (.slice none 0 0)], 128)]
  args := [(.agg ⟨[(.int .i64 (.ofNat 5)), (.bool false), (.int .i64 (.ofNat 0)), (.string (bs [])), (.slice (some ⟨0, 0, none⟩) 3 OPEN), (.slice none 0 0)]⟩)]
  v := (.agg ⟨[(.int .i64 (.ofNat 5)), (.bool false), (.int .i64 (.ofNat 0)), (.string (bs [])), (.slice (some ⟨10, 0, none⟩) 3 OPEN), (.slice none 0 0)]⟩)
  xs := [.cells [(.int .i64 (.ofNat 6)), (.bool false), (.int .i64 (.ofNat 0)), (.string (bs [])), (.slice none 0 0), (.slice (some ⟨11, 0, none⟩) 2 OPEN), (.int .i64 (.ofNat 6)), (.bool false), (.int .i64 (.ofNat 0)), (.string (bs [])), (.slice none 0 0), (.slice (some ⟨12, 0, none⟩) 2 OPEN), (.int .i64 (.ofNat 6)), (.bool false), (.int .i64 (.ofNat 0)), (.string (bs [])), (.slice none 0 0), (.slice (some ⟨13, 0, none⟩) 2 OPEN)] 29 1, .cells [(.string (bs [105, 100])), (.int .i64 (.ofNat 3)), (.bool false), (.int .i64 (.ofNat 1)), (.string (bs [])), (.slice none 0 0), (.slice none 0 0), (.string (bs [109, 117, 116, 97, 116, 111, 114])), (.int .i64 (.ofNat 6)), (.bool false), (.int .i64 (.ofNat 0)), (.string (bs [])), (.slice none 0 0), (.slice (some ⟨14, 0, none⟩) 2 OPEN)] 128 1, .cells [(.string (bs [105, 100])), (.int .i64 (.ofNat 3)), (.bool false), (.int .i64 (.ofNat 2)), (.string (bs [])), (.slice none 0 0), (.slice none 0 0), (.string (bs [109, 117, 116, 97, 116, 111, 114])), (.int .i64 (.ofNat 6)), (.bool false), (.int .i64 (.ofNat 0)), (.string (bs [])), (.slice none 0 0), (.slice (some ⟨15, 0, none⟩) 2 OPEN)] 128 1, .cells [(.string (bs [105, 100])), (.int .i64 (.ofNat 3)), (.bool false), (.int .i64 (.ofNat 3)), (.string (bs [])), (.slice none 0 0), (.slice none 0 0), (.string (bs [109, 117, 116, 97, 116, 111, 114])), (.int .i64 (.ofNat 6)), (.bool false), (.int .i64 (.ofNat 0)), (.string (bs [])), (.slice none 0 0), (.slice (some ⟨16, 0, none⟩) 2 OPEN)] 128 1, .cells [(.string (bs [97, 114, 103, 115])), (.int .i64 (.ofNat 6)), (.bool false), (.int .i64 (.ofNat 0)), (.string (bs [])), (.slice none 0 0), (.slice (some ⟨17, 0, none⟩) 2 OPEN), (.string (bs [110, 97, 109, 101])), (.int .i64 (.ofNat 4)), (.bool false), (.int .i64 (.ofNat 0)), (.string (bs [112, 117, 116])), (.slice none 0 0), (.slice none 0 0)] 128 1, .cells [(.string (bs [97, 114, 103, 115])), (.int .i64 (.ofNat 6)), (.bool false), (.int .i64 (.ofNat 0)), (.string (bs [])), (.slice none 0 0), (.slice (some ⟨18, 0, none⟩) 2 OPEN), (.string (bs [110, 97, 109, 101])), (.int .i64 (.ofNat 4)), (.bool false), (.int .i64 (.ofNat 0)), (.string (bs [112, 117, 116])), (.slice none 0 0), (.slice none 0 0)] 128 1, .cells [(.string (bs [97, 114, 103, 115])), (.int .i64 (.ofNat 6)), (.bool false), (.int .i64 (.ofNat 0)), (.string (bs [])), (.slice none 0 0), (.slice (some ⟨19, 0, none⟩) 2 OPEN), (.string (bs [110, 97, 109, 101])), (.int .i64 (.ofNat 4)), (.bool false), (.int .i64 (.ofNat 0)), (.string (bs [112, 117, 116])), (.slice none 0 0), (.slice none 0 0)] 128 1, .cells [(.string (bs [107, 101, 121])), (.int .i64 (.ofNat 4)), (.bool false), (.int .i64 (.ofNat 0)), (.string (bs [97])), (.slice none 0 0), (.slice none 0 0), (.string (bs [118, 97, 108, 117, 101])), (.int .i64 (.ofNat 1)), (.bool false), (.int .i64 (.ofNat 0)), (.string (bs [])), (.slice none 0 0), (.slice none 0 0)] 128 1, .cells [(.string (bs [107, 101, 121])), (.int .i64 (.ofNat 4)), (.bool false), (.int .i64 (.ofNat 0)), (.string (bs [98])), (.slice none 0 0), (.slice none 0 0), (.string (bs [118, 97, 108, 117, 101])), (.int .i64 (.ofNat 1)), (.bool false), (.int .i64 (.ofNat 0)), (.string (bs [])), (.slice none 0 0), (.slice none 0 0)] 128 1, .cells [(.string (bs [107, 101, 121])), (.int .i64 (.ofNat 4)), (.bool false), (.int .i64 (.ofNat 0)), (.string (bs [99])), (.slice none 0 0), (.slice none 0 0), (.string (bs [118, 97, 108, 117, 101])), (.int .i64 (.ofNat 1)), (.bool false), (.int .i64 (.ofNat 0)), (.string (bs [])), (.slice none 0 0), (.slice none 0 0)] 128 1]
noncomputable def cons145 : BT Con := addTo cons144 74 m144
/-- commonplace/value.Copy, 176 steps -/
def m145 : Memo where
  pre := [([(.string (bs [99, 108, 105, 101, 110, 116])), (.int .i64 (.ofNat 3)), (.bool false), (.int .i64 (.ofNat 1)), (.string (bs [])), (.slice none 0 0), (.slice none 0 0), (.string (bs [108, 105, 115, 116])), (.int .i64 (.ofNat 5)), (.bool false), (.int .i64 (.ofNat 0)), (.string (bs [])), (.slice (some ⟨1, 0, none⟩) 3 OPEN), (.slice none 0 0)], 128), ([(.int .i64 (.ofNat 6)), (.bool false), (.int .i64 (.ofNat 0)), (.string (bs [])), (.slice none 0 0), (.slice (some ⟨2, 0, none⟩) 2 OPEN), (.int .i64 (.ofNat 6)), (.bool false), (.int .i64 (.ofNat 0)), (.string (bs [])), (.slice none 0 0), (.slice (some ⟨3, 0, none⟩) 2 OPEN), (.int .i64 (.ofNat 6)), (.bool false), (.int .i64 (.ofNat 0)), (.string (bs [])), (.slice none 0 0), (.slice (some ⟨4, 0, none⟩) 2 OPEN)], 29), ([(.string (bs [105, 100])), (.int .i64 (.ofNat 3)), (.bool false), (.int .i64 (.ofNat 1)), (.string (bs [])), (.slice none 0 0), (.slice none 0 0), (.string (bs [109, 117, 116, 97, 116, 111, 114])), (.int .i64 (.ofNat 6)), (.bool false), (.int .i64 (.ofNat 0)), (.string (bs [])), (.slice none 0 0), (.slice (some ⟨5, 0, none⟩) 2 OPEN)], 128), ([(.string (bs [105, 100])), (.int .i64 (.ofNat 3)), (.bool false), (.int .i64 (.ofNat 2)), (.string (bs [])), (.slice none 0 0), (.slice none 0 0), (.string (bs [109, 117, 116, 97, 116, 111, 114])), (.int .i64 (.ofNat 6)), (.bool false), (.int .i64 (.ofNat 0)), (.string (bs [])), (.slice none 0 0), (.slice (some ⟨6, 0, none⟩) 2 OPEN)], 128), ([(.string (bs [105, 100])), (.int .i64 (.ofNat 3)), (.bool false), (.int .i64 (.ofNat 3)), (.string (bs [])), (.slice none 0 0), (.slice none 0 0), (.string (bs [109, 117, 116, 97, 116, 111, 114])), (.int .i64 (.ofNat 6)), (.bool false), (.int .i64 (.ofNat 0)), (.string (bs [])), (.slice none 0 0), (.slice (some ⟨7, 0, none⟩) 2 OPEN)], 128), ([(.string (bs [97, 114, 103, 115])), (.int .i64 (.ofNat 6)), (.bool false), (.int .i64 (.ofNat 0)), (.string (bs [])), (.slice none 0 0), (.slice (some ⟨8, 0, none⟩) 2 OPEN), (.string (bs [110, 97, 109, 101])), (.int .i64 (.ofNat 4)), (.bool false), (.int .i64 (.ofNat 0)), (.string (bs [112, 117, 116])), (.slice none 0 0), (.slice none 0 0)], 128), ([(.string (bs [97, 114, 103, 115])), (.int .i64 (.ofNat 6)), (.bool false), (.int .i64 (.ofNat 0)), (.string (bs [])), (.slice none 0 0), (.slice (some ⟨9, 0, none⟩) 2 OPEN), (.string (bs [110, 97, 109, 101])), (.int .i64 (.ofNat 4)), (.bool false), (.int .i64 (.ofNat 0)), (.string (bs [112, 117, 116])), (.slice none 0 0), (.slice none 0 0)], 128), ([(.string (bs [97, 114, 103, 115])), (.int .i64 (.ofNat 6)), (.bool false), (.int .i64 (.ofNat 0)), (.string (bs [])), (.slice none 0 0), (.slice (some ⟨10, 0, none⟩) 2 OPEN), (.string (bs [110, 97, 109, 101])), (.int .i64 (.ofNat 4)), (.bool false), (.int .i64 (.ofNat 0)), (.string (bs [112, 117, 116])), (.slice none 0 0), (.slice none 0 0)], 128), ([(.string (bs [107, 101, 121])), (.int .i64 (.ofNat 4)), (.bool false), (.int .i64 (.ofNat 0)), (.string (bs [97])), (.slice none 0 0), (.slice none 0 0), (.string (bs [118, 97, 108, 117, 101])), (.int .i64 (.ofNat 1)), (.bool false), (.int .i64 (.ofNat 0)), (.string (bs [])), (.slice none 0 0), (.slice none 0 0)], 128), ([(.string (bs [107, 101, 121])), (.int .i64 (.ofNat 4)), (.bool false), (.int .i64 (.ofNat 0)), (.string (bs [98])), (.slice none 0 0), (.slice none 0 0), (.string (bs [118, 97, 108, 117, 101])), (.int .i64 (.ofNat 1)), (.bool false), (.int .i64 (.ofNat 0)), (.string (bs [])), (.slice none 0 0), (.slice none 0 0)], 128), ([(.string (bs [107, 101, 121])), (.int .i64 (.ofNat 4)), (.bool false), (.int .i64 (.ofNat 0)), (.string (bs [99])), (.slice none 0 0), (.slice none 0 0), (.string (bs [118, 97, 108, 117, 101])), (.int .i64 (.ofNat 1)), (.bool false), (.int .i64 (.ofNat 0)), (.string (bs [])), (.slice none 0 0), (.slice none 0 0)], 128)]
  args := [(.agg ⟨[(.int .i64 (.ofNat 0)), (.bool false), (.int .i64 (.ofNat 0)), (.string (bs [])), (.slice none 0 0), (.slice (some ⟨0, 0, none⟩) 2 OPEN)]⟩)]
  v := (.agg ⟨[(.int .i64 (.ofNat 0)), (.bool false), (.int .i64 (.ofNat 0)), (.string (bs [])), (.slice none 0 0), (.slice (some ⟨11, 0, none⟩) 2 OPEN)]⟩)
  xs := [.cells [(.string (bs [99, 108, 105, 101, 110, 116])), (.int .i64 (.ofNat 3)), (.bool false), (.int .i64 (.ofNat 1)), (.string (bs [])), (.slice none 0 0), (.slice none 0 0), (.string (bs [108, 105, 115, 116])), (.int .i64 (.ofNat 5)), (.bool false), (.int .i64 (.ofNat 0)), (.string (bs [])), (.slice (some ⟨12, 0, none⟩) 3 OPEN), (.slice none 0 0)] 128 1, .cells [(.int .i64 (.ofNat 6)), (.bool false), (.int .i64 (.ofNat 0)), (.string (bs [])), (.slice none 0 0), (.slice (some ⟨13, 0, none⟩) 2 OPEN), (.int .i64 (.ofNat 6)), (.bool false), (.int .i64 (.ofNat 0)), (.string (bs [])), (.slice none 0 0), (.slice (some ⟨14, 0, none⟩) 2 OPEN), (.int .i64 (.ofNat 6)), (.bool false), (.int .i64 (.ofNat 0)), (.string (bs [])), (.slice none 0 0), (.slice (some ⟨15, 0, none⟩) 2 OPEN)] 29 1, .cells [(.string (bs [105, 100])), (.int .i64 (.ofNat 3)), (.bool false), (.int .i64 (.ofNat 1)), (.string (bs [])), (.slice none 0 0), (.slice none 0 0), (.string (bs [109, 117, 116, 97, 116, 111, 114])), (.int .i64 (.ofNat 6)), (.bool false), (.int .i64 (.ofNat 0)), (.string (bs [])), (.slice none 0 0), (.slice (some ⟨16, 0, none⟩) 2 OPEN)] 128 1, .cells [(.string (bs [105, 100])), (.int .i64 (.ofNat 3)), (.bool false), (.int .i64 (.ofNat 2)), (.string (bs [])), (.slice none 0 0), (.slice none 0 0), (.string (bs [109, 117, 116, 97, 116, 111, 114])), (.int .i64 (.ofNat 6)), (.bool false), (.int .i64 (.ofNat 0)), (.string (bs [])), (.slice none 0 0), (.slice (some ⟨17, 0, none⟩) 2 OPEN)] 128 1, .cells [(.string (bs [105, 100])), (.int .i64 (.ofNat 3)), (.bool false), (.int .i64 (.ofNat 3)), (.string (bs [])), (.slice none 0 0), (.slice none 0 0), (.string (bs [109, 117, 116, 97, 116, 111, 114])), (.int .i64 (.ofNat 6)), (.bool false), (.int .i64 (.ofNat 0)), (.string (bs [])), (.slice none 0 0), (.slice (some ⟨18, 0, none⟩) 2 OPEN)] 128 1, .cells [(.string (bs [97, 114, 103, 115])), (.int .i64 (.ofNat 6)), (.bool false), (.int .i64 (.ofNat 0)), (.string (bs [])), (.slice none 0 0), (.slice (some ⟨19, 0, none⟩) 2 OPEN), (.string (bs [110, 97, 109, 101])), (.int .i64 (.ofNat 4)), (.bool false), (.int .i64 (.ofNat 0)), (.string (bs [112, 117, 116])), (.slice none 0 0), (.slice none 0 0)] 128 1, .cells [(.string (bs [97, 114, 103, 115])), (.int .i64 (.ofNat 6)), (.bool false), (.int .i64 (.ofNat 0)), (.string (bs [])), (.slice none 0 0), (.slice (some ⟨20, 0, none⟩) 2 OPEN), (.string (bs [110, 97, 109, 101])), (.int .i64 (.ofNat 4)), (.bool false), (.int .i64 (.ofNat 0)), (.string (bs [112, 117, 116])), (.slice none 0 0), (.slice none 0 0)] 128 1, .cells [(.string (bs [97, 114, 103, 115])), (.int .i64 (.ofNat 6)), (.bool false), (.int .i64 (.ofNat 0)), (.string (bs [])), (.slice none 0 0), (.slice (some ⟨21, 0, none⟩) 2 OPEN), (.string (bs [110, 97, 109, 101])), (.int .i64 (.ofNat 4)), (.bool false), (.int .i64 (.ofNat 0)), (.string (bs [112, 117, 116])), (.slice none 0 0), (.slice none 0 0)] 128 1, .cells [(.string (bs [107, 101, 121])), (.int .i64 (.ofNat 4)), (.bool false), (.int .i64 (.ofNat 0)), (.string (bs [97])), (.slice none 0 0), (.slice none 0 0), (.string (bs [118, 97, 108, 117, 101])), (.int .i64 (.ofNat 1)), (.bool false), (.int .i64 (.ofNat 0)), (.string (bs [])), (.slice none 0 0), (.slice none 0 0)] 128 1, .cells [(.string (bs [107, 101, 121])), (.int .i64 (.ofNat 4)), (.bool false), (.int .i64 (.ofNat 0)), (.string (bs [98])), (.slice none 0 0), (.slice none 0 0), (.string (bs [118, 97, 108, 117, 101])), (.int .i64 (.ofNat 1)), (.bool false), (.int .i64 (.ofNat 0)), (.string (bs [])), (.slice none 0 0), (.slice none 0 0)] 128 1, .cells [(.string (bs [107, 101, 121])), (.int .i64 (.ofNat 4)), (.bool false), (.int .i64 (.ofNat 0)), (.string (bs [99])), (.slice none 0 0), (.slice none 0 0), (.string (bs [118, 97, 108, 117, 101])), (.int .i64 (.ofNat 1)), (.bool false), (.int .i64 (.ofNat 0)), (.string (bs [])), (.slice none 0 0), (.slice none 0 0)] 128 1]
noncomputable def cons146 : BT Con := addTo cons145 74 m145
/-- commonplace/value.Object, 297 steps -/
def m146 : Memo where
  pre := [([(.string (bs [99, 108, 105, 101, 110, 116])), (.int .i64 (.ofNat 3)), (.bool false), (.int .i64 (.ofNat 1)), (.string (bs [])), (.slice none 0 0), (.slice none 0 0), (.string (bs [108, 105, 115, 116])), (.int .i64 (.ofNat 5)), (.bool false), (.int .i64 (.ofNat 0)), (.string (bs [])), (.slice (some ⟨1, 0, none⟩) 3 OPEN), (.slice none 0 0)], 128), ([(.int .i64 (.ofNat 6)), (.bool false), (.int .i64 (.ofNat 0)), (.string (bs [])), (.slice none 0 0), (.slice (some ⟨2, 0, none⟩) 2 OPEN), (.int .i64 (.ofNat 6)), (.bool false), (.int .i64 (.ofNat 0)), (.string (bs [])), (.slice none 0 0), (.slice (some ⟨3, 0, none⟩) 2 OPEN), (.int .i64 (.ofNat 6)), (.bool false), (.int .i64 (.ofNat 0)), (.string (bs [])), (.slice none 0 0), (.slice (some ⟨4, 0, none⟩) 2 OPEN)], 29), ([(.string (bs [105, 100])), (.int .i64 (.ofNat 3)), (.bool false), (.int .i64 (.ofNat 1)), (.string (bs [])), (.slice none 0 0), (.slice none 0 0), (.string (bs [109, 117, 116, 97, 116, 111, 114])), (.int .i64 (.ofNat 6)), (.bool false), (.int .i64 (.ofNat 0)), (.string (bs [])), (.slice none 0 0), (.slice (some ⟨5, 0, none⟩) 2 OPEN)], 128), ([(.string (bs [105, 100])), (.int .i64 (.ofNat 3)), (.bool false), (.int .i64 (.ofNat 2)), (.string (bs [])), (.slice none 0 0), (.slice none 0 0), (.string (bs [109, 117, 116, 97, 116, 111, 114])), (.int .i64 (.ofNat 6)), (.bool false), (.int .i64 (.ofNat 0)), (.string (bs [])), (.slice none 0 0), (.slice (some ⟨6, 0, none⟩) 2 OPEN)], 128), ([(.string (bs [105, 100])), (.int .i64 (.ofNat 3)), (.bool false), (.int .i64 (.ofNat 3)), (.string (bs [])), (.slice none 0 0), (.slice none 0 0), (.string (bs [109, 117, 116, 97, 116, 111, 114])), (.int .i64 (.ofNat 6)), (.bool false), (.int .i64 (.ofNat 0)), (.string (bs [])), (.slice none 0 0), (.slice (some ⟨7, 0, none⟩) 2 OPEN)], 128), ([(.string (bs [97, 114, 103, 115])), (.int .i64 (.ofNat 6)), (.bool false), (.int .i64 (.ofNat 0)), (.string (bs [])), (.slice none 0 0), (.slice (some ⟨8, 0, none⟩) 2 OPEN), (.string (bs [110, 97, 109, 101])), (.int .i64 (.ofNat 4)), (.bool false), (.int .i64 (.ofNat 0)), (.string (bs [112, 117, 116])), (.slice none 0 0), (.slice none 0 0)], 128), ([(.string (bs [97, 114, 103, 115])), (.int .i64 (.ofNat 6)), (.bool false), (.int .i64 (.ofNat 0)), (.string (bs [])), (.slice none 0 0), (.slice (some ⟨9, 0, none⟩) 2 OPEN), (.string (bs [110, 97, 109, 101])), (.int .i64 (.ofNat 4)), (.bool false), (.int .i64 (.ofNat 0)), (.string (bs [112, 117, 116])), (.slice none 0 0), (.slice none 0 0)], 128), ([(.string (bs [97, 114, 103, 115])), (.int .i64 (.ofNat 6)), (.bool false), (.int .i64 (.ofNat 0)), (.string (bs [])), (.slice none 0 0), (.slice (some ⟨10, 0, none⟩) 2 OPEN), (.string (bs [110, 97, 109, 101])), (.int .i64 (.ofNat 4)), (.bool false), (.int .i64 (.ofNat 0)), (.string (bs [112, 117, 116])), (.slice none 0 0), (.slice none 0 0)], 128), ([(.string (bs [107, 101, 121])), (.int .i64 (.ofNat 4)), (.bool false), (.int .i64 (.ofNat 0)), (.string (bs [97])), (.slice none 0 0), (.slice none 0 0), (.string (bs [118, 97, 108, 117, 101])), (.int .i64 (.ofNat 1)), (.bool false), (.int .i64 (.ofNat 0)), (.string (bs [])), (.slice none 0 0), (.slice none 0 0)], 128), ([(.string (bs [107, 101, 121])), (.int .i64 (.ofNat 4)), (.bool false), (.int .i64 (.ofNat 0)), (.string (bs [98])), (.slice none 0 0), (.slice none 0 0), (.string (bs [118, 97, 108, 117, 101])), (.int .i64 (.ofNat 1)), (.bool false), (.int .i64 (.ofNat 0)), (.string (bs [])), (.slice none 0 0), (.slice none 0 0)], 128), ([(.string (bs [107, 101, 121])), (.int .i64 (.ofNat 4)), (.bool false), (.int .i64 (.ofNat 0)), (.string (bs [99])), (.slice none 0 0), (.slice none 0 0), (.string (bs [118, 97, 108, 117, 101])), (.int .i64 (.ofNat 1)), (.bool false), (.int .i64 (.ofNat 0)), (.string (bs [])), (.slice none 0 0), (.slice none 0 0)], 128)]
  args := [(.slice (some ⟨0, 0, none⟩) 2 OPEN)]
  v := (.tuple ⟨[(.agg ⟨[(.int .i64 (.ofNat 6)), (.bool false), (.int .i64 (.ofNat 0)), (.string (bs [])), (.slice none 0 0), (.slice (some ⟨11, 0, none⟩) 2 OPEN)]⟩), (.int .i64 (.ofNat 0))]⟩)
  xs := [.cells [(.string (bs [99, 108, 105, 101, 110, 116])), (.int .i64 (.ofNat 3)), (.bool false), (.int .i64 (.ofNat 1)), (.string (bs [])), (.slice none 0 0), (.slice none 0 0), (.string (bs [108, 105, 115, 116])), (.int .i64 (.ofNat 5)), (.bool false), (.int .i64 (.ofNat 0)), (.string (bs [])), (.slice (some ⟨12, 0, none⟩) 3 OPEN), (.slice none 0 0)] 128 1, .cells [(.int .i64 (.ofNat 6)), (.bool false), (.int .i64 (.ofNat 0)), (.string (bs [])), (.slice none 0 0), (.slice (some ⟨13, 0, none⟩) 2 OPEN), (.int .i64 (.ofNat 6)), (.bool false), (.int .i64 (.ofNat 0)), (.string (bs [])), (.slice none 0 0), (.slice (some ⟨14, 0, none⟩) 2 OPEN), (.int .i64 (.ofNat 6)), (.bool false), (.int .i64 (.ofNat 0)), (.string (bs [])), (.slice none 0 0), (.slice (some ⟨15, 0, none⟩) 2 OPEN)] 29 1, .cells [(.string (bs [105, 100])), (.int .i64 (.ofNat 3)), (.bool false), (.int .i64 (.ofNat 1)), (.string (bs [])), (.slice none 0 0), (.slice none 0 0), (.string (bs [109, 117, 116, 97, 116, 111, 114])), (.int .i64 (.ofNat 6)), (.bool false), (.int .i64 (.ofNat 0)), (.string (bs [])), (.slice none 0 0), (.slice (some ⟨16, 0, none⟩) 2 OPEN)] 128 1, .cells [(.string (bs [105, 100])), (.int .i64 (.ofNat 3)), (.bool false), (.int .i64 (.ofNat 2)), (.string (bs [])), (.slice none 0 0), (.slice none 0 0), (.string (bs [109, 117, 116, 97, 116, 111, 114])), (.int .i64 (.ofNat 6)), (.bool false), (.int .i64 (.ofNat 0)), (.string (bs [])), (.slice none 0 0), (.slice (some ⟨17, 0, none⟩) 2 OPEN)] 128 1, .cells [(.string (bs [105, 100])), (.int .i64 (.ofNat 3)), (.bool false), (.int .i64 (.ofNat 3)), (.string (bs [])), (.slice none 0 0), (.slice none 0 0), (.string (bs [109, 117, 116, 97, 116, 111, 114])), (.int .i64 (.ofNat 6)), (.bool false), (.int .i64 (.ofNat 0)), (.string (bs [])), (.slice none 0 0), (.slice (some ⟨18, 0, none⟩) 2 OPEN)] 128 1, .cells [(.string (bs [97, 114, 103, 115])), (.int .i64 (.ofNat 6)), (.bool false), (.int .i64 (.ofNat 0)), (.string (bs [])), (.slice none 0 0), (.slice (some ⟨19, 0, none⟩) 2 OPEN), (.string (bs [110, 97, 109, 101])), (.int .i64 (.ofNat 4)), (.bool false), (.int .i64 (.ofNat 0)), (.string (bs [112, 117, 116])), (.slice none 0 0), (.slice none 0 0)] 128 1, .cells [(.string (bs [97, 114, 103, 115])), (.int .i64 (.ofNat 6)), (.bool false), (.int .i64 (.ofNat 0)), (.string (bs [])), (.slice none 0 0), (.slice (some ⟨20, 0, none⟩) 2 OPEN), (.string (bs [110, 97, 109, 101])), (.int .i64 (.ofNat 4)), (.bool false), (.int .i64 (.ofNat 0)), (.string (bs [112, 117, 116])), (.slice none 0 0), (.slice none 0 0)] 128 1, .cells [(.string (bs [97, 114, 103, 115])), (.int .i64 (.ofNat 6)), (.bool false), (.int .i64 (.ofNat 0)), (.string (bs [])), (.slice none 0 0), (.slice (some ⟨21, 0, none⟩) 2 OPEN), (.string (bs [110, 97, 109, 101])), (.int .i64 (.ofNat 4)), (.bool false), (.int .i64 (.ofNat 0)), (.string (bs [112, 117, 116])), (.slice none 0 0), (.slice none 0 0)] 128 1, .cells [(.string (bs [107, 101, 121])), (.int .i64 (.ofNat 4)), (.bool false), (.int .i64 (.ofNat 0)), (.string (bs [97])), (.slice none 0 0), (.slice none 0 0), (.string (bs [118, 97, 108, 117, 101])), (.int .i64 (.ofNat 1)), (.bool false), (.int .i64 (.ofNat 0)), (.string (bs [])), (.slice none 0 0), (.slice none 0 0)] 128 1, .cells [(.string (bs [107, 101, 121])), (.int .i64 (.ofNat 4)), (.bool false), (.int .i64 (.ofNat 0)), (.string (bs [98])), (.slice none 0 0), (.slice none 0 0), (.string (bs [118, 97, 108, 117, 101])), (.int .i64 (.ofNat 1)), (.bool false), (.int .i64 (.ofNat 0)), (.string (bs [])), (.slice none 0 0), (.slice none 0 0)] 128 1, .cells [(.string (bs [107, 101, 121])), (.int .i64 (.ofNat 4)), (.bool false), (.int .i64 (.ofNat 0)), (.string (bs [99])), (.slice none 0 0), (.slice none 0 0), (.string (bs [118, 97, 108, 117, 101])), (.int .i64 (.ofNat 1)), (.bool false), (.int .i64 (.ofNat 0)), (.string (bs [])), (.slice none 0 0), (.slice none 0 0)] 128 1]
noncomputable def cons147 : BT Con := addTo cons146 127 m146
/-- commonplace/parse.Parse, 17084 steps -/
def m147 : Memo where
  pre := []
  args := [(.string (bs [123, 34, 99, 108, 105, 101, 110, 116, 34, 58, 49, 44, 34, 108, 105, 115, 116, 34, 58, 91, 123, 34, 105, 100, 34, 58, 49, 44, 34, 109, 117, 116, 97, 116, 111, 114, 34, 58, 123, 34, 97, 114, 103, 115, 34, 58, 123, 34, 107, 101, 121, 34, 58, 34, 97, 34, 44, 34, 118, 97, 108, 117, 101, 34, 58, 110, 117, 108, 108, 125, 44, 34, 110, 97, 109, 101, 34, 58, 34, 112, 117, 116, 34, 125, 125, 44, 123, 34, 105, 100, 34, 58, 50, 44, 34, 109, 117, 116, 97, 116, 111, 114, 34, 58, 123, 34, 97, 114, 103, 115, 34, 58, 123, 34, 107, 101, 121, 34, 58, 34, 98, 34, 44, 34, 118, 97, 108, 117, 101, 34, 58, 110, 117, 108, 108, 125, 44, 34, 110, 97, 109, 101, 34, 58, 34, 112, 117, 116, 34, 125, 125, 44, 123, 34, 105, 100, 34, 58, 51, 44, 34, 109, 117, 116, 97, 116, 111, 114, 34, 58, 123, 34, 97, 114, 103, 115, 34, 58, 123, 34, 107, 101, 121, 34, 58, 34, 99, 34, 44, 34, 118, 97, 108, 117, 101, 34, 58, 110, 117, 108, 108, 125, 44, 34, 110, 97, 109, 101, 34, 58, 34, 112, 117, 116, 34, 125, 125, 93, 125]))]
  v := (.tuple ⟨[(.agg ⟨[(.int .i64 (.ofNat 6)), (.bool false), (.int .i64 (.ofNat 0)), (.string (bs [])), (.slice none 0 0), (.slice (some ⟨0, 0, none⟩) 2 OPEN)]⟩), (.int .i64 (.ofNat 219)), (.int .i64 (.ofNat 0))]⟩)
  xs := [.cells [(.string (bs [99, 108, 105, 101, 110, 116])), (.int .i64 (.ofNat 3)), (.bool false), (.int .i64 (.ofNat 1)), (.string (bs [])), (.slice none 0 0), (.slice none 0 0), (.string (bs [108, 105, 115, 116])), (.int .i64 (.ofNat 5)), (.bool false), (.int .i64 (.ofNat 0)), (.string (bs [])), (.slice (some ⟨1, 0, none⟩) 3 OPEN), (.slice none 0 0)] 128 1, .cells [(.int .i64 (.ofNat 6)), (.bool false), (.int .i64 (.ofNat 0)), (.string (bs [])), (.slice none 0 0), (.slice (some ⟨2, 0, none⟩) 2 OPEN), (.int .i64 (.ofNat 6)), (.bool false), (.int .i64 (.ofNat 0)), (.string (bs [])), (.slice none 0 0), (.slice (some ⟨3, 0, none⟩) 2 OPEN), (.int .i64 (.ofNat 6)), (.bool false), (.int .i64 (.ofNat 0)), (.string (bs [])), (.slice none 0 0), (.slice (some ⟨4, 0, none⟩) 2 OPEN)] 29 1, .cells [(.string (bs [105, 100])), (.int .i64 (.ofNat 3)), (.bool false), (.int .i64 (.ofNat 1)), (.string (bs [])), (.slice none 0 0), (.slice none 0 0), (.string (bs [109, 117, 116, 97, 116, 111, 114])), (.int .i64 (.ofNat 6)), (.bool false), (.int .i64 (.ofNat 0)), (.string (bs [])), (.slice none 0 0), (.slice (some ⟨5, 0, none⟩) 2 OPEN)] 128 1, .cells [(.string (bs [105, 100])), (.int .i64 (.ofNat 3)), (.bool false), (.int .i64 (.ofNat 2)), (.string (bs [])), (.slice none 0 0), (.slice none 0 0), (.string (bs [109, 117, 116, 97, 116, 111, 114])), (.int .i64 (.ofNat 6)), (.bool false), (.int .i64 (.ofNat 0)), (.string (bs [])), (.slice none 0 0), (.slice (some ⟨6, 0, none⟩) 2 OPEN)] 128 1, .cells [(.string (bs [105, 100])), (.int .i64 (.ofNat 3)), (.bool false), (.int .i64 (.ofNat 3)), (.string (bs [])), (.slice none 0 0), (.slice none 0 0), (.string (bs [109, 117, 116, 97, 116, 111, 114])), (.int .i64 (.ofNat 6)), (.bool false), (.int .i64 (.ofNat 0)), (.string (bs [])), (.slice none 0 0), (.slice (some ⟨7, 0, none⟩) 2 OPEN)] 128 1, .cells [(.string (bs [97, 114, 103, 115])), (.int .i64 (.ofNat 6)), (.bool false), (.int .i64 (.ofNat 0)), (.string (bs [])), (.slice none 0 0), (.slice (some ⟨8, 0, none⟩) 2 OPEN), (.string (bs [110, 97, 109, 101])), (.int .i64 (.ofNat 4)), (.bool false), (.int .i64 (.ofNat 0)), (.string (bs [112, 117, 116])), (.slice none 0 0), (.slice none 0 0)] 128 1, .cells [(.string (bs [97, 114, 103, 115])), (.int .i64 (.ofNat 6)), (.bool false), (.int .i64 (.ofNat 0)), (.string (bs [])), (.slice none 0 0), (.slice (some ⟨9, 0, none⟩) 2 OPEN), (.string (bs [110, 97, 109, 101])), (.int .i64 (.ofNat 4)), (.bool false), (.int .i64 (.ofNat 0)), (.string (bs [112, 117, 116])), (.slice none 0 0), (.slice none 0 0)] 128 1, .cells [(.string (bs [97, 114, 103, 115])), (.int .i64 (.ofNat 6)), (.bool false), (.int .i64 (.ofNat 0)), (.string (bs [])), (.slice none 0 0), (.slice (some ⟨10, 0, none⟩) 2 OPEN), (.string (bs [110, 97, 109, 101])), (.int .i64 (.ofNat 4)), (.bool false), (.int .i64 (.ofNat 0)), (.string (bs [112, 117, 116])), (.slice none 0 0), (.slice none 0 0)] 128 1, .cells [(.string (bs [107, 101, 121])), (.int .i64 (.ofNat 4)), (.bool false), (.int .i64 (.ofNat 0)), (.string (bs [97])), (.slice none 0 0), (.slice none 0 0), (.string (bs [118, 97, 108, 117, 101])), (.int .i64 (.ofNat 1)), (.bool false), (.int .i64 (.ofNat 0)), (.string (bs [])), (.slice none 0 0), (.slice none 0 0)] 128 1, .cells [(.string (bs [107, 101, 121])), (.int .i64 (.ofNat 4)), (.bool false), (.int .i64 (.ofNat 0)), (.string (bs [98])), (.slice none 0 0), (.slice none 0 0), (.string (bs [118, 97, 108, 117, 101])), (.int .i64 (.ofNat 1)), (.bool false), (.int .i64 (.ofNat 0)), (.string (bs [])), (.slice none 0 0), (.slice none 0 0)] 128 1, .cells [(.string (bs [107, 101, 121])), (.int .i64 (.ofNat 4)), (.bool false), (.int .i64 (.ofNat 0)), (.string (bs [99])), (.slice none 0 0), (.slice none 0 0), (.string (bs [118, 97, 108, 117, 101])), (.int .i64 (.ofNat 1)), (.bool false), (.int .i64 (.ofNat 0)), (.string (bs [])), (.slice none 0 0), (.slice none 0 0)] 128 1]
noncomputable def cons148 : BT Con := addTo cons147 108 m147
/-- commonplace/value.May, 5104 steps -/
def m148 : Memo where
  pre := [([(.string (bs [99, 108, 105, 101, 110, 116])), (.int .i64 (.ofNat 3)), (.bool false), (.int .i64 (.ofNat 1)), (.string (bs [])), (.slice none 0 0), (.slice none 0 0), (.string (bs [108, 105, 115, 116])), (.int .i64 (.ofNat 5)), (.bool false), (.int .i64 (.ofNat 0)), (.string (bs [])), (.slice (some ⟨1, 0, none⟩) 3 OPEN), (.slice none 0 0)], 128), ([(.int .i64 (.ofNat 6)), (.bool false), (.int .i64 (.ofNat 0)), (.string (bs [])), (.slice none 0 0), (.slice (some ⟨2, 0, none⟩) 2 OPEN), (.int .i64 (.ofNat 6)), (.bool false), (.int .i64 (.ofNat 0)), (.string (bs [])), (.slice none 0 0), (.slice (some ⟨3, 0, none⟩) 2 OPEN), (.int .i64 (.ofNat 6)), (.bool false), (.int .i64 (.ofNat 0)), (.string (bs [])), (.slice none 0 0), (.slice (some ⟨4, 0, none⟩) 2 OPEN)], 29), ([(.string (bs [105, 100])), (.int .i64 (.ofNat 3)), (.bool false), (.int .i64 (.ofNat 1)), (.string (bs [])), (.slice none 0 0), (.slice none 0 0), (.string (bs [109, 117, 116, 97, 116, 111, 114])), (.int .i64 (.ofNat 6)), (.bool false), (.int .i64 (.ofNat 0)), (.string (bs [])), (.slice none 0 0), (.slice (some ⟨5, 0, none⟩) 2 OPEN)], 128), ([(.string (bs [105, 100])), (.int .i64 (.ofNat 3)), (.bool false), (.int .i64 (.ofNat 2)), (.string (bs [])), (.slice none 0 0), (.slice none 0 0), (.string (bs [109, 117, 116, 97, 116, 111, 114])), (.int .i64 (.ofNat 6)), (.bool false), (.int .i64 (.ofNat 0)), (.string (bs [])), (.slice none 0 0), (.slice (some ⟨6, 0, none⟩) 2 OPEN)], 128), ([(.string (bs [105, 100])), (.int .i64 (.ofNat 3)), (.bool false), (.int .i64 (.ofNat 3)), (.string (bs [])), (.slice none 0 0), (.slice none 0 0), (.string (bs [109, 117, 116, 97, 116, 111, 114])), (.int .i64 (.ofNat 6)), (.bool false), (.int .i64 (.ofNat 0)), (.string (bs [])), (.slice none 0 0), (.slice (some ⟨7, 0, none⟩) 2 OPEN)], 128), ([(.string (bs [97, 114, 103, 115])), (.int .i64 (.ofNat 6)), (.bool false), (.int .i64 (.ofNat 0)), (.string (bs [])), (.slice none 0 0), (.slice (some ⟨8, 0, none⟩) 2 OPEN), (.string (bs [110, 97, 109, 101])), (.int .i64 (.ofNat 4)), (.bool false), (.int .i64 (.ofNat 0)), (.string (bs [112, 117, 116])), (.slice none 0 0), (.slice none 0 0)], 128), ([(.string (bs [97, 114, 103, 115])), (.int .i64 (.ofNat 6)), (.bool false), (.int .i64 (.ofNat 0)), (.string (bs [])), (.slice none 0 0), (.slice (some ⟨9, 0, none⟩) 2 OPEN), (.string (bs [110, 97, 109, 101])), (.int .i64 (.ofNat 4)), (.bool false), (.int .i64 (.ofNat 0)), (.string (bs [112, 117, 116])), (.slice none 0 0), (.slice none 0 0)], 128), ([(.string (bs [97, 114, 103, 115])), (.int .i64 (.ofNat 6)), (.bool false), (.int .i64 (.ofNat 0)), (.string (bs [])), (.slice none 0 0), (.slice (some ⟨10, 0, none⟩) 2 OPEN), (.string (bs [110, 97, 109, 101])), (.int .i64 (.ofNat 4)), (.bool false), (.int .i64 (.ofNat 0)), (.string (bs [112, 117, 116])), (.slice none 0 0), (.slice none 0 0)], 128), ([(.string (bs [107, 101, 121])), (.int .i64 (.ofNat 4)), (.bool false), (.int .i64 (.ofNat 0)), (.string (bs [97])), (.slice none 0 0), (.slice none 0 0), (.string (bs [118, 97, 108, 117, 101])), (.int .i64 (.ofNat 1)), (.bool false), (.int .i64 (.ofNat 0)), (.string (bs [])), (.slice none 0 0), (.slice none 0 0)], 128), ([(.string (bs [107, 101, 121])), (.int .i64 (.ofNat 4)), (.bool false), (.int .i64 (.ofNat 0)), (.string (bs [98])), (.slice none 0 0), (.slice none 0 0), (.string (bs [118, 97, 108, 117, 101])), (.int .i64 (.ofNat 1)), (.bool false), (.int .i64 (.ofNat 0)), (.string (bs [])), (.slice none 0 0), (.slice none 0 0)], 128), ([(.string (bs [107, 101, 121])), (.int .i64 (.ofNat 4)), (.bool false), (.int .i64 (.ofNat 0)), (.string (bs [99])), (.slice none 0 0), (.slice none 0 0), (.string (bs [118, 97, 108, 117, 101])), (.int .i64 (.ofNat 1)), (.bool false), (.int .i64 (.ofNat 0)), (.string (bs [])), (.slice none 0 0), (.slice none 0 0)], 128)]
  args := [(.agg ⟨[(.int .i64 (.ofNat 6)), (.bool false), (.int .i64 (.ofNat 0)), (.string (bs [])), (.slice none 0 0), (.slice (some ⟨0, 0, none⟩) 2 OPEN)]⟩)]
  v := (.int .i64 (.ofNat 0))
  xs := []
noncomputable def cons149 : BT Con := addTo cons148 57 m148
/-- commonplace/encode.text, 1071 steps -/
def m149 : Memo where
  pre := [([(.string (bs [97, 114, 103, 115])), (.int .i64 (.ofNat 6)), (.bool false), (.int .i64 (.ofNat 0)), (.string (bs [])), (.slice none 0 0), (.slice (some ⟨1, 0, none⟩) 2 OPEN), (.string (bs [110, 97, 109, 101])), (.int .i64 (.ofNat 4)), (.bool false), (.int .i64 (.ofNat 0)), (.string (bs [112, 117, 116])), (.slice none 0 0), (.slice none 0 0)], 128), ([(.string (bs [107, 101, 121])), (.int .i64 (.ofNat 4)), (.bool false), (.int .i64 (.ofNat 0)), (.string (bs [97])), (.slice none 0 0), (.slice none 0 0), (.string (bs [118, 97, 108, 117, 101])), (.int .i64 (.ofNat 1)), (.bool false), (.int .i64 (.ofNat 0)), (.string (bs [])), (.slice none 0 0), (.slice none 0 0)], 128)]
  args := [(.agg ⟨[(.int .i64 (.ofNat 6)), (.bool false), (.int .i64 (.ofNat 0)), (.string (bs [])), (.slice none 0 0), (.slice (some ⟨0, 0, none⟩) 2 OPEN)]⟩)]
  v := (.string (bs [123, 34, 97, 114, 103, 115, 34, 58, 123, 34, 107, 101, 121, 34, 58, 34, 97, 34, 44, 34, 118, 97, 108, 117, 101, 34, 58, 110, 117, 108, 108, 125, 44, 34, 110, 97, 109, 101, 34, 58, 34, 112, 117, 116, 34, 125]))
  xs := []
noncomputable def cons150 : BT Con := addTo cons149 58 m149
/-- commonplace/encode.text, 1071 steps -/
def m150 : Memo where
  pre := [([(.string (bs [105, 100])), (.int .i64 (.ofNat 3)), (.bool false), (.int .i64 (.ofNat 1)), (.string (bs [])), (.slice none 0 0), (.slice none 0 0), (.string (bs [109, 117, 116, 97, 116, 111, 114])), (.int .i64 (.ofNat 6)), (.bool false), (.int .i64 (.ofNat 0)), (.string (bs [])), (.slice none 0 0), (.slice (some ⟨1, 0, none⟩) 2 OPEN)], 128), ([(.string (bs [97, 114, 103, 115])), (.int .i64 (.ofNat 6)), (.bool false), (.int .i64 (.ofNat 0)), (.string (bs [])), (.slice none 0 0), (.slice (some ⟨2, 0, none⟩) 2 OPEN), (.string (bs [110, 97, 109, 101])), (.int .i64 (.ofNat 4)), (.bool false), (.int .i64 (.ofNat 0)), (.string (bs [112, 117, 116])), (.slice none 0 0), (.slice none 0 0)], 128), ([(.string (bs [107, 101, 121])), (.int .i64 (.ofNat 4)), (.bool false), (.int .i64 (.ofNat 0)), (.string (bs [97])), (.slice none 0 0), (.slice none 0 0), (.string (bs [118, 97, 108, 117, 101])), (.int .i64 (.ofNat 1)), (.bool false), (.int .i64 (.ofNat 0)), (.string (bs [])), (.slice none 0 0), (.slice none 0 0)], 128)]
  args := [(.agg ⟨[(.int .i64 (.ofNat 6)), (.bool false), (.int .i64 (.ofNat 0)), (.string (bs [])), (.slice none 0 0), (.slice (some ⟨0, 0, none⟩) 2 OPEN)]⟩)]
  v := (.string (bs [123, 34, 105, 100, 34, 58, 49, 44, 34, 109, 117, 116, 97, 116, 111, 114, 34, 58, 123, 34, 97, 114, 103, 115, 34, 58, 123, 34, 107, 101, 121, 34, 58, 34, 97, 34, 44, 34, 118, 97, 108, 117, 101, 34, 58, 110, 117, 108, 108, 125, 44, 34, 110, 97, 109, 101, 34, 58, 34, 112, 117, 116, 34, 125, 125]))
  xs := []
noncomputable def cons151 : BT Con := addTo cons150 58 m150
/-- commonplace/encode.text, 1071 steps -/
def m151 : Memo where
  pre := [([(.string (bs [97, 114, 103, 115])), (.int .i64 (.ofNat 6)), (.bool false), (.int .i64 (.ofNat 0)), (.string (bs [])), (.slice none 0 0), (.slice (some ⟨1, 0, none⟩) 2 OPEN), (.string (bs [110, 97, 109, 101])), (.int .i64 (.ofNat 4)), (.bool false), (.int .i64 (.ofNat 0)), (.string (bs [112, 117, 116])), (.slice none 0 0), (.slice none 0 0)], 128), ([(.string (bs [107, 101, 121])), (.int .i64 (.ofNat 4)), (.bool false), (.int .i64 (.ofNat 0)), (.string (bs [98])), (.slice none 0 0), (.slice none 0 0), (.string (bs [118, 97, 108, 117, 101])), (.int .i64 (.ofNat 1)), (.bool false), (.int .i64 (.ofNat 0)), (.string (bs [])), (.slice none 0 0), (.slice none 0 0)], 128)]
  args := [(.agg ⟨[(.int .i64 (.ofNat 6)), (.bool false), (.int .i64 (.ofNat 0)), (.string (bs [])), (.slice none 0 0), (.slice (some ⟨0, 0, none⟩) 2 OPEN)]⟩)]
  v := (.string (bs [123, 34, 97, 114, 103, 115, 34, 58, 123, 34, 107, 101, 121, 34, 58, 34, 98, 34, 44, 34, 118, 97, 108, 117, 101, 34, 58, 110, 117, 108, 108, 125, 44, 34, 110, 97, 109, 101, 34, 58, 34, 112, 117, 116, 34, 125]))
  xs := []
noncomputable def cons152 : BT Con := addTo cons151 58 m151
/-- commonplace/encode.text, 1071 steps -/
def m152 : Memo where
  pre := [([(.string (bs [105, 100])), (.int .i64 (.ofNat 3)), (.bool false), (.int .i64 (.ofNat 2)), (.string (bs [])), (.slice none 0 0), (.slice none 0 0), (.string (bs [109, 117, 116, 97, 116, 111, 114])), (.int .i64 (.ofNat 6)), (.bool false), (.int .i64 (.ofNat 0)), (.string (bs [])), (.slice none 0 0), (.slice (some ⟨1, 0, none⟩) 2 OPEN)], 128), ([(.string (bs [97, 114, 103, 115])), (.int .i64 (.ofNat 6)), (.bool false), (.int .i64 (.ofNat 0)), (.string (bs [])), (.slice none 0 0), (.slice (some ⟨2, 0, none⟩) 2 OPEN), (.string (bs [110, 97, 109, 101])), (.int .i64 (.ofNat 4)), (.bool false), (.int .i64 (.ofNat 0)), (.string (bs [112, 117, 116])), (.slice none 0 0), (.slice none 0 0)], 128), ([(.string (bs [107, 101, 121])), (.int .i64 (.ofNat 4)), (.bool false), (.int .i64 (.ofNat 0)), (.string (bs [98])), (.slice none 0 0), (.slice none 0 0), (.string (bs [118, 97, 108, 117, 101])), (.int .i64 (.ofNat 1)), (.bool false), (.int .i64 (.ofNat 0)), (.string (bs [])), (.slice none 0 0), (.slice none 0 0)], 128)]
  args := [(.agg ⟨[(.int .i64 (.ofNat 6)), (.bool false), (.int .i64 (.ofNat 0)), (.string (bs [])), (.slice none 0 0), (.slice (some ⟨0, 0, none⟩) 2 OPEN)]⟩)]
  v := (.string (bs [123, 34, 105, 100, 34, 58, 50, 44, 34, 109, 117, 116, 97, 116, 111, 114, 34, 58, 123, 34, 97, 114, 103, 115, 34, 58, 123, 34, 107, 101, 121, 34, 58, 34, 98, 34, 44, 34, 118, 97, 108, 117, 101, 34, 58, 110, 117, 108, 108, 125, 44, 34, 110, 97, 109, 101, 34, 58, 34, 112, 117, 116, 34, 125, 125]))
  xs := []
noncomputable def cons153 : BT Con := addTo cons152 58 m152
/-- commonplace/encode.text, 1071 steps -/
def m153 : Memo where
  pre := [([(.string (bs [97, 114, 103, 115])), (.int .i64 (.ofNat 6)), (.bool false), (.int .i64 (.ofNat 0)), (.string (bs [])), (.slice none 0 0), (.slice (some ⟨1, 0, none⟩) 2 OPEN), (.string (bs [110, 97, 109, 101])), (.int .i64 (.ofNat 4)), (.bool false), (.int .i64 (.ofNat 0)), (.string (bs [112, 117, 116])), (.slice none 0 0), (.slice none 0 0)], 128), ([(.string (bs [107, 101, 121])), (.int .i64 (.ofNat 4)), (.bool false), (.int .i64 (.ofNat 0)), (.string (bs [99])), (.slice none 0 0), (.slice none 0 0), (.string (bs [118, 97, 108, 117, 101])), (.int .i64 (.ofNat 1)), (.bool false), (.int .i64 (.ofNat 0)), (.string (bs [])), (.slice none 0 0), (.slice none 0 0)], 128)]
  args := [(.agg ⟨[(.int .i64 (.ofNat 6)), (.bool false), (.int .i64 (.ofNat 0)), (.string (bs [])), (.slice none 0 0), (.slice (some ⟨0, 0, none⟩) 2 OPEN)]⟩)]
  v := (.string (bs [123, 34, 97, 114, 103, 115, 34, 58, 123, 34, 107, 101, 121, 34, 58, 34, 99, 34, 44, 34, 118, 97, 108, 117, 101, 34, 58, 110, 117, 108, 108, 125, 44, 34, 110, 97, 109, 101, 34, 58, 34, 112, 117, 116, 34, 125]))
  xs := []
noncomputable def cons154 : BT Con := addTo cons153 58 m153
/-- commonplace/encode.text, 1071 steps -/
def m154 : Memo where
  pre := [([(.string (bs [105, 100])), (.int .i64 (.ofNat 3)), (.bool false), (.int .i64 (.ofNat 3)), (.string (bs [])), (.slice none 0 0), (.slice none 0 0), (.string (bs [109, 117, 116, 97, 116, 111, 114])), (.int .i64 (.ofNat 6)), (.bool false), (.int .i64 (.ofNat 0)), (.string (bs [])), (.slice none 0 0), (.slice (some ⟨1, 0, none⟩) 2 OPEN)], 128), ([(.string (bs [97, 114, 103, 115])), (.int .i64 (.ofNat 6)), (.bool false), (.int .i64 (.ofNat 0)), (.string (bs [])), (.slice none 0 0), (.slice (some ⟨2, 0, none⟩) 2 OPEN), (.string (bs [110, 97, 109, 101])), (.int .i64 (.ofNat 4)), (.bool false), (.int .i64 (.ofNat 0)), (.string (bs [112, 117, 116])), (.slice none 0 0), (.slice none 0 0)], 128), ([(.string (bs [107, 101, 121])), (.int .i64 (.ofNat 4)), (.bool false), (.int .i64 (.ofNat 0)), (.string (bs [99])), (.slice none 0 0), (.slice none 0 0), (.string (bs [118, 97, 108, 117, 101])), (.int .i64 (.ofNat 1)), (.bool false), (.int .i64 (.ofNat 0)), (.string (bs [])), (.slice none 0 0), (.slice none 0 0)], 128)]
  args := [(.agg ⟨[(.int .i64 (.ofNat 6)), (.bool false), (.int .i64 (.ofNat 0)), (.string (bs [])), (.slice none 0 0), (.slice (some ⟨0, 0, none⟩) 2 OPEN)]⟩)]
  v := (.string (bs [123, 34, 105, 100, 34, 58, 51, 44, 34, 109, 117, 116, 97, 116, 111, 114, 34, 58, 123, 34, 97, 114, 103, 115, 34, 58, 123, 34, 107, 101, 121, 34, 58, 34, 99, 34, 44, 34, 118, 97, 108, 117, 101, 34, 58, 110, 117, 108, 108, 125, 44, 34, 110, 97, 109, 101, 34, 58, 34, 112, 117, 116, 34, 125, 125]))
  xs := []
noncomputable def cons155 : BT Con := addTo cons154 58 m154
/-- commonplace/encode.text, 1258 steps -/
def m155 : Memo where
  pre := [([(.int .i64 (.ofNat 6)), (.bool false), (.int .i64 (.ofNat 0)), (.string (bs [])), (.slice none 0 0), (.slice (some ⟨1, 0, none⟩) 2 OPEN), (.int .i64 (.ofNat 6)), (.bool false), (.int .i64 (.ofNat 0)), (.string (bs [])), (.slice none 0 0), (.slice (some ⟨2, 0, none⟩) 2 OPEN), (.int .i64 (.ofNat 6)), (.bool false), (.int .i64 (.ofNat 0)), (.string (bs [])), (.slice none 0 0), (.slice (some ⟨3, 0, none⟩) 2 OPEN)], 29), ([(.string (bs [105, 100])), (.int .i64 (.ofNat 3)), (.bool false), (.int .i64 (.ofNat 1)), (.string (bs [])), (.slice none 0 0), (.slice none 0 0), (.string (bs [109, 117, 116, 97, 116, 111, 114])), (.int .i64 (.ofNat 6)), (.bool false), (.int .i64 (.ofNat 0)), (.string (bs [])), (.slice none 0 0), (.slice (some ⟨4, 0, none⟩) 2 OPEN)], 128), ([(.string (bs [105, 100])), (.int .i64 (.ofNat 3)), (.bool false), (.int .i64 (.ofNat 2)), (.string (bs [])), (.slice none 0 0), (.slice none 0 0), (.string (bs [109, 117, 116, 97, 116, 111, 114])), (.int .i64 (.ofNat 6)), (.bool false), (.int .i64 (.ofNat 0)), (.string (bs [])), (.slice none 0 0), (.slice (some ⟨5, 0, none⟩) 2 OPEN)], 128), ([(.string (bs [105, 100])), (.int .i64 (.ofNat 3)), (.bool false), (.int .i64 (.ofNat 3)), (.string (bs [])), (.slice none 0 0), (.slice none 0 0), (.string (bs [109, 117, 116, 97, 116, 111, 114])), (.int .i64 (.ofNat 6)), (.bool false), (.int .i64 (.ofNat 0)), (.string (bs [])), (.slice none 0 0), (.slice (some ⟨6, 0, none⟩) 2 OPEN)], 128), ([(.string (bs [97, 114, 103, 115])), (.int .i64 (.ofNat 6)), (.bool false), (.int .i64 (.ofNat 0)), (.string (bs [])), (.slice none 0 0), (.slice (some ⟨7, 0, none⟩) 2 OPEN), (.string (bs [110, 97, 109, 101])), (.int .i64 (.ofNat 4)), (.bool false), (.int .i64 (.ofNat 0)), (.string (bs [112, 117, 116])), (.slice none 0 0), (.slice none 0 0)], 128), ([(.string (bs [97, 114, 103, 115])), (.int .i64 (.ofNat 6)), (.bool false), (.int .i64 (.ofNat 0)), (.string (bs [])), (.slice none 0 0), (.slice (some ⟨8, 0, none⟩) 2 OPEN), (.string (bs [110, 97, 109, 101])), (.int .i64 (.ofNat 4)), (.bool false), (.int .i64 (.ofNat 0)), (.string (bs [112, 117, 116])), (.slice none 0 0), (.slice none 0 0)], 128), ([(.string (bs [97, 114, 103, 115])), (.int .i64 (.ofNat 6)), (.bool false), (.int .i64 (.ofNat 0)), (.string (bs [])), (.slice none 0 0), (.slice (some ⟨9, 0, none⟩) 2 OPEN), (.string (bs [110, 97, 109, 101])), (.int .i64 (.ofNat 4)), (.bool false), (.int .i64 (.ofNat 0)), (.string (bs [112, 117, 116])), (.slice none 0 0), (.slice none 0 0)], 128), ([(.string (bs [107, 101, 121])), (.int .i64 (.ofNat 4)), (.bool false), (.int .i64 (.ofNat 0)), (.string (bs [97])), (.slice none 0 0), (.slice none 0 0), (.string (bs [118, 97, 108, 117, 101])), (.int .i64 (.ofNat 1)), (.bool false), (.int .i64 (.ofNat 0)), (.string (bs [])), (.slice none 0 0), (.slice none 0 0)], 128), ([(.string (bs [107, 101, 121])), (.int .i64 (.ofNat 4)), (.bool false), (.int .i64 (.ofNat 0)), (.string (bs [98])), (.slice none 0 0), (.slice none 0 0), (.string (bs [118, 97, 108, 117, 101])), (.int .i64 (.ofNat 1)), (.bool false), (.int .i64 (.ofNat 0)), (.string (bs [])), (.slice none 0 0), (.slice none 0 0)], 128), ([(.string (bs [107, 101, 121])), (.int .i64 (.ofNat 4)), (.bool false), (.int .i64 (.ofNat 0)), (.string (bs [99])), (.slice none 0 0), (.slice none 0 0), (.string (bs [118, 97, 108, 117, 101])), (.int .i64 (.ofNat 1)), (.bool false), (.int .i64 (.ofNat 0)), (.string (bs [])), (.slice none 0 0), (.slice none 0 0)], 128)]
  args := [(.agg ⟨[(.int .i64 (.ofNat 5)), (.bool false), (.int .i64 (.ofNat 0)), (.string (bs [])), (.slice (some ⟨0, 0, none⟩) 3 OPEN), (.slice none 0 0)]⟩)]
  v := (.string (bs [91, 123, 34, 105, 100, 34, 58, 49, 44, 34, 109, 117, 116, 97, 116, 111, 114, 34, 58, 123, 34, 97, 114, 103, 115, 34, 58, 123, 34, 107, 101, 121, 34, 58, 34, 97, 34, 44, 34, 118, 97, 108, 117, 101, 34, 58, 110, 117, 108, 108, 125, 44, 34, 110, 97, 109, 101, 34, 58, 34, 112, 117, 116, 34, 125, 125, 44, 123, 34, 105, 100, 34, 58, 50, 44, 34, 109, 117, 116, 97, 116, 111, 114, 34, 58, 123, 34, 97, 114, 103, 115, 34, 58, 123, 34, 107, 101, 121, 34, 58, 34, 98, 34, 44, 34, 118, 97, 108, 117, 101, 34, 58, 110, 117, 108, 108, 125, 44, 34, 110, 97, 109, 101, 34, 58, 34, 112, 117, 116, 34, 125, 125, 44, 123, 34, 105, 100, 34, 58, 51, 44, 34, 109, 117, 116, 97, 116, 111, 114, 34, 58, 123, 34, 97, 114, 103, 115, 34, 58, 123, 34, 107, 101, 121, 34, 58, 34, 99, 34, 44, 34, 118, 97, 108, 117, 101, 34, 58, 110, 117, 108, 108, 125, 44, 34, 110, 97, 109, 101, 34, 58, 34, 112, 117, 116, 34, 125, 125, 93]))
  xs := []
noncomputable def cons156 : BT Con := addTo cons155 58 m155
/-- commonplace/encode.text, 1071 steps -/
def m156 : Memo where
  pre := [([(.string (bs [99, 108, 105, 101, 110, 116])), (.int .i64 (.ofNat 3)), (.bool false), (.int .i64 (.ofNat 1)), (.string (bs [])), (.slice none 0 0), (.slice none 0 0), (.string (bs [108, 105, 115, 116])), (.int .i64 (.ofNat 5)), (.bool false), (.int .i64 (.ofNat 0)), (.string (bs [])), (.slice (some ⟨1, 0, none⟩) 3 OPEN), (.slice none 0 0)], 128), ([(.int .i64 (.ofNat 6)), (.bool false), (.int .i64 (.ofNat 0)), (.string (bs [])), (.slice none 0 0), (.slice (some ⟨2, 0, none⟩) 2 OPEN), (.int .i64 (.ofNat 6)), (.bool false), (.int .i64 (.ofNat 0)), (.string (bs [])), (.slice none 0 0), (.slice (some ⟨3, 0, none⟩) 2 OPEN), (.int .i64 (.ofNat 6)), (.bool false), (.int .i64 (.ofNat 0)), (.string (bs [])), (.slice none 0 0), (.slice (some ⟨4, 0, none⟩) 2 OPEN)], 29), ([(.string (bs [105, 100])), (.int .i64 (.ofNat 3)), (.bool false), (.int .i64 (.ofNat 1)), (.string (bs [])), (.slice none 0 0), (.slice none 0 0), (.string (bs [109, 117, 116, 97, 116, 111, 114])), (.int .i64 (.ofNat 6)), (.bool false), (.int .i64 (.ofNat 0)), (.string (bs [])), (.slice none 0 0), (.slice (some ⟨5, 0, none⟩) 2 OPEN)], 128), ([(.string (bs [105, 100])), (.int .i64 (.ofNat 3)), (.bool false), (.int .i64 (.ofNat 2)), (.string (bs [])), (.slice none 0 0), (.slice none 0 0), (.string (bs [109, 117, 116, 97, 116, 111, 114])), (.int .i64 (.ofNat 6)), (.bool false), (.int .i64 (.ofNat 0)), (.string (bs [])), (.slice none 0 0), (.slice (some ⟨6, 0, none⟩) 2 OPEN)], 128), ([(.string (bs [105, 100])), (.int .i64 (.ofNat 3)), (.bool false), (.int .i64 (.ofNat 3)), (.string (bs [])), (.slice none 0 0), (.slice none 0 0), (.string (bs [109, 117, 116, 97, 116, 111, 114])), (.int .i64 (.ofNat 6)), (.bool false), (.int .i64 (.ofNat 0)), (.string (bs [])), (.slice none 0 0), (.slice (some ⟨7, 0, none⟩) 2 OPEN)], 128), ([(.string (bs [97, 114, 103, 115])), (.int .i64 (.ofNat 6)), (.bool false), (.int .i64 (.ofNat 0)), (.string (bs [])), (.slice none 0 0), (.slice (some ⟨8, 0, none⟩) 2 OPEN), (.string (bs [110, 97, 109, 101])), (.int .i64 (.ofNat 4)), (.bool false), (.int .i64 (.ofNat 0)), (.string (bs [112, 117, 116])), (.slice none 0 0), (.slice none 0 0)], 128), ([(.string (bs [97, 114, 103, 115])), (.int .i64 (.ofNat 6)), (.bool false), (.int .i64 (.ofNat 0)), (.string (bs [])), (.slice none 0 0), (.slice (some ⟨9, 0, none⟩) 2 OPEN), (.string (bs [110, 97, 109, 101])), (.int .i64 (.ofNat 4)), (.bool false), (.int .i64 (.ofNat 0)), (.string (bs [112, 117, 116])), (.slice none 0 0), (.slice none 0 0)], 128), ([(.string (bs [97, 114, 103, 115])), (.int .i64 (.ofNat 6)), (.bool false), (.int .i64 (.ofNat 0)), (.string (bs [])), (.slice none 0 0), (.slice (some ⟨10, 0, none⟩) 2 OPEN), (.string (bs [110, 97, 109, 101])), (.int .i64 (.ofNat 4)), (.bool false), (.int .i64 (.ofNat 0)), (.string (bs [112, 117, 116])), (.slice none 0 0), (.slice none 0 0)], 128), ([(.string (bs [107, 101, 121])), (.int .i64 (.ofNat 4)), (.bool false), (.int .i64 (.ofNat 0)), (.string (bs [97])), (.slice none 0 0), (.slice none 0 0), (.string (bs [118, 97, 108, 117, 101])), (.int .i64 (.ofNat 1)), (.bool false), (.int .i64 (.ofNat 0)), (.string (bs [])), (.slice none 0 0), (.slice none 0 0)], 128), ([(.string (bs [107, 101, 121])), (.int .i64 (.ofNat 4)), (.bool false), (.int .i64 (.ofNat 0)), (.string (bs [98])), (.slice none 0 0), (.slice none 0 0), (.string (bs [118, 97, 108, 117, 101])), (.int .i64 (.ofNat 1)), (.bool false), (.int .i64 (.ofNat 0)), (.string (bs [])), (.slice none 0 0), (.slice none 0 0)], 128), ([(.string (bs [107, 101, 121])), (.int .i64 (.ofNat 4)), (.bool false), (.int .i64 (.ofNat 0)), (.string (bs [99])), (.slice none 0 0), (.slice none 0 0), (.string (bs [118, 97, 108, 117, 101])), (.int .i64 (.ofNat 1)), (.bool false), (.int .i64 (.ofNat 0)), (.string (bs [])), (.slice none 0 0), (.slice none 0 0)], 128)]
  args := [(.agg ⟨[(.int .i64 (.ofNat 6)), (.bool false), (.int .i64 (.ofNat 0)), (.string (bs [])), (.slice none 0 0), (.slice (some ⟨0, 0, none⟩) 2 OPEN)]⟩)]
  v := (.string (bs [123, 34, 99, 108, 105, 101, 110, 116, 34, 58, 49, 44, 34, 108, 105, 115, 116, 34, 58, 91, 123, 34, 105, 100, 34, 58, 49, 44, 34, 109, 117, 116, 97, 116, 111, 114, 34, 58, 123, 34, 97, 114, 103, 115, 34, 58, 123, 34, 107, 101, 121, 34, 58, 34, 97, 34, 44, 34, 118, 97, 108, 117, 101, 34, 58, 110, 117, 108, 108, 125, 44, 34, 110, 97, 109, 101, 34, 58, 34, 112, 117, 116, 34, 125, 125, 44, 123, 34, 105, 100, 34, 58, 50, 44, 34, 109, 117, 116, 97, 116, 111, 114, 34, 58, 123, 34, 97, 114, 103, 115, 34, 58, 123, 34, 107, 101, 121, 34, 58, 34, 98, 34, 44, 34, 118, 97, 108, 117, 101, 34, 58, 110, 117, 108, 108, 125, 44, 34, 110, 97, 109, 101, 34, 58, 34, 112, 117, 116, 34, 125, 125, 44, 123, 34, 105, 100, 34, 58, 51, 44, 34, 109, 117, 116, 97, 116, 111, 114, 34, 58, 123, 34, 97, 114, 103, 115, 34, 58, 123, 34, 107, 101, 121, 34, 58, 34, 99, 34, 44, 34, 118, 97, 108, 117, 101, 34, 58, 110, 117, 108, 108, 125, 44, 34, 110, 97, 109, 101, 34, 58, 34, 112, 117, 116, 34, 125, 125, 93, 125]))
  xs := []
noncomputable def cons157 : BT Con := addTo cons156 58 m156
/-- commonplace/encode.Text, 30 steps -/
def m157 : Memo where
  pre := [([(.string (bs [99, 108, 105, 101, 110, 116])), (.int .i64 (.ofNat 3)), (.bool false), (.int .i64 (.ofNat 1)), (.string (bs [])), (.slice none 0 0), (.slice none 0 0), (.string (bs [108, 105, 115, 116])), (.int .i64 (.ofNat 5)), (.bool false), (.int .i64 (.ofNat 0)), (.string (bs [])), (.slice (some ⟨1, 0, none⟩) 3 OPEN), (.slice none 0 0)], 128), ([(.int .i64 (.ofNat 6)), (.bool false), (.int .i64 (.ofNat 0)), (.string (bs [])), (.slice none 0 0), (.slice (some ⟨2, 0, none⟩) 2 OPEN), (.int .i64 (.ofNat 6)), (.bool false), (.int .i64 (.ofNat 0)), (.string (bs [])), (.slice none 0 0), (.slice (some ⟨3, 0, none⟩) 2 OPEN), (.int .i64 (.ofNat 6)), (.bool false), (.int .i64 (.ofNat 0)), (.string (bs [])), (.slice none 0 0), (.slice (some ⟨4, 0, none⟩) 2 OPEN)], 29), ([(.string (bs [105, 100])), (.int .i64 (.ofNat 3)), (.bool false), (.int .i64 (.ofNat 1)), (.string (bs [])), (.slice none 0 0), (.slice none 0 0), (.string (bs [109, 117, 116, 97, 116, 111, 114])), (.int .i64 (.ofNat 6)), (.bool false), (.int .i64 (.ofNat 0)), (.string (bs [])), (.slice none 0 0), (.slice (some ⟨5, 0, none⟩) 2 OPEN)], 128), ([(.string (bs [105, 100])), (.int .i64 (.ofNat 3)), (.bool false), (.int .i64 (.ofNat 2)), (.string (bs [])), (.slice none 0 0), (.slice none 0 0), (.string (bs [109, 117, 116, 97, 116, 111, 114])), (.int .i64 (.ofNat 6)), (.bool false), (.int .i64 (.ofNat 0)), (.string (bs [])), (.slice none 0 0), (.slice (some ⟨6, 0, none⟩) 2 OPEN)], 128), ([(.string (bs [105, 100])), (.int .i64 (.ofNat 3)), (.bool false), (.int .i64 (.ofNat 3)), (.string (bs [])), (.slice none 0 0), (.slice none 0 0), (.string (bs [109, 117, 116, 97, 116, 111, 114])), (.int .i64 (.ofNat 6)), (.bool false), (.int .i64 (.ofNat 0)), (.string (bs [])), (.slice none 0 0), (.slice (some ⟨7, 0, none⟩) 2 OPEN)], 128), ([(.string (bs [97, 114, 103, 115])), (.int .i64 (.ofNat 6)), (.bool false), (.int .i64 (.ofNat 0)), (.string (bs [])), (.slice none 0 0), (.slice (some ⟨8, 0, none⟩) 2 OPEN), (.string (bs [110, 97, 109, 101])), (.int .i64 (.ofNat 4)), (.bool false), (.int .i64 (.ofNat 0)), (.string (bs [112, 117, 116])), (.slice none 0 0), (.slice none 0 0)], 128), ([(.string (bs [97, 114, 103, 115])), (.int .i64 (.ofNat 6)), (.bool false), (.int .i64 (.ofNat 0)), (.string (bs [])), (.slice none 0 0), (.slice (some ⟨9, 0, none⟩) 2 OPEN), (.string (bs [110, 97, 109, 101])), (.int .i64 (.ofNat 4)), (.bool false), (.int .i64 (.ofNat 0)), (.string (bs [112, 117, 116])), (.slice none 0 0), (.slice none 0 0)], 128), ([(.string (bs [97, 114, 103, 115])), (.int .i64 (.ofNat 6)), (.bool false), (.int .i64 (.ofNat 0)), (.string (bs [])), (.slice none 0 0), (.slice (some ⟨10, 0, none⟩) 2 OPEN), (.string (bs [110, 97, 109, 101])), (.int .i64 (.ofNat 4)), (.bool false), (.int .i64 (.ofNat 0)), (.string (bs [112, 117, 116])), (.slice none 0 0), (.slice none 0 0)], 128), ([(.string (bs [107, 101, 121])), (.int .i64 (.ofNat 4)), (.bool false), (.int .i64 (.ofNat 0)), (.string (bs [97])), (.slice none 0 0), (.slice none 0 0), (.string (bs [118, 97, 108, 117, 101])), (.int .i64 (.ofNat 1)), (.bool false), (.int .i64 (.ofNat 0)), (.string (bs [])), (.slice none 0 0), (.slice none 0 0)], 128), ([(.string (bs [107, 101, 121])), (.int .i64 (.ofNat 4)), (.bool false), (.int .i64 (.ofNat 0)), (.string (bs [98])), (.slice none 0 0), (.slice none 0 0), (.string (bs [118, 97, 108, 117, 101])), (.int .i64 (.ofNat 1)), (.bool false), (.int .i64 (.ofNat 0)), (.string (bs [])), (.slice none 0 0), (.slice none 0 0)], 128), ([(.string (bs [107, 101, 121])), (.int .i64 (.ofNat 4)), (.bool false), (.int .i64 (.ofNat 0)), (.string (bs [99])), (.slice none 0 0), (.slice none 0 0), (.string (bs [118, 97, 108, 117, 101])), (.int .i64 (.ofNat 1)), (.bool false), (.int .i64 (.ofNat 0)), (.string (bs [])), (.slice none 0 0), (.slice none 0 0)], 128)]
  args := [(.agg ⟨[(.int .i64 (.ofNat 6)), (.bool false), (.int .i64 (.ofNat 0)), (.string (bs [])), (.slice none 0 0), (.slice (some ⟨0, 0, none⟩) 2 OPEN)]⟩)]
  v := (.tuple ⟨[(.string (bs [123, 34, 99, 108, 105, 101, 110, 116, 34, 58, 49, 44, 34, 108, 105, 115, 116, 34, 58, 91, 123, 34, 105, 100, 34, 58, 49, 44, 34, 109, 117, 116, 97, 116, 111, 114, 34, 58, 123, 34, 97, 114, 103, 115, 34, 58, 123, 34, 107, 101, 121, 34, 58, 34, 97, 34, 44, 34, 118, 97, 108, 117, 101, 34, 58, 110, 117, 108, 108, 125, 44, 34, 110, 97, 109, 101, 34, 58, 34, 112, 117, 116, 34, 125, 125, 44, 123, 34, 105, 100, 34, 58, 50, 44, 34, 109, 117, 116, 97, 116, 111, 114, 34, 58, 123, 34, 97, 114, 103, 115, 34, 58, 123, 34, 107, 101, 121, 34, 58, 34, 98, 34, 44, 34, 118, 97, 108, 117, 101, 34, 58, 110, 117, 108, 108, 125, 44, 34, 110, 97, 109, 101, 34, 58, 34, 112, 117, 116, 34, 125, 125, 44, 123, 34, 105, 100, 34, 58, 51, 44, 34, 109, 117, 116, 97, 116, 111, 114, 34, 58, 123, 34, 97, 114, 103, 115, 34, 58, 123, 34, 107, 101, 121, 34, 58, 34, 99, 34, 44, 34, 118, 97, 108, 117, 101, 34, 58, 110, 117, 108, 108, 125, 44, 34, 110, 97, 109, 101, 34, 58, 34, 112, 117, 116, 34, 125, 125, 93, 125])), (.int .i64 (.ofNat 0))]⟩)
  xs := []
noncomputable def cons158 : BT Con := addTo cons157 24 m157
/-- commonplace/parse.Exact, 58 steps -/
def m158 : Memo where
  pre := []
  args := [(.string (bs [123, 34, 99, 108, 105, 101, 110, 116, 34, 58, 49, 44, 34, 108, 105, 115, 116, 34, 58, 91, 123, 34, 105, 100, 34, 58, 49, 44, 34, 109, 117, 116, 97, 116, 111, 114, 34, 58, 123, 34, 97, 114, 103, 115, 34, 58, 123, 34, 107, 101, 121, 34, 58, 34, 97, 34, 44, 34, 118, 97, 108, 117, 101, 34, 58, 110, 117, 108, 108, 125, 44, 34, 110, 97, 109, 101, 34, 58, 34, 112, 117, 116, 34, 125, 125, 44, 123, 34, 105, 100, 34, 58, 50, 44, 34, 109, 117, 116, 97, 116, 111, 114, 34, 58, 123, 34, 97, 114, 103, 115, 34, 58, 123, 34, 107, 101, 121, 34, 58, 34, 98, 34, 44, 34, 118, 97, 108, 117, 101, 34, 58, 110, 117, 108, 108, 125, 44, 34, 110, 97, 109, 101, 34, 58, 34, 112, 117, 116, 34, 125, 125, 44, 123, 34, 105, 100, 34, 58, 51, 44, 34, 109, 117, 116, 97, 116, 111, 114, 34, 58, 123, 34, 97, 114, 103, 115, 34, 58, 123, 34, 107, 101, 121, 34, 58, 34, 99, 34, 44, 34, 118, 97, 108, 117, 101, 34, 58, 110, 117, 108, 108, 125, 44, 34, 110, 97, 109, 101, 34, 58, 34, 112, 117, 116, 34, 125, 125, 93, 125]))]
  v := (.tuple ⟨[(.agg ⟨[(.int .i64 (.ofNat 6)), (.bool false), (.int .i64 (.ofNat 0)), (.string (bs [])), (.slice none 0 0), (.slice (some ⟨0, 0, none⟩) 2 OPEN)]⟩), (.int .i64 (.ofNat 0))]⟩)
  xs := [.cells [(.string (bs [99, 108, 105, 101, 110, 116])), (.int .i64 (.ofNat 3)), (.bool false), (.int .i64 (.ofNat 1)), (.string (bs [])), (.slice none 0 0), (.slice none 0 0), (.string (bs [108, 105, 115, 116])), (.int .i64 (.ofNat 5)), (.bool false), (.int .i64 (.ofNat 0)), (.string (bs [])), (.slice (some ⟨1, 0, none⟩) 3 OPEN), (.slice none 0 0)] 128 1, .cells [(.int .i64 (.ofNat 6)), (.bool false), (.int .i64 (.ofNat 0)), (.string (bs [])), (.slice none 0 0), (.slice (some ⟨2, 0, none⟩) 2 OPEN), (.int .i64 (.ofNat 6)), (.bool false), (.int .i64 (.ofNat 0)), (.string (bs [])), (.slice none 0 0), (.slice (some ⟨3, 0, none⟩) 2 OPEN), (.int .i64 (.ofNat 6)), (.bool false), (.int .i64 (.ofNat 0)), (.string (bs [])), (.slice none 0 0), (.slice (some ⟨4, 0, none⟩) 2 OPEN)] 29 1, .cells [(.string (bs [105, 100])), (.int .i64 (.ofNat 3)), (.bool false), (.int .i64 (.ofNat 1)), (.string (bs [])), (.slice none 0 0), (.slice none 0 0), (.string (bs [109, 117, 116, 97, 116, 111, 114])), (.int .i64 (.ofNat 6)), (.bool false), (.int .i64 (.ofNat 0)), (.string (bs [])), (.slice none 0 0), (.slice (some ⟨5, 0, none⟩) 2 OPEN)] 128 1, .cells [(.string (bs [105, 100])), (.int .i64 (.ofNat 3)), (.bool false), (.int .i64 (.ofNat 2)), (.string (bs [])), (.slice none 0 0), (.slice none 0 0), (.string (bs [109, 117, 116, 97, 116, 111, 114])), (.int .i64 (.ofNat 6)), (.bool false), (.int .i64 (.ofNat 0)), (.string (bs [])), (.slice none 0 0), (.slice (some ⟨6, 0, none⟩) 2 OPEN)] 128 1, .cells [(.string (bs [105, 100])), (.int .i64 (.ofNat 3)), (.bool false), (.int .i64 (.ofNat 3)), (.string (bs [])), (.slice none 0 0), (.slice none 0 0), (.string (bs [109, 117, 116, 97, 116, 111, 114])), (.int .i64 (.ofNat 6)), (.bool false), (.int .i64 (.ofNat 0)), (.string (bs [])), (.slice none 0 0), (.slice (some ⟨7, 0, none⟩) 2 OPEN)] 128 1, .cells [(.string (bs [97, 114, 103, 115])), (.int .i64 (.ofNat 6)), (.bool false), (.int .i64 (.ofNat 0)), (.string (bs [])), (.slice none 0 0), (.slice (some ⟨8, 0, none⟩) 2 OPEN), (.string (bs [110, 97, 109, 101])), (.int .i64 (.ofNat 4)), (.bool false), (.int .i64 (.ofNat 0)), (.string (bs [112, 117, 116])), (.slice none 0 0), (.slice none 0 0)] 128 1, .cells [(.string (bs [97, 114, 103, 115])), (.int .i64 (.ofNat 6)), (.bool false), (.int .i64 (.ofNat 0)), (.string (bs [])), (.slice none 0 0), (.slice (some ⟨9, 0, none⟩) 2 OPEN), (.string (bs [110, 97, 109, 101])), (.int .i64 (.ofNat 4)), (.bool false), (.int .i64 (.ofNat 0)), (.string (bs [112, 117, 116])), (.slice none 0 0), (.slice none 0 0)] 128 1, .cells [(.string (bs [97, 114, 103, 115])), (.int .i64 (.ofNat 6)), (.bool false), (.int .i64 (.ofNat 0)), (.string (bs [])), (.slice none 0 0), (.slice (some ⟨10, 0, none⟩) 2 OPEN), (.string (bs [110, 97, 109, 101])), (.int .i64 (.ofNat 4)), (.bool false), (.int .i64 (.ofNat 0)), (.string (bs [112, 117, 116])), (.slice none 0 0), (.slice none 0 0)] 128 1, .cells [(.string (bs [107, 101, 121])), (.int .i64 (.ofNat 4)), (.bool false), (.int .i64 (.ofNat 0)), (.string (bs [97])), (.slice none 0 0), (.slice none 0 0), (.string (bs [118, 97, 108, 117, 101])), (.int .i64 (.ofNat 1)), (.bool false), (.int .i64 (.ofNat 0)), (.string (bs [])), (.slice none 0 0), (.slice none 0 0)] 128 1, .cells [(.string (bs [107, 101, 121])), (.int .i64 (.ofNat 4)), (.bool false), (.int .i64 (.ofNat 0)), (.string (bs [98])), (.slice none 0 0), (.slice none 0 0), (.string (bs [118, 97, 108, 117, 101])), (.int .i64 (.ofNat 1)), (.bool false), (.int .i64 (.ofNat 0)), (.string (bs [])), (.slice none 0 0), (.slice none 0 0)] 128 1, .cells [(.string (bs [107, 101, 121])), (.int .i64 (.ofNat 4)), (.bool false), (.int .i64 (.ofNat 0)), (.string (bs [99])), (.slice none 0 0), (.slice none 0 0), (.string (bs [118, 97, 108, 117, 101])), (.int .i64 (.ofNat 1)), (.bool false), (.int .i64 (.ofNat 0)), (.string (bs [])), (.slice none 0 0), (.slice none 0 0)] 128 1]
noncomputable def cons159 : BT Con := addTo cons158 63 m158
/-- commonplace/value.May, 1034 steps -/
def m159 : Memo where
  pre := [([(.string (bs [97, 114, 103, 115])), (.int .i64 (.ofNat 6)), (.bool false), (.int .i64 (.ofNat 0)), (.string (bs [])), (.slice none 0 0), (.slice (some ⟨1, 0, none⟩) 2 OPEN), (.string (bs [110, 97, 109, 101])), (.int .i64 (.ofNat 4)), (.bool false), (.int .i64 (.ofNat 0)), (.string (bs [112, 117, 116])), (.slice none 0 0), (.slice none 0 0)], 128), ([(.string (bs [107, 101, 121])), (.int .i64 (.ofNat 4)), (.bool false), (.int .i64 (.ofNat 0)), (.string (bs [97])), (.slice none 0 0), (.slice none 0 0), (.string (bs [118, 97, 108, 117, 101])), (.int .i64 (.ofNat 1)), (.bool false), (.int .i64 (.ofNat 0)), (.string (bs [])), (.slice none 0 0), (.slice none 0 0)], 128)]
  args := [(.agg ⟨[(.int .i64 (.ofNat 6)), (.bool false), (.int .i64 (.ofNat 0)), (.string (bs [])), (.slice none 0 0), (.slice (some ⟨0, 0, none⟩) 2 OPEN)]⟩)]
  v := (.int .i64 (.ofNat 0))
  xs := []
noncomputable def cons160 : BT Con := addTo cons159 57 m159
/-- commonplace/mutator.Of, 1384 steps -/
def m160 : Memo where
  pre := [([(.string (bs [97, 114, 103, 115])), (.int .i64 (.ofNat 6)), (.bool false), (.int .i64 (.ofNat 0)), (.string (bs [])), (.slice none 0 0), (.slice (some ⟨1, 0, none⟩) 2 OPEN), (.string (bs [110, 97, 109, 101])), (.int .i64 (.ofNat 4)), (.bool false), (.int .i64 (.ofNat 0)), (.string (bs [112, 117, 116])), (.slice none 0 0), (.slice none 0 0)], 128), ([(.string (bs [107, 101, 121])), (.int .i64 (.ofNat 4)), (.bool false), (.int .i64 (.ofNat 0)), (.string (bs [97])), (.slice none 0 0), (.slice none 0 0), (.string (bs [118, 97, 108, 117, 101])), (.int .i64 (.ofNat 1)), (.bool false), (.int .i64 (.ofNat 0)), (.string (bs [])), (.slice none 0 0), (.slice none 0 0)], 128)]
  args := [(.agg ⟨[(.int .i64 (.ofNat 6)), (.bool false), (.int .i64 (.ofNat 0)), (.string (bs [])), (.slice none 0 0), (.slice (some ⟨0, 0, none⟩) 2 OPEN)]⟩)]
  v := (.tuple ⟨[(.agg ⟨[(.int .i64 (.ofNat 1)), (.string (bs [97])), (.string (bs [])), (.int .i64 (.ofNat 0)), (.bool false), (.int .i64 (.ofNat 0)), (.bool false), (.int .i64 (.ofNat 0)), (.string (bs [])), (.slice none 0 0), (.slice none 0 0), (.bool false), (.int .i64 (.ofNat 1)), (.bool false), (.int .i64 (.ofNat 0)), (.string (bs [])), (.slice none 0 0), (.slice none 0 0), (.slice none 0 0)]⟩), (.int .i64 (.ofNat 0))]⟩)
  xs := []
noncomputable def cons161 : BT Con := addTo cons160 110 m160
/-- commonplace/value.May, 1034 steps -/
def m161 : Memo where
  pre := [([(.string (bs [97, 114, 103, 115])), (.int .i64 (.ofNat 6)), (.bool false), (.int .i64 (.ofNat 0)), (.string (bs [])), (.slice none 0 0), (.slice (some ⟨1, 0, none⟩) 2 OPEN), (.string (bs [110, 97, 109, 101])), (.int .i64 (.ofNat 4)), (.bool false), (.int .i64 (.ofNat 0)), (.string (bs [112, 117, 116])), (.slice none 0 0), (.slice none 0 0)], 128), ([(.string (bs [107, 101, 121])), (.int .i64 (.ofNat 4)), (.bool false), (.int .i64 (.ofNat 0)), (.string (bs [98])), (.slice none 0 0), (.slice none 0 0), (.string (bs [118, 97, 108, 117, 101])), (.int .i64 (.ofNat 1)), (.bool false), (.int .i64 (.ofNat 0)), (.string (bs [])), (.slice none 0 0), (.slice none 0 0)], 128)]
  args := [(.agg ⟨[(.int .i64 (.ofNat 6)), (.bool false), (.int .i64 (.ofNat 0)), (.string (bs [])), (.slice none 0 0), (.slice (some ⟨0, 0, none⟩) 2 OPEN)]⟩)]
  v := (.int .i64 (.ofNat 0))
  xs := []
noncomputable def cons162 : BT Con := addTo cons161 57 m161
/-- commonplace/mutator.Of, 1384 steps -/
def m162 : Memo where
  pre := [([(.string (bs [97, 114, 103, 115])), (.int .i64 (.ofNat 6)), (.bool false), (.int .i64 (.ofNat 0)), (.string (bs [])), (.slice none 0 0), (.slice (some ⟨1, 0, none⟩) 2 OPEN), (.string (bs [110, 97, 109, 101])), (.int .i64 (.ofNat 4)), (.bool false), (.int .i64 (.ofNat 0)), (.string (bs [112, 117, 116])), (.slice none 0 0), (.slice none 0 0)], 128), ([(.string (bs [107, 101, 121])), (.int .i64 (.ofNat 4)), (.bool false), (.int .i64 (.ofNat 0)), (.string (bs [98])), (.slice none 0 0), (.slice none 0 0), (.string (bs [118, 97, 108, 117, 101])), (.int .i64 (.ofNat 1)), (.bool false), (.int .i64 (.ofNat 0)), (.string (bs [])), (.slice none 0 0), (.slice none 0 0)], 128)]
  args := [(.agg ⟨[(.int .i64 (.ofNat 6)), (.bool false), (.int .i64 (.ofNat 0)), (.string (bs [])), (.slice none 0 0), (.slice (some ⟨0, 0, none⟩) 2 OPEN)]⟩)]
  v := (.tuple ⟨[(.agg ⟨[(.int .i64 (.ofNat 1)), (.string (bs [98])), (.string (bs [])), (.int .i64 (.ofNat 0)), (.bool false), (.int .i64 (.ofNat 0)), (.bool false), (.int .i64 (.ofNat 0)), (.string (bs [])), (.slice none 0 0), (.slice none 0 0), (.bool false), (.int .i64 (.ofNat 1)), (.bool false), (.int .i64 (.ofNat 0)), (.string (bs [])), (.slice none 0 0), (.slice none 0 0), (.slice none 0 0)]⟩), (.int .i64 (.ofNat 0))]⟩)
  xs := []
noncomputable def cons163 : BT Con := addTo cons162 110 m162
/-- commonplace/value.May, 1034 steps -/
def m163 : Memo where
  pre := [([(.string (bs [97, 114, 103, 115])), (.int .i64 (.ofNat 6)), (.bool false), (.int .i64 (.ofNat 0)), (.string (bs [])), (.slice none 0 0), (.slice (some ⟨1, 0, none⟩) 2 OPEN), (.string (bs [110, 97, 109, 101])), (.int .i64 (.ofNat 4)), (.bool false), (.int .i64 (.ofNat 0)), (.string (bs [112, 117, 116])), (.slice none 0 0), (.slice none 0 0)], 128), ([(.string (bs [107, 101, 121])), (.int .i64 (.ofNat 4)), (.bool false), (.int .i64 (.ofNat 0)), (.string (bs [99])), (.slice none 0 0), (.slice none 0 0), (.string (bs [118, 97, 108, 117, 101])), (.int .i64 (.ofNat 1)), (.bool false), (.int .i64 (.ofNat 0)), (.string (bs [])), (.slice none 0 0), (.slice none 0 0)], 128)]
  args := [(.agg ⟨[(.int .i64 (.ofNat 6)), (.bool false), (.int .i64 (.ofNat 0)), (.string (bs [])), (.slice none 0 0), (.slice (some ⟨0, 0, none⟩) 2 OPEN)]⟩)]
  v := (.int .i64 (.ofNat 0))
  xs := []
noncomputable def cons164 : BT Con := addTo cons163 57 m163
/-- commonplace/mutator.Of, 1384 steps -/
def m164 : Memo where
  pre := [([(.string (bs [97, 114, 103, 115])), (.int .i64 (.ofNat 6)), (.bool false), (.int .i64 (.ofNat 0)), (.string (bs [])), (.slice none 0 0), (.slice (some ⟨1, 0, none⟩) 2 OPEN), (.string (bs [110, 97, 109, 101])), (.int .i64 (.ofNat 4)), (.bool false), (.int .i64 (.ofNat 0)), (.string (bs [112, 117, 116])), (.slice none 0 0), (.slice none 0 0)], 128), ([(.string (bs [107, 101, 121])), (.int .i64 (.ofNat 4)), (.bool false), (.int .i64 (.ofNat 0)), (.string (bs [99])), (.slice none 0 0), (.slice none 0 0), (.string (bs [118, 97, 108, 117, 101])), (.int .i64 (.ofNat 1)), (.bool false), (.int .i64 (.ofNat 0)), (.string (bs [])), (.slice none 0 0), (.slice none 0 0)], 128)]
  args := [(.agg ⟨[(.int .i64 (.ofNat 6)), (.bool false), (.int .i64 (.ofNat 0)), (.string (bs [])), (.slice none 0 0), (.slice (some ⟨0, 0, none⟩) 2 OPEN)]⟩)]
  v := (.tuple ⟨[(.agg ⟨[(.int .i64 (.ofNat 1)), (.string (bs [99])), (.string (bs [])), (.int .i64 (.ofNat 0)), (.bool false), (.int .i64 (.ofNat 0)), (.bool false), (.int .i64 (.ofNat 0)), (.string (bs [])), (.slice none 0 0), (.slice none 0 0), (.bool false), (.int .i64 (.ofNat 1)), (.bool false), (.int .i64 (.ofNat 0)), (.string (bs [])), (.slice none 0 0), (.slice none 0 0), (.slice none 0 0)]⟩), (.int .i64 (.ofNat 0))]⟩)
  xs := []
noncomputable def cons165 : BT Con := addTo cons164 110 m164
/-- commonplace/push.Decode, 2234 steps -/
def m165 : Memo where
  pre := [((bytes8 [1, 123, 34, 99, 108, 105, 101, 110, 116, 34, 58, 49, 44, 34, 108, 105, 115, 116, 34, 58, 91, 123, 34, 105, 100, 34, 58, 49, 44, 34, 109, 117, 116, 97, 116, 111, 114, 34, 58, 123, 34, 97, 114, 103, 115, 34, 58, 123, 34, 107, 101, 121, 34, 58, 34, 97, 34, 44, 34, 118, 97, 108, 117, 101, 34, 58, 110, 117, 108, 108, 125, 44, 34, 110, 97, 109, 101, 34, 58, 34, 112, 117, 116, 34, 125, 125, 44, 123, 34, 105, 100, 34, 58, 50, 44, 34, 109, 117, 116, 97, 116, 111, 114, 34, 58, 123, 34, 97, 114, 103, 115, 34, 58, 123, 34, 107, 101, 121, 34, 58, 34, 98, 34, 44, 34, 118, 97, 108, 117, 101, 34, 58, 110, 117, 108, 108, 125, 44, 34, 110, 97, 109, 101, 34, 58, 34, 112, 117, 116, 34, 125, 125, 44, 123, 34, 105, 100, 34, 58, 51, 44, 34, 109, 117, 116, 97, 116, 111, 114, 34, 58, 123, 34, 97, 114, 103, 115, 34, 58, 123, 34, 107, 101, 121, 34, 58, 34, 99, 34, 44, 34, 118, 97, 108, 117, 101, 34, 58, 110, 117, 108, 108, 125, 44, 34, 110, 97, 109, 101, 34, 58, 34, 112, 117, 116, 34, 125, 125, 93, 125, 219, 217, 234, 103]), 5)]
  args := [(.slice (some ⟨0, 0, none⟩) 224 OPEN)]
  v := (.tuple ⟨[(.agg ⟨[(.int .u64 (.ofNat 1)), (.slice (some ⟨1, 0, none⟩) 3 OPEN)]⟩), (.int .i64 (.ofNat 0))]⟩)
  xs := [.cells [(.int .u64 (.ofNat 1)), (.int .i64 (.ofNat 1)), (.string (bs [97])), (.string (bs [])), (.int .i64 (.ofNat 0)), (.bool false), (.int .i64 (.ofNat 0)), (.bool false), (.int .i64 (.ofNat 0)), (.string (bs [])), (.slice none 0 0), (.slice none 0 0), (.bool false), (.int .i64 (.ofNat 1)), (.bool false), (.int .i64 (.ofNat 0)), (.string (bs [])), (.slice none 0 0), (.slice none 0 0), (.slice none 0 0), (.int .u64 (.ofNat 2)), (.int .i64 (.ofNat 1)), (.string (bs [98])), (.string (bs [])), (.int .i64 (.ofNat 0)), (.bool false), (.int .i64 (.ofNat 0)), (.bool false), (.int .i64 (.ofNat 0)), (.string (bs [])), (.slice none 0 0), (.slice none 0 0), (.bool false), (.int .i64 (.ofNat 1)), (.bool false), (.int .i64 (.ofNat 0)), (.string (bs [])), (.slice none 0 0), (.slice none 0 0), (.slice none 0 0), (.int .u64 (.ofNat 3)), (.int .i64 (.ofNat 1)), (.string (bs [99])), (.string (bs [])), (.int .i64 (.ofNat 0)), (.bool false), (.int .i64 (.ofNat 0)), (.bool false), (.int .i64 (.ofNat 0)), (.string (bs [])), (.slice none 0 0), (.slice none 0 0), (.bool false), (.int .i64 (.ofNat 1)), (.bool false), (.int .i64 (.ofNat 0)), (.string (bs [])), (.slice none 0 0), (.slice none 0 0), (.slice none 0 0)] 35 1]
noncomputable def cons166 : BT Con := addTo cons165 31 m165
/-- commonplace/interp.Run, 1563 steps -/
def m166 : Memo where
  pre := []
  args := [(.agg ⟨[(.pointer none)]⟩), (.agg ⟨[(.int .i64 (.ofNat 1)), (.string (bs [97])), (.string (bs [])), (.int .i64 (.ofNat 0)), (.bool false), (.int .i64 (.ofNat 0)), (.bool false), (.int .i64 (.ofNat 0)), (.string (bs [])), (.slice none 0 0), (.slice none 0 0), (.bool false), (.int .i64 (.ofNat 1)), (.bool false), (.int .i64 (.ofNat 0)), (.string (bs [])), (.slice none 0 0), (.slice none 0 0), (.slice none 0 0)]⟩)]
  v := (.tuple ⟨[(.agg ⟨[(.pointer (some ⟨0, 0, none⟩))]⟩), (.int .i64 (.ofNat 0))]⟩)
  xs := [.cells [(.slice (some ⟨1, 0, none⟩) 1 OPEN), (.slice none 0 0), (.int .i64 (.ofNat 1)), (.int .i64 (.ofNat 0))] 160 0, .cells [(.string (bs [97])), (.int .i64 (.ofNat 1)), (.bool false), (.int .i64 (.ofNat 0)), (.string (bs [])), (.slice none 0 0), (.slice none 0 0)] 344 1]
noncomputable def cons167 : BT Con := addTo cons166 69 m166
/-- commonplace/value.Copy, 98 steps -/
def m167 : Memo where
  pre := []
  args := [(.agg ⟨[(.int .i64 (.ofNat 0)), (.bool false), (.int .i64 (.ofNat 0)), (.string (bs [])), (.slice none 0 0), (.slice none 0 0)]⟩)]
  v := (.agg ⟨[(.int .i64 (.ofNat 0)), (.bool false), (.int .i64 (.ofNat 0)), (.string (bs [])), (.slice none 0 0), (.slice none 0 0)]⟩)
  xs := []
noncomputable def cons168 : BT Con := addTo cons167 74 m167
/-- commonplace/mutator.Copy, 71 steps -/
def m168 : Memo where
  pre := []
  args := [(.agg ⟨[(.int .i64 (.ofNat 1)), (.string (bs [97])), (.string (bs [])), (.int .i64 (.ofNat 0)), (.bool false), (.int .i64 (.ofNat 0)), (.bool false), (.int .i64 (.ofNat 0)), (.string (bs [])), (.slice none 0 0), (.slice none 0 0), (.bool false), (.int .i64 (.ofNat 1)), (.bool false), (.int .i64 (.ofNat 0)), (.string (bs [])), (.slice none 0 0), (.slice none 0 0), (.slice none 0 0)]⟩)]
  v := (.agg ⟨[(.int .i64 (.ofNat 1)), (.string (bs [97])), (.string (bs [])), (.int .i64 (.ofNat 0)), (.bool false), (.int .i64 (.ofNat 0)), (.bool false), (.int .i64 (.ofNat 0)), (.string (bs [])), (.slice none 0 0), (.slice none 0 0), (.bool false), (.int .i64 (.ofNat 1)), (.bool false), (.int .i64 (.ofNat 0)), (.string (bs [])), (.slice none 0 0), (.slice none 0 0), (.slice none 0 0)]⟩)
  xs := []
noncomputable def cons169 : BT Con := addTo cons168 40 m168
/-- commonplace/interp.Run, 1934 steps -/
def m169 : Memo where
  pre := [([(.slice (some ⟨1, 0, none⟩) 1 OPEN), (.slice none 0 0), (.int .i64 (.ofNat 1)), (.int .i64 (.ofNat 0))], 160), ([(.string (bs [97])), (.int .i64 (.ofNat 1)), (.bool false), (.int .i64 (.ofNat 0)), (.string (bs [])), (.slice none 0 0), (.slice none 0 0)], 344)]
  args := [(.agg ⟨[(.pointer (some ⟨0, 0, none⟩))]⟩), (.agg ⟨[(.int .i64 (.ofNat 1)), (.string (bs [98])), (.string (bs [])), (.int .i64 (.ofNat 0)), (.bool false), (.int .i64 (.ofNat 0)), (.bool false), (.int .i64 (.ofNat 0)), (.string (bs [])), (.slice none 0 0), (.slice none 0 0), (.bool false), (.int .i64 (.ofNat 1)), (.bool false), (.int .i64 (.ofNat 0)), (.string (bs [])), (.slice none 0 0), (.slice none 0 0), (.slice none 0 0)]⟩)]
  v := (.tuple ⟨[(.agg ⟨[(.pointer (some ⟨2, 0, none⟩))]⟩), (.int .i64 (.ofNat 0))]⟩)
  xs := [.cells [(.slice (some ⟨3, 0, none⟩) 2 OPEN), (.slice none 0 0), (.int .i64 (.ofNat 2)), (.int .i64 (.ofNat 0))] 160 0, .cells [(.string (bs [97])), (.int .i64 (.ofNat 1)), (.bool false), (.int .i64 (.ofNat 0)), (.string (bs [])), (.slice none 0 0), (.slice none 0 0), (.string (bs [98])), (.int .i64 (.ofNat 1)), (.bool false), (.int .i64 (.ofNat 0)), (.string (bs [])), (.slice none 0 0), (.slice none 0 0)] 344 1]
noncomputable def cons170 : BT Con := addTo cons169 69 m169
/-- commonplace/mutator.Copy, 71 steps -/
def m170 : Memo where
  pre := []
  args := [(.agg ⟨[(.int .i64 (.ofNat 1)), (.string (bs [98])), (.string (bs [])), (.int .i64 (.ofNat 0)), (.bool false), (.int .i64 (.ofNat 0)), (.bool false), (.int .i64 (.ofNat 0)), (.string (bs [])), (.slice none 0 0), (.slice none 0 0), (.bool false), (.int .i64 (.ofNat 1)), (.bool false), (.int .i64 (.ofNat 0)), (.string (bs [])), (.slice none 0 0), (.slice none 0 0), (.slice none 0 0)]⟩)]
  v := (.agg ⟨[(.int .i64 (.ofNat 1)), (.string (bs [98])), (.string (bs [])), (.int .i64 (.ofNat 0)), (.bool false), (.int .i64 (.ofNat 0)), (.bool false), (.int .i64 (.ofNat 0)), (.string (bs [])), (.slice none 0 0), (.slice none 0 0), (.bool false), (.int .i64 (.ofNat 1)), (.bool false), (.int .i64 (.ofNat 0)), (.string (bs [])), (.slice none 0 0), (.slice none 0 0), (.slice none 0 0)]⟩)
  xs := []
noncomputable def cons171 : BT Con := addTo cons170 40 m170
/-- commonplace/interp.Run, 2099 steps -/
def m171 : Memo where
  pre := [([(.slice (some ⟨1, 0, none⟩) 2 OPEN), (.slice none 0 0), (.int .i64 (.ofNat 2)), (.int .i64 (.ofNat 0))], 160), ([(.string (bs [97])), (.int .i64 (.ofNat 1)), (.bool false), (.int .i64 (.ofNat 0)), (.string (bs [])), (.slice none 0 0), (.slice none 0 0), (.string (bs [98])), (.int .i64 (.ofNat 1)), (.bool false), (.int .i64 (.ofNat 0)), (.string (bs [])), (.slice none 0 0), (.slice none 0 0)], 344)]
  args := [(.agg ⟨[(.pointer (some ⟨0, 0, none⟩))]⟩), (.agg ⟨[(.int .i64 (.ofNat 1)), (.string (bs [99])), (.string (bs [])), (.int .i64 (.ofNat 0)), (.bool false), (.int .i64 (.ofNat 0)), (.bool false), (.int .i64 (.ofNat 0)), (.string (bs [])), (.slice none 0 0), (.slice none 0 0), (.bool false), (.int .i64 (.ofNat 1)), (.bool false), (.int .i64 (.ofNat 0)), (.string (bs [])), (.slice none 0 0), (.slice none 0 0), (.slice none 0 0)]⟩)]
  v := (.tuple ⟨[(.agg ⟨[(.pointer (some ⟨2, 0, none⟩))]⟩), (.int .i64 (.ofNat 0))]⟩)
  xs := [.cells [(.slice (some ⟨3, 0, none⟩) 3 OPEN), (.slice none 0 0), (.int .i64 (.ofNat 3)), (.int .i64 (.ofNat 0))] 160 0, .cells [(.string (bs [97])), (.int .i64 (.ofNat 1)), (.bool false), (.int .i64 (.ofNat 0)), (.string (bs [])), (.slice none 0 0), (.slice none 0 0), (.string (bs [98])), (.int .i64 (.ofNat 1)), (.bool false), (.int .i64 (.ofNat 0)), (.string (bs [])), (.slice none 0 0), (.slice none 0 0), (.string (bs [99])), (.int .i64 (.ofNat 1)), (.bool false), (.int .i64 (.ofNat 0)), (.string (bs [])), (.slice none 0 0), (.slice none 0 0)] 344 1]
noncomputable def cons172 : BT Con := addTo cons171 69 m171
/-- commonplace/mutator.Copy, 71 steps -/
def m172 : Memo where
  pre := []
  args := [(.agg ⟨[(.int .i64 (.ofNat 1)), (.string (bs [99])), (.string (bs [])), (.int .i64 (.ofNat 0)), (.bool false), (.int .i64 (.ofNat 0)), (.bool false), (.int .i64 (.ofNat 0)), (.string (bs [])), (.slice none 0 0), (.slice none 0 0), (.bool false), (.int .i64 (.ofNat 1)), (.bool false), (.int .i64 (.ofNat 0)), (.string (bs [])), (.slice none 0 0), (.slice none 0 0), (.slice none 0 0)]⟩)]
  v := (.agg ⟨[(.int .i64 (.ofNat 1)), (.string (bs [99])), (.string (bs [])), (.int .i64 (.ofNat 0)), (.bool false), (.int .i64 (.ofNat 0)), (.bool false), (.int .i64 (.ofNat 0)), (.string (bs [])), (.slice none 0 0), (.slice none 0 0), (.bool false), (.int .i64 (.ofNat 1)), (.bool false), (.int .i64 (.ofNat 0)), (.string (bs [])), (.slice none 0 0), (.slice none 0 0), (.slice none 0 0)]⟩)
  xs := []
noncomputable def cons173 : BT Con := addTo cons172 40 m172
/-- commonplace/diff.Diff, 14 steps -/
def m173 : Memo where
  pre := [([(.slice (some ⟨2, 0, none⟩) 2 OPEN), (.slice none 0 0), (.int .i64 (.ofNat 2)), (.int .i64 (.ofNat 0))], 160), ([(.slice (some ⟨3, 0, none⟩) 3 OPEN), (.slice none 0 0), (.int .i64 (.ofNat 3)), (.int .i64 (.ofNat 0))], 160), ([(.string (bs [97])), (.int .i64 (.ofNat 1)), (.bool false), (.int .i64 (.ofNat 0)), (.string (bs [])), (.slice none 0 0), (.slice none 0 0), (.string (bs [98])), (.int .i64 (.ofNat 1)), (.bool false), (.int .i64 (.ofNat 0)), (.string (bs [])), (.slice none 0 0), (.slice none 0 0)], 344), ([(.string (bs [97])), (.int .i64 (.ofNat 1)), (.bool false), (.int .i64 (.ofNat 0)), (.string (bs [])), (.slice none 0 0), (.slice none 0 0), (.string (bs [98])), (.int .i64 (.ofNat 1)), (.bool false), (.int .i64 (.ofNat 0)), (.string (bs [])), (.slice none 0 0), (.slice none 0 0), (.string (bs [99])), (.int .i64 (.ofNat 1)), (.bool false), (.int .i64 (.ofNat 0)), (.string (bs [])), (.slice none 0 0), (.slice none 0 0)], 344)]
  args := [(.agg ⟨[(.pointer (some ⟨0, 0, none⟩))]⟩), (.agg ⟨[(.pointer (some ⟨1, 0, none⟩))]⟩)]
  v := (.func (.func 122) ⟨[]⟩ ⟨[(.pointer (some ⟨4, 0, none⟩)), (.pointer (some ⟨5, 0, none⟩))]⟩)
  xs := [.cells [(.pointer (some ⟨0, 0, none⟩))] 61 0, .cells [(.pointer (some ⟨1, 0, none⟩))] 61 0]
noncomputable def cons174 : BT Con := addTo cons173 79 m173
/-- commonplace/diff.Diff, 14 steps -/
def m174 : Memo where
  pre := [([(.slice (some ⟨1, 0, none⟩) 3 OPEN), (.slice none 0 0), (.int .i64 (.ofNat 3)), (.int .i64 (.ofNat 0))], 160), ([(.string (bs [97])), (.int .i64 (.ofNat 1)), (.bool false), (.int .i64 (.ofNat 0)), (.string (bs [])), (.slice none 0 0), (.slice none 0 0), (.string (bs [98])), (.int .i64 (.ofNat 1)), (.bool false), (.int .i64 (.ofNat 0)), (.string (bs [])), (.slice none 0 0), (.slice none 0 0), (.string (bs [99])), (.int .i64 (.ofNat 1)), (.bool false), (.int .i64 (.ofNat 0)), (.string (bs [])), (.slice none 0 0), (.slice none 0 0)], 344)]
  args := [(.agg ⟨[(.pointer none)]⟩), (.agg ⟨[(.pointer (some ⟨0, 0, none⟩))]⟩)]
  v := (.func (.func 122) ⟨[]⟩ ⟨[(.pointer (some ⟨2, 0, none⟩)), (.pointer (some ⟨3, 0, none⟩))]⟩)
  xs := [.cells [(.pointer none)] 61 0, .cells [(.pointer (some ⟨0, 0, none⟩))] 61 0]
noncomputable def cons175 : BT Con := addTo cons174 79 m174
/-- commonplace/patch.From, 2385 steps -/
def m175 : Memo where
  pre := [([(.slice (some ⟨1, 0, none⟩) 3 OPEN), (.slice none 0 0), (.int .i64 (.ofNat 3)), (.int .i64 (.ofNat 0))], 160), ([(.string (bs [97])), (.int .i64 (.ofNat 1)), (.bool false), (.int .i64 (.ofNat 0)), (.string (bs [])), (.slice none 0 0), (.slice none 0 0), (.string (bs [98])), (.int .i64 (.ofNat 1)), (.bool false), (.int .i64 (.ofNat 0)), (.string (bs [])), (.slice none 0 0), (.slice none 0 0), (.string (bs [99])), (.int .i64 (.ofNat 1)), (.bool false), (.int .i64 (.ofNat 0)), (.string (bs [])), (.slice none 0 0), (.slice none 0 0)], 344)]
  args := [(.agg ⟨[(.pointer none)]⟩), (.agg ⟨[(.pointer (some ⟨0, 0, none⟩))]⟩)]
  v := (.slice (some ⟨2, 0, none⟩) 3 OPEN)
  xs := [.cells [(.int .i64 (.ofNat 1)), (.string (bs [97])), (.int .i64 (.ofNat 1)), (.bool false), (.int .i64 (.ofNat 0)), (.string (bs [])), (.slice none 0 0), (.slice none 0 0), (.int .i64 (.ofNat 1)), (.string (bs [98])), (.int .i64 (.ofNat 1)), (.bool false), (.int .i64 (.ofNat 0)), (.string (bs [])), (.slice none 0 0), (.slice none 0 0), (.int .i64 (.ofNat 1)), (.string (bs [99])), (.int .i64 (.ofNat 1)), (.bool false), (.int .i64 (.ofNat 0)), (.string (bs [])), (.slice none 0 0), (.slice none 0 0)] 118 1]
noncomputable def cons176 : BT Con := addTo cons175 46 m175
/-- commonplace/commonplaceref22.Same, 212 steps -/
def m176 : Memo where
  pre := [([(.int .i64 (.ofNat 1)), (.string (bs [99])), (.int .i64 (.ofNat 1)), (.bool false), (.int .i64 (.ofNat 0)), (.string (bs [])), (.slice none 0 0), (.slice none 0 0)], 118), ([(.int .i64 (.ofNat 1)), (.string (bs [99])), (.int .i64 (.ofNat 1)), (.bool false), (.int .i64 (.ofNat 0)), (.string (bs [])), (.slice none 0 0), (.slice none 0 0)], 118)]
  args := [(.agg ⟨[(.int .u64 (.ofNat 9)), (.int .u64 (.ofNat 2)), (.int .u64 (.ofNat 3)), (.int .u64 (.ofNat 0)), (.slice (some ⟨0, 0, none⟩) 1 OPEN)]⟩), (.agg ⟨[(.int .u64 (.ofNat 9)), (.int .u64 (.ofNat 2)), (.int .u64 (.ofNat 3)), (.int .u64 (.ofNat 0)), (.slice (some ⟨1, 0, none⟩) 1 1)]⟩)]
  v := (.bool true)
  xs := []
noncomputable def cons177 : BT Con := addTo cons176 52 m176
/-- commonplace/commonplaceref22.Same, 534 steps -/
def m177 : Memo where
  pre := [([(.int .i64 (.ofNat 3)), (.string (bs [])), (.int .i64 (.ofNat 0)), (.bool false), (.int .i64 (.ofNat 0)), (.string (bs [])), (.slice none 0 0), (.slice none 0 0), (.int .i64 (.ofNat 1)), (.string (bs [97])), (.int .i64 (.ofNat 1)), (.bool false), (.int .i64 (.ofNat 0)), (.string (bs [])), (.slice none 0 0), (.slice none 0 0), (.int .i64 (.ofNat 1)), (.string (bs [98])), (.int .i64 (.ofNat 1)), (.bool false), (.int .i64 (.ofNat 0)), (.string (bs [])), (.slice none 0 0), (.slice none 0 0), (.int .i64 (.ofNat 1)), (.string (bs [99])), (.int .i64 (.ofNat 1)), (.bool false), (.int .i64 (.ofNat 0)), (.string (bs [])), (.slice none 0 0), (.slice none 0 0)], 118), ([(.int .i64 (.ofNat 3)), (.string (bs [])), (.int .i64 (.ofNat 0)), (.bool false), (.int .i64 (.ofNat 0)), (.string (bs [])), (.slice none 0 0), (.slice none 0 0), (.int .i64 (.ofNat 1)), (.string (bs [97])), (.int .i64 (.ofNat 1)), (.bool false), (.int .i64 (.ofNat 0)), (.string (bs [])), (.slice none 0 0), (.slice none 0 0), (.int .i64 (.ofNat 1)), (.string (bs [98])), (.int .i64 (.ofNat 1)), (.bool false), (.int .i64 (.ofNat 0)), (.string (bs [])), (.slice none 0 0), (.slice none 0 0), (.int .i64 (.ofNat 1)), (.string (bs [99])), (.int .i64 (.ofNat 1)), (.bool false), (.int .i64 (.ofNat 0)), (.string (bs [])), (.slice none 0 0), (.slice none 0 0)], 118)]
  args := [(.agg ⟨[(.int .u64 (.ofNat 1)), (.int .u64 (.ofNat 1)), (.int .u64 (.ofNat 3)), (.int .u64 (.ofNat 3)), (.slice (some ⟨0, 0, none⟩) 4 OPEN)]⟩), (.agg ⟨[(.int .u64 (.ofNat 1)), (.int .u64 (.ofNat 1)), (.int .u64 (.ofNat 3)), (.int .u64 (.ofNat 3)), (.slice (some ⟨1, 0, none⟩) 4 4)]⟩)]
  v := (.bool true)
  xs := []
noncomputable def cons178 : BT Con := addTo cons177 52 m177
/-- commonplace/commonplacelaw22.AnswerNil, 11079 steps -/
def m178 : Memo where
  pre := []
  args := [(.agg ⟨[(.chan (some 0)), (.chan (some 1))]⟩)]
  v := (.bool true)
  xs := []
noncomputable def cons179 : BT Con := addTo cons178 5 m178
end Go.Abs
