/-
  What oracle.Settled and the document's Settled call: numbers and texts held against one another.
-/
import Derived.Test.YtbnlcffnmlgomaaGreatDoorRows
import Derived.WalkKit
import Derived.WalkSpells
import Derived.Deep.QuietTactic
import Derived.BigQuiet
import Derived.WalkLawsBesides
import Derived.Lib.Hide
import Derived.IntWalk
import Derived.Test.YtbnlcffnmlgomaaGreatDoorSetPlain
set_option linter.unusedSectionVars false
set_option linter.unusedVariables false
set_option linter.unusedSimpArgs false
namespace Go.Proofs.YtbnlcffnmlgomaaGreatDoor
open Go.RowKit Go.Lib

theorem ret_int {k : IntKind} {a b : Int} (h : a = b) : Ending.returned (.int k a) = .returned (.int k b) := by rw [h]

theorem numbers_any (a b : Int) (w : World) : Calls Tryz.prog 72 #[.int .i64 a, .int .i64 b] w fun e w' => e = .returned (.int .i64 (cmpI a b)) ∧ w = w' := by
  rcases Int.lt_trichotomy a b with h | h | h
  · go_enter Tryz.func72, Tryz.ntmps72
    go_wp2
    go_ret
    exact ⟨ret_int (cmpI_lt h).symm, rfl⟩
  · subst h
    have h1 : ¬ a < a := by omega
    go_enter Tryz.func72, Tryz.ntmps72
    go_wp2
    go_ret
    exact ⟨ret_int (cmpI_eq (Int.le_refl _) (Int.le_refl _)).symm, rfl⟩
  · have h1 : ¬ a < b := by omega
    go_enter Tryz.func72, Tryz.ntmps72
    go_wp2
    go_ret
    exact ⟨ret_int (cmpI_gt h).symm, rfl⟩

theorem isNaN44 (a : Int) (w : World) : Calls Tryz.prog 230 #[.int .i64 a] w fun e w' => e = .returned (.bool false) ∧ w = w' := by
  go_enter Tryz.func230, Tryz.ntmps230
  go_wp2
  go_ret
  exact ⟨rfl, rfl⟩
theorem isNaN2 (a : Int) (w : World) : Calls Tryz.prog 231 #[.int .i64 a] w fun e w' => e = .returned (.bool false) ∧ w = w' := by
  go_enter Tryz.func231, Tryz.ntmps231
  go_wp2
  go_ret
  exact ⟨rfl, rfl⟩
theorem isNaN9 (a : ByteArray) (w : World) : Calls Tryz.prog 232 #[.string a] w fun e w' => e = .returned (.bool false) ∧ w = w' := by
  go_enter Tryz.func232, Tryz.ntmps232
  go_wp2
  go_ret
  exact ⟨rfl, rfl⟩

theorem cmp44_any (a b : Int) (w : World) : Calls Tryz.prog 175 #[.int .i64 a, .int .i64 b] w fun e w' => e = .returned (.int .i64 (cmpI a b)) ∧ w = w' := by
  rcases Int.lt_trichotomy a b with h | h | h
  · go_enter Tryz.func175, Tryz.ntmps175
    go_wp2_with ((with_reducible refine (isNaN44 _ _).mono ?_); rintro e w' ⟨rfl, rfl⟩)
    go_ret
    exact ⟨ret_int (cmpI_lt h).symm, rfl⟩
  · subst h
    have h1 : ¬ a < a := by omega
    go_enter Tryz.func175, Tryz.ntmps175
    go_wp2_with ((with_reducible refine (isNaN44 _ _).mono ?_); rintro e w' ⟨rfl, rfl⟩)
    go_ret
    exact ⟨ret_int (cmpI_eq (Int.le_refl _) (Int.le_refl _)).symm, rfl⟩
  · have h1 : ¬ a < b := by omega
    go_enter Tryz.func175, Tryz.ntmps175
    go_wp2_with ((with_reducible refine (isNaN44 _ _).mono ?_); rintro e w' ⟨rfl, rfl⟩)
    go_ret
    exact ⟨ret_int (cmpI_gt h).symm, rfl⟩
theorem cmp2_any (a b : Int) (w : World) : Calls Tryz.prog 177 #[.int .i64 a, .int .i64 b] w fun e w' => e = .returned (.int .i64 (cmpI a b)) ∧ w = w' := by
  rcases Int.lt_trichotomy a b with h | h | h
  · go_enter Tryz.func177, Tryz.ntmps177
    go_wp2_with ((with_reducible refine (isNaN2 _ _).mono ?_); rintro e w' ⟨rfl, rfl⟩)
    go_ret
    exact ⟨ret_int (cmpI_lt h).symm, rfl⟩
  · subst h
    have h1 : ¬ a < a := by omega
    go_enter Tryz.func177, Tryz.ntmps177
    go_wp2_with ((with_reducible refine (isNaN2 _ _).mono ?_); rintro e w' ⟨rfl, rfl⟩)
    go_ret
    exact ⟨ret_int (cmpI_eq (Int.le_refl _) (Int.le_refl _)).symm, rfl⟩
  · have h1 : ¬ a < b := by omega
    go_enter Tryz.func177, Tryz.ntmps177
    go_wp2_with ((with_reducible refine (isNaN2 _ _).mono ?_); rintro e w' ⟨rfl, rfl⟩)
    go_ret
    exact ⟨ret_int (cmpI_gt h).symm, rfl⟩
theorem cmp9_any (a b : ByteArray) (w : World) : Calls Tryz.prog 178 #[.string a, .string b] w fun e w' => e = .returned (.int .i64 (cmpB a b)) ∧ w = w' := by
  have main : ∀ r : Int, r = cmpB a b → Calls Tryz.prog 178 #[.string a, .string b] w fun e w' => e = .returned (.int .i64 r) ∧ w = w' := by
    intro r hr
    have HR : Hid (r = if Op.bytesLess a.toList b.toList then -1 else if a.toList == b.toList then 0 else 1) := Lib.hid hr
    clear hr
    go_enter Tryz.func178, Tryz.ntmps178
    go_wp2_with ((with_reducible refine (isNaN9 _ _).mono ?_); rintro e w' ⟨rfl, rfl⟩)
    all_goals
      go_ret
      refine ⟨ret_int ?_, rfl⟩
      rw [HR.out]
      simp_all
  exact main _ rfl

theorem quiet_add_left {P : Program} {f : FuncId} {args : Array Value} {w : World} {a n : Nat} {v : Value}
    (h : Calls P f args (w.drewN (a + n)) fun e w' => e = .returned v ∧ w.drewN (a + n) = w') :
    Calls P f args (w.drewN (a + n)) fun e w'' => e = .returned v ∧ ∃ m, w'' = w.drewN (a + m) :=
  h.mono fun _ _ ⟨he, hm⟩ => ⟨he, n, hm.symm⟩
theorem quiet_left {P : Program} {f : FuncId} {args : Array Value} {w : World} {n : Nat} {v : Value}
    (h : Calls P f args (w.drewN n) fun e w' => e = .returned v ∧ w.drewN n = w') : Calls P f args (w.drewN n) fun e w'' => e = .returned v ∧ ∃ m, w'' = w.drewN m :=
  h.mono fun _ _ ⟨he, hm⟩ => ⟨he, n, hm.symm⟩
def Drawn (w u : World) : Prop := ∃ n, u = w.drewN n
theorem Drawn.refl (w : World) : Drawn w w := ⟨0, rfl⟩
theorem Drawn.more {w u : World} (h : Drawn w u) (n : Nat) : Drawn w (u.drewN n) := by
  obtain ⟨m, rfl⟩ := h
  exact ⟨m + n, by rw [World.drewN_drewN]⟩

theorem ba_length (a : ByteArray) : a.toList.length = a.size := by rw [ByteArray.toList_eq]; rfl
theorem ba_get (a : ByteArray) (k : Nat) (h : k < a.size) (h' : k < a.toList.length) : a.toList[k] = a[k] := by
  simp only [ByteArray.toList_eq]
  rfl

set_option maxHeartbeats 400000 in
theorem texts_any (a b : ByteArray) (w : World) (ha : a.size ≤ maxLen) (hb : b.size ≤ maxLen) : Calls Tryz.prog 73 #[.string a, .string b] w fun e w' => e = .returned (.int .i64 (cmpB a b)) ∧ Drawn w w' := by
  unfold maxLen at ha hb
  go_enter Tryz.func73, Tryz.ntmps73
  go_wp2
  go_loopw [5] (fun i u => Drawn w u ∧ ∃ k : Nat, k ≤ a.size ∧ k ≤ b.size ∧ i = .int .i64 k ∧ cmpB a b = cmpL (a.toList.drop k) (b.toList.drop k)) (fun i _ => a.size - (intOf i).toNat)
  case atStart => exact ⟨Drawn.refl _, 0, Nat.zero_le _, Nat.zero_le _, rfl, rfl⟩
  case round =>
    obtain ⟨hu, k, hka, hkb, rfl, hc⟩ := hrel
    have HC : Hid (cmpB a b = cmpL (a.toList.drop k) (b.toList.drop k)) := Lib.hid hc
    have HU := Lib.hid hu
    clear hc hu
    by_cases h1 : k < a.size
    · by_cases h2 : k < b.size
      · have HS : Hid (cmpB a b = if a[k] = b[k] then cmpL (a.toList.drop (k + 1)) (b.toList.drop (k + 1)) else cmpI (a[k].toNat : Int) (b[k].toNat : Int)) := by
          have h1' : k < a.toList.length := by rw [ba_length]; exact h1
          have h2' : k < b.toList.length := by rw [ba_length]; exact h2
          have := cmpL_step h1' h2'
          rw [ba_get a k h1 h1', ba_get b k h2 h2'] at this
          exact HC.out.trans this
        have b1 : a[k].toNat < 256 := a[k].toNat_lt
        have b2 : b[k].toNat < 256 := b[k].toNat_lt
        by_cases heq : ((a[k].toNat : Int) == (b[k].toNat : Int)) = true
        · have heq2 : ((a[k].toNat : Int) != (b[k].toNat : Int)) = false := by simpa [bne] using heq
          have HE : Hid (a[k] = b[k]) := by
            have : (a[k].toNat : Int) = (b[k].toNat : Int) := by simpa using heq
            exact UInt8.toNat_inj.1 (by omega)
          go_wp2
          go_quiet (fail)
          go_wp2
          go_roundw
          case rel => exact ⟨HU.out.more _, k + 1, by omega, by omega, by go_num, by rw [HS.out, if_pos HE.out]⟩
          case measure => simp [intOf]; omega
        · have heq2 : ((a[k].toNat : Int) != (b[k].toNat : Int)) = true := by simpa [bne] using heq
          have HE : Hid (¬ a[k] = b[k]) := fun e => heq (by rw [e]; simp)
          have w1 : IntKind.i64.wrap (a[k].toNat : Int) = (a[k].toNat : Int) := IntWalk.i64_in _ (by omega)
          have w2 : IntKind.i64.wrap (b[k].toNat : Int) = (b[k].toNat : Int) := IntWalk.i64_in _ (by omega)
          go_wp2
          go_quiet (fail)
          go_wp2
          go_quiet ((go_at_call 72; first | exact quiet_add_left (numbers_any _ _ _) | exact quiet_left (numbers_any _ _ _) | exact Calls.quiet_of_same (numbers_any _ _ _)))
          all_goals go_wp2
          all_goals go_ret
          all_goals exact ⟨ret_int (by rw [HS.out, if_neg HE.out]), (HU.out.more _).more _⟩
      · have HE : Hid (cmpB a b = cmpI a.size b.size) := Lib.hid (by
          rw [HC.out, cmpL_end (by rw [ba_length]; exact hka) (by rw [ba_length]; exact hkb) (by rw [ba_length, ba_length]; omega), ba_length, ba_length])
        go_wp2_with ((with_reducible refine (numbers_any _ _ _).mono ?_); rintro e w' ⟨rfl, rfl⟩)
        go_ret
        exact ⟨ret_int HE.out.symm, HU.out⟩
    · have HE : Hid (cmpB a b = cmpI a.size b.size) := Lib.hid (by
        rw [HC.out, cmpL_end (by rw [ba_length]; exact hka) (by rw [ba_length]; exact hkb) (by rw [ba_length, ba_length]; omega), ba_length, ba_length])
      go_wp2_with ((with_reducible refine (numbers_any _ _ _).mono ?_); rintro e w' ⟨rfl, rfl⟩)
      go_ret
      exact ⟨ret_int HE.out.symm, HU.out⟩
end Go.Proofs.YtbnlcffnmlgomaaGreatDoor
