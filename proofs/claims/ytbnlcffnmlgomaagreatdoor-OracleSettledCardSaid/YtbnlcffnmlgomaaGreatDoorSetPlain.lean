/-
  Texts held against one another: plain laws.
-/
import GoSem.Op.String
import Derived.RowKit
set_option linter.unusedSectionVars false
set_option linter.unusedVariables false
set_option linter.unusedSimpArgs false
namespace Go.Proofs.YtbnlcffnmlgomaaGreatDoor
open Go

def cmpI (a b : Int) : Int := if a < b then -1 else if b < a then 1 else 0
theorem cmpI_lt {a b : Int} (h : a < b) : cmpI a b = -1 := by unfold cmpI; rw [if_pos h]
theorem cmpI_gt {a b : Int} (h : b < a) : cmpI a b = 1 := by unfold cmpI; rw [if_neg (by omega), if_pos h]
theorem cmpI_eq {a b : Int} (h1 : a ≤ b) (h2 : b ≤ a) : cmpI a b = 0 := by unfold cmpI; rw [if_neg (by omega), if_neg (by omega)]

def cmpL (a b : List UInt8) : Int := if Op.bytesLess a b then -1 else if a == b then 0 else 1

theorem less_irrefl : ∀ (l : List UInt8), Op.bytesLess l l = false
  | [] => rfl
  | x :: xs => by simp [Op.bytesLess, less_irrefl xs]

theorem cmpL_nil : cmpL [] [] = 0 := rfl
theorem cmpL_left (y : UInt8) (ys : List UInt8) : cmpL [] (y :: ys) = -1 := rfl
theorem cmpL_right (x : UInt8) (xs : List UInt8) : cmpL (x :: xs) [] = 1 := rfl
theorem cmpL_same (x : UInt8) (xs ys : List UInt8) : cmpL (x :: xs) (x :: ys) = cmpL xs ys := by
  unfold cmpL
  simp [Op.bytesLess]
theorem cmpL_ne {x y : UInt8} (h : x ≠ y) (xs ys : List UInt8) : cmpL (x :: xs) (y :: ys) = cmpI x.toNat y.toNat := by
  have hne : (x :: xs == y :: ys) = false := by simp [h]
  have hxy : x.toNat ≠ y.toNat := fun e => h (UInt8.toNat_inj.1 e)
  unfold cmpL
  rw [hne]
  by_cases hlt : x < y
  · have : x.toNat < y.toNat := UInt8.lt_iff_toNat_lt.1 hlt
    rw [cmpI_lt (by omega)]
    simp [Op.bytesLess, hlt]
  · have : ¬ x.toNat < y.toNat := fun e => hlt (UInt8.lt_iff_toNat_lt.2 e)
    rw [cmpI_gt (by omega)]
    simp [Op.bytesLess, hlt, h]

/-- behind what two texts share -/
theorem cmpL_step {a b : List UInt8} {k : Nat} (ha : k < a.length) (hb : k < b.length) :
    cmpL (a.drop k) (b.drop k) = if a[k] = b[k] then cmpL (a.drop (k + 1)) (b.drop (k + 1)) else cmpI a[k].toNat b[k].toNat := by
  rw [List.drop_eq_getElem_cons ha, List.drop_eq_getElem_cons hb]
  by_cases h : a[k] = b[k]
  · rw [if_pos h, h, cmpL_same]
  · rw [if_neg h, cmpL_ne h]
theorem cmpL_end {a b : List UInt8} {k : Nat} (ha : k ≤ a.length) (hb : k ≤ b.length) (h : ¬ (k < a.length ∧ k < b.length)) : cmpL (a.drop k) (b.drop k) = cmpI a.length b.length := by
  by_cases h1 : k < a.length
  · have h2 : b.length = k := by omega
    rw [List.drop_eq_nil_of_le (by omega : b.length ≤ k), List.drop_eq_getElem_cons h1, cmpL_right, cmpI_gt (by omega)]
  · have h2 : a.length = k := by omega
    rw [List.drop_eq_nil_of_le (by omega : a.length ≤ k)]
    by_cases h3 : k < b.length
    · rw [List.drop_eq_getElem_cons h3, cmpL_left, cmpI_lt (by omega)]
    · rw [List.drop_eq_nil_of_le (by omega : b.length ≤ k), cmpL_nil, cmpI_eq (by omega) (by omega)]

theorem cmpL_zero {a b : List UInt8} : cmpL a b = 0 ↔ a = b := by
  unfold cmpL
  constructor
  · intro h
    split at h
    · cases h
    · split at h
      · rename_i h2; simpa using h2
      · cases h
  · intro h; subst h; simp [less_irrefl]

def cmpB (a b : ByteArray) : Int := cmpL a.toList b.toList
end Go.Proofs.YtbnlcffnmlgomaaGreatDoor
