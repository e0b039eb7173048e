/-
  THE ABSTRACT MACHINE: its other operations: append.
-/
import Derived.Test.YtbnlcffnmlgomaaGreatDoorAbsEff
set_option linter.unusedSectionVars false
set_option linter.unusedVariables false
set_option linter.unusedSimpArgs false
namespace Go.Abs
open Go Go.RowKit
variable [Ops]

section
variable {C : Ctx} (ok : C.Ok) {N0 : Nat} {w0 : World} {β : BM} {H : AHeap} {nx : Nat} {w : World}

def notInt : TypeDesc → Bool
  | .slice _ | .string => true
  | _ => false
theorem notInt_cases {d : TypeDesc} (h : notInt d = true) : (∃ x, d = .slice x) ∨ d = .string := by
  unfold notInt at h
  split at h
  · exact .inl ⟨_, rfl⟩
  · exact .inr rfl
  · cases h

include ok in
theorem append_run_fits {t u e : TypeId} {du : TypeDesc} (ht : und C t = some (.slice e)) (hu : und C u = some du) (hdu : notInt du = true) {sz : Nat} (hs : size? C e = some sz)
    {x' : Value} {n : Nat} (hlen : (Builtin.lenOf x').run C.P w = .ok n w) {new' : Array Value} (hcells : (Builtin.firstCells sz n x').run C.P w = .ok new' w)
    {sLen sCap : Nat} (hfit : sLen + n ≤ sCap) {a : Addr} {w' : World} (hst : (storeCells (a.add (sLen * sz)) new'.toList).run C.P w = .ok () w') (ty : TypeId) :
    (Builtin.append_ #[t, u] ty #[.slice (some a) sLen sCap, x']).run C.P w = .ok (.slice (some a) (sLen + n) sCap) w' := by
  have hu' := run_und ok w hu
  rcases notInt_cases hdu with ⟨x, rfl⟩ | rfl <;> simp [Builtin.append_, run_und ok w ht, hu', run_size ok w hs, hlen, hcells, hfit, hst]

include ok in
theorem append_run_none {t u e : TypeId} {du : TypeDesc} (ht : und C t = some (.slice e)) (hu : und C u = some du) (hdu : notInt du = true) {sz : Nat} (hs : size? C e = some sz)
    {x' : Value} (hlen : (Builtin.lenOf x').run C.P w = .ok 0 w) {new' : Array Value} (hcells : (Builtin.firstCells sz 0 x').run C.P w = .ok new' w) (ty : TypeId) :
    (Builtin.append_ #[t, u] ty #[.slice none 0 0, x']).run C.P w = .ok (.slice none 0 0) w := by
  have hu' := run_und ok w hu
  rcases notInt_cases hdu with ⟨x, rfl⟩ | rfl <;> simp [Builtin.append_, run_und ok w ht, hu', run_size ok w hs, hlen, hcells]

theorem cap_cut (w : World) (need old : Nat) (e : TypeId) : need ≤ grownCap w need old e := grownCap_ge w need old e

include ok in
theorem append_run_grow {t u e : TypeId} {du : TypeDesc} (ht : und C t = some (.slice e)) (hu : und C u = some du) (hdu : notInt du = true) {sz : Nat} (hs : size? C e = some sz)
    {z : Value} (hz : zero? C e = some z) (hsm : smallElem C e = true)
    {x' : Value} {n : Nat} (hlen : (Builtin.lenOf x').run C.P w = .ok n w) {new' : Array Value} (hcells : (Builtin.firstCells sz n x').run C.P w.drew = .ok new' w.drew)
    {base : Option Addr} {sLen sCap : Nat} (hgrow : sCap < sLen + n) (hsmall : sLen + n ≤ 1000000) {old' : Array Value} (hold : (Builtin.firstCells sz sLen (.slice base sLen sCap)).run C.P w.drew = .ok old' w.drew) (ty : TypeId) :
    (Builtin.append_ #[t, u] ty #[.slice base sLen sCap, x']).run C.P w =
      .ok (.slice (some ⟨w.heap.size, 0, none⟩) (sLen + n) (grownCap w (sLen + n) sCap e)) (w.drew.alloc (.cells (old' ++ new' ++ Builtin.zeroCells z.cells (grownCap w (sLen + n) sCap e - (sLen + n))) e)) := by
  have hu' := run_und ok w hu
  obtain ⟨i, hi, _⟩ := size_sound ok hs
  have hby : i.bytes ≤ 100000 := by
    unfold smallElem at hsm
    split at hsm
    · rename_i j hj
      have := ok.ty _ _ hj
      rw [hi] at this
      cases this
      exact Nat.le_of_ble_eq_true hsm
    · cases hsm
  have hinfo : (typeInfo e).run C.P w = .ok i w := by simp [typeInfo, hi]
  have hinfo' : (typeInfo e).run C.P w.drew = .ok i w.drew := by simp [typeInfo, hi]
  have hn : ¬ (sLen + n ≤ sCap) := by omega
  have h63 : ¬ (9223372036854775807 < ((sLen : Int) + (n : Int))) := by omega
  have hnc : Builtin.nextslicecap (sLen + n) sCap * i.bytes ≤ 2000000 * 100000 := Nat.mul_le_mul (Nat.le_trans (nextslicecap_le hgrow) (by omega)) hby
  have h48 : ¬ (281474976710656 < Builtin.nextslicecap (sLen + n) sCap * i.bytes) := by omega
  have hz' := run_zero ok w.drew hz
  rcases notInt_cases hdu with ⟨x, rfl⟩ | rfl <;> simp [Builtin.append_, run_und ok w ht, hu', run_size ok w hs, hlen, hn, h63, h48, hinfo, hinfo', Question.forced, hcells, hold, hz', newRow, grownCap]

end
end Go.Abs
