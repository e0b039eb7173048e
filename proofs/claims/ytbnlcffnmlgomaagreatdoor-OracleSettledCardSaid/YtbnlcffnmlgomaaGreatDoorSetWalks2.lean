/-
  value.Compare: what it calls.
-/
import Derived.Test.YtbnlcffnmlgomaaGreatDoorSetWalks
import Derived.Test.YtbnlcffnmlgomaaGreatDoorSetData
import Derived.Handy
import Derived.LoopN
set_option linter.unusedSectionVars false
set_option linter.unusedVariables false
set_option linter.unusedSimpArgs false
namespace Go.Proofs.YtbnlcffnmlgomaaGreatDoor
open Go.RowKit Go.Lib

theorem truth_any (v : V) (cl co : Value) (w : World) : Calls Tryz.prog 176 #[.agg (v.cells cl co)] w fun e w' => e = .returned (.int .i64 (truth v.b)) ∧ Below w.heap.size w w' := by
  unfold V.cells
  cases hb : v.b
  all_goals
    have HB := Lib.hid hb
    clear hb
    go_enter Tryz.func176, Tryz.ntmps176
    go_wp2
    go_ret
    exact ⟨rfl, (Below.refl _ _).alloc (Nat.le_refl _) _⟩

/-- cmp.Or of two ints that lie in a row of two -/
theorem or_any (x y : Int) (b : Nat) (w : World) (h0 : w.cell? ⟨b, 0, none⟩ = some (.int .i64 x)) (h1 : w.cell? ⟨b, 1, none⟩ = some (.int .i64 y)) :
    Calls Tryz.prog 235 #[.slice (some ⟨b, 0, none⟩) 2 2] w fun e w' => e = .returned (.int .i64 (if x = 0 then y else x)) ∧ w = w' := by
  by_cases hx : x = 0
  · subst hx
    by_cases hy : y = 0
    · subst hy
      go_enter Tryz.func235, Tryz.ntmps235
      go_wp2
      go_rounds 3
      all_goals go_ret
      all_goals exact ⟨rfl, rfl⟩
    · have hy2 : (y != 0) = true := by simpa [bne] using hy
      have HY := Lib.hid hy
      clear hy
      go_enter Tryz.func235, Tryz.ntmps235
      go_wp2
      go_rounds 3
      all_goals go_ret
      all_goals exact ⟨ret_int (by first | rfl | simp), rfl⟩
  · have hx2 : (x != 0) = true := by simpa [bne] using hx
    have HX : Hid (¬ x = 0) := Lib.hid hx
    clear hx
    go_enter Tryz.func235, Tryz.ntmps235
    go_wp2
    go_rounds 3
    all_goals go_ret
    all_goals exact ⟨ret_int (by first | rfl | rw [if_neg HX.out]), rfl⟩
end Go.Proofs.YtbnlcffnmlgomaaGreatDoor
