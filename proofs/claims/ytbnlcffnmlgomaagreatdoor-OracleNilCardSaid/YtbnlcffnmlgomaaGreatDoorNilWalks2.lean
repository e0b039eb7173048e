import Derived.Test.YtbnlcffnmlgomaaGreatDoorNilWalks
import Derived.Handy
import Derived.LoopN
set_option linter.unusedSectionVars false
set_option linter.unusedVariables false
set_option linter.unusedSimpArgs false
namespace Go.Proofs.YtbnlcffnmlgomaaGreatDoor
open Go.RowKit Go.Abs

theorem below_drewN {B n : Nat} {a w : World} (h : Below B a w) : Below B a (w.drewN n) := ⟨h.os, h.tape, h.output, h.size, h.block⟩

set_option maxRecDepth 100000 in
set_option maxHeartbeats 400000 in
theorem issued_zero (who : Int) (w : World) (k : Nat) (hk : w.cell? ⟨k, 1, none⟩ = some (.map none)) (hk0 : w.cell? ⟨k, 0, none⟩ = some (.int .i64 0)) :
    Calls Tryz.prog 20 #[.pointer (some ⟨k, 0, none⟩), .int .i64 who] w fun e w' => e = .returned (.slice none 0 0) ∧ Below w.heap.size w w' := by
  have hrun := lookup_nil who w
  go_enter Tryz.func20, Tryz.ntmps20
  go_wp2
  go_rounds 1
  all_goals go_ret
  all_goals exact ⟨rfl, Below.refl _ _⟩

set_option maxRecDepth 100000 in
set_option maxHeartbeats 400000 in
theorem note_zero_high (a t : Array Value) (w : World) (who : Int) (ha : a[1]? = some (.int .i64 who)) (hw : ¬ who < 1) (k : Nat) (hlt : k < w.heap.size) (hk0 : w.cell? ⟨k, 0, none⟩ = some (.int .i64 0)) :
    Calls Tryz.prog 17 #[.pointer (some ⟨k, 0, none⟩), .agg a, .agg t] w fun e w' => e = .returned (.tuple #[]) ∧ Below w.heap.size w w' := by
  go_enter Tryz.func17, Tryz.ntmps17
  have hw2 : (0 : Int) < who := by omega
  have c0 : ((w.alloc (.cells a 56)).alloc (.cells t 61)).cell? ⟨k, 0, none⟩ = some (.int .i64 0) := cell_later (((Below.refl _ _).alloc (Nat.le_refl _) _).alloc (by simp) _) hk0
  have c1 : ((w.alloc (.cells a 56)).alloc (.cells t 61)).drew.cell? ⟨k, 0, none⟩ = some (.int .i64 0) := c0
  go_wp2
  go_quiet (fail)
  all_goals go_wp2
  all_goals refine bodyPost_ret (results_none rfl _ _ _) rfl ⟨rfl, ?_⟩
  all_goals exact below_drewN (((Below.refl _ _).alloc (Nat.le_refl _) _).alloc (by simp) _)
end Go.Proofs.YtbnlcffnmlgomaaGreatDoor
