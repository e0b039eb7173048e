import Derived.Test.YtbnlcffnmlgomaaGreatDoorAbsNil
import Derived.Test.YtbnlcffnmlgomaaGreatDoorRows
import Derived.WalkKit
import Derived.WalkSpells
import Derived.Deep.QuietTactic
import Derived.BigQuiet
import Derived.WalkLawsBesides
set_option linter.unusedSectionVars false
set_option linter.unusedVariables false
set_option linter.unusedSimpArgs false
namespace Go.Proofs.YtbnlcffnmlgomaaGreatDoor
open Go.RowKit Go.Abs

theorem und63 : und (mkEnv Tryz.prog 347).toCtx 63 = some (.map 3 70) := by kernel_rfl
theorem und3 : und (mkEnv Tryz.prog 347).toCtx 3 = some (.int .i64) := by kernel_rfl
theorem zero70 : zero? (mkEnv Tryz.prog 347).toCtx 70 = some (.slice none 0 0) := by kernel_rfl
theorem lookup_nil (who : Int) (w : World) : (Instr.lookup 63 (.map none) (.int .i64 who) false).run Tryz.prog w = .ok (.slice none 0 0) w := by
  letI := noOps
  have h1 := run_und envOk.ctx w und63
  have h2 := run_zero envOk.ctx w zero70
  have h3 : (Instr.checkKey true 10000 3 (.int .i64 who)).run Tryz.prog w = .ok () w := run_checkKey (C := (mkEnv Tryz.prog 347).toCtx) (w := w) envOk.ctx und3 (k := .int .i64 who) rfl true 9999
  have h1' : (underlying 63).run Tryz.prog w = .ok (.map 3 70) w := h1
  have h2' : (zeroValue 70).run Tryz.prog w = .ok (.slice none 0 0) w := h2
  have h4 : (Instr.findKey 3 (.int .i64 who) []).run Tryz.prog w = .ok none w := run_findKey (C := (mkEnv Tryz.prog 347).toCtx) (w := w) envOk.ctx und3 (es' := []) rfl
  simp [Instr.lookup, h1', h2', h3, h4]

set_option maxRecDepth 100000 in
set_option maxHeartbeats 400000 in
theorem issued_nil (who : Int) (w : World) :
    Calls Tryz.prog 20 #[.pointer none, .int .i64 who] w fun e w' => e = .returned (.slice none 0 0) ∧ Below w.heap.size w w' := by
  go_enter Tryz.func20, Tryz.ntmps20
  go_wp2
  go_ret
  exact ⟨rfl, Below.refl _ _⟩

set_option maxRecDepth 100000 in
set_option maxHeartbeats 400000 in
theorem note_nil (a t : Array Value) (w : World) :
    Calls Tryz.prog 17 #[.pointer none, .agg a, .agg t] w fun e w' => e = .returned (.tuple #[]) ∧ Below w.heap.size w w' := by
  go_enter Tryz.func17, Tryz.ntmps17
  go_wp2
  go_region
  all_goals go_wp2
  all_goals refine bodyPost_ret (results_none rfl _ _ _) rfl ⟨rfl, ?_⟩
  all_goals exact (((Below.refl _ _).alloc (Nat.le_refl _) _).alloc (by simp) _).drew

set_option maxRecDepth 100000 in
set_option maxHeartbeats 400000 in
theorem note_zero_low (a t : Array Value) (w : World) (who : Int) (ha : a[1]? = some (.int .i64 who)) (hw : who < 1) (k : Nat) (hk0 : w.cell? ⟨k, 0, none⟩ = some (.int .i64 0)) :
    Calls Tryz.prog 17 #[.pointer (some ⟨k, 0, none⟩), .agg a, .agg t] w fun e w' => e = .returned (.tuple #[]) ∧ Below w.heap.size w w' := by
  go_enter Tryz.func17, Tryz.ntmps17
  go_wp2
  go_region
  all_goals go_wp2
  all_goals refine bodyPost_ret (results_none rfl _ _ _) rfl ⟨rfl, ?_⟩
  all_goals exact (((Below.refl _ _).alloc (Nat.le_refl _) _).alloc (by simp) _).drew

end Go.Proofs.YtbnlcffnmlgomaaGreatDoor
