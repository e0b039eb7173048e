import Derived.Test.YtbnlcffnmlgomaaGreatDoorNilWalks2
set_option linter.unusedSectionVars false
set_option linter.unusedVariables false
set_option linter.unusedSimpArgs false
namespace Go.Proofs.YtbnlcffnmlgomaaGreatDoor
open Go.RowKit Go.Abs

theorem note_zero (a t : Array Value) (w : World) (who : Int) (ha : a[1]? = some (.int .i64 who)) (k : Nat) (hlt : k < w.heap.size) (hk0 : w.cell? ⟨k, 0, none⟩ = some (.int .i64 0)) :
    Calls Tryz.prog 17 #[.pointer (some ⟨k, 0, none⟩), .agg a, .agg t] w fun e w' => e = .returned (.tuple #[]) ∧ Below w.heap.size w w' := by
  by_cases h : who < 1
  · exact note_zero_low a t w who ha h k hk0
  · exact note_zero_high a t w who ha h k hlt hk0

end Go.Proofs.YtbnlcffnmlgomaaGreatDoor
