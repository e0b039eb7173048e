/-
  No function of the program starts a goroutine.
-/
import Derived.Test.YtbnlcffnmlgomaaGreatDoorTie
import Derived.Test.YtbnlcffnmlgomaaGreatDoorCards
import Derived.SevenTiedAt
import Derived.KernelRfl
set_option linter.unusedSectionVars false
set_option linter.unusedVariables false
set_option linter.unusedSimpArgs false
namespace Go.Proofs.YtbnlcffnmlgomaaGreatDoor
theorem no_goes2 : Tryz.prog.funcs.toList.any Func.goes = false := by kernel_rfl
theorem goes_none2 (f : FuncId) : Tryz.prog.goes f = false := by
  have h1 : ∀ fn ∈ Tryz.prog.funcs.toList, Func.goes fn = false := fun fn h => by
    cases hg : Func.goes fn with
    | false => rfl
    | true => exact absurd (List.any_eq_true.2 ⟨fn, h, hg⟩) (by rw [no_goes2]; simp)
  have h2 : Tryz.prog.funcs.any Func.goes = false := by rw [← Array.any_toList]; exact no_goes2
  unfold Program.goes
  rw [h2, Bool.and_false, Bool.or_false]
  cases hc : (Tryz.prog.closure f).any fun g => (Tryz.prog.funcs[g]?).any Func.goes with
  | false => rfl
  | true =>
    exfalso
    have : ∃ g : Nat, (Tryz.prog.funcs[g]?).any Func.goes = true := by
      first
        | (obtain ⟨g, _, hg⟩ := List.any_eq_true.1 hc; exact ⟨g, hg⟩)
        | (obtain ⟨i, hi, hg⟩ := Array.any_eq_true.1 hc; exact ⟨_, hg⟩)
    obtain ⟨g, hg⟩ := this
    cases hf : Tryz.prog.funcs[g]? with
    | none => rw [hf] at hg; cases hg
    | some fn =>
      rw [hf] at hg
      have := h1 fn (List.mem_of_getElem? (by rw [Array.getElem?_toList]; exact hf))
      simp only [Option.any_some] at hg
      rw [this] at hg; cases hg
theorem oracleSettled_goes : false = Rows.oracleSettledRow.goesBy Tryz.pinned.checked.prog := by
  show false = ((Tryz.prog.funcNamed Rows.oracleSettledRow.func).any Tryz.prog.goes || false)
  cases Tryz.prog.funcNamed Rows.oracleSettledRow.func with
  | none => rfl
  | some f => simp [goes_none2]
end Go.Proofs.YtbnlcffnmlgomaaGreatDoor
