/-
  THE ABSTRACT MACHINE: contracts.
-/
import Derived.Test.YtbnlcffnmlgomaaGreatDoorAbsTop
set_option linter.unusedSectionVars false
set_option linter.unusedVariables false
set_option linter.unusedSimpArgs false
namespace Go.Abs
open Go
variable [Ops]

/-- what was there stays: so does all that is known -/
theorem HR.below_step {C : Ctx} {N0 : Nat} {w0 : World} {β : BM} {H : AHeap} {nx : Nat} {w w' : World} (h : HR C N0 w0 β H nx w) (hb : RowKit.Below w.heap.size w w') : HR C N0 w0 β H nx w' :=
  ⟨fun c y hc => let ⟨i, h1, h2⟩ := h.obj c y hc; ⟨i, h1, h2.mono (BM.le_refl _) (hb.block _ (h.lt _ _ h1))⟩, h.inj, fun b i hi => Nat.lt_of_lt_of_le (h.lt b i hi) hb.size, h.fresh,
    h.below.trans (hb.mono h.n0), Nat.le_trans h.n0 hb.size⟩

/-- a contract that returns a value that knows no blocks, and leaves alone what there was -/
theorem ConOk.of_af {C : Ctx} {g : FuncId} {c : Con}
    (h : ∀ {N0 : Nat} {w0 : World} {β : BM} {H : AHeap} {nx : Nat} {w : World} {args args' : List Value} {v : Value} {xs : List AObj}, HR C N0 w0 β H nx w → (∀ {H0 : AHeap}, Sub H0 H → LR β args args' → c H0 nx args = some (v, xs) →
      xs = [] ∧ af v = true ∧ Calls C.P g ⟨args'⟩ w fun e w' => e = .returned v ∧ RowKit.Below w.heap.size w w')) : ConOk C g c := by
  intro N0 w0 β H Hs nx w args args' v xs hr hs ha hc _
  obtain ⟨rfl, h1, h2⟩ := h hr hs ha hc
  refine h2.mono fun e w' ⟨he, hb⟩ => ⟨β, v, he, VR.of_af h1, BM.ext_refl _ _, hr.below_step hb⟩

/-- cells of a whole block -/
theorem HR.whole_cell {C : Ctx} {N0 : Nat} {w0 : World} {β : BM} {H H0 : AHeap} {nx : Nat} {w : World} (h : HR C N0 w0 β H nx w) (hs : Sub H0 H) {b : Nat} {l : List Value} {et : TypeId} (hg : H0.get b = some (.cells l et 0)) {i : BI} (hi : β b = some i)
    {j : Nat} {v : Value} (hv : l[j]? = some v) : i.base = 0 ∧ i.blk < w.heap.size ∧ ∃ v', w.cell? ⟨i.blk, j, none⟩ = some v' ∧ VR β v v' := by
  obtain ⟨i', hi', c, fz, h1, h2, _⟩ := h.obj b _ (hs _ _ hg)
  rw [hi] at hi'
  cases hi'
  obtain ⟨h3, h4⟩ := h2.whole rfl
  obtain ⟨v', h5, h6⟩ := h2.get j v hv
  refine ⟨h3, h.lt _ _ hi, v', ?_, h6⟩
  rw [cell?_cells h1 j]
  rw [h3, Nat.zero_add] at h5
  exact h5
end Go.Abs
