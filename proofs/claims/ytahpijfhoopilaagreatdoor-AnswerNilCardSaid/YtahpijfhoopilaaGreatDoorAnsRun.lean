/-
  AnswerNil, called in whatever world, with whatever request: true; nothing that there was is another one.
-/
import Derived.Test.YtahpijfhoopilaaGreatDoorAnsMC
set_option linter.unusedSectionVars false
set_option linter.unusedVariables false
set_option linter.unusedSimpArgs false
namespace Go.Abs
open Go Go.Proofs

/-- opaque cells, from a number on -/
def opqs : Nat → Nat → List Value
  | _, 0 => []
  | k, n + 1 => .chan (some k) :: opqs (k + 1) n

theorem LR.opqs [Ops] {β : BM} : ∀ (l : List Value) (k : Nat), (∀ (i : Nat) (v : Value), l[i]? = some v → v = Ops.op (k + i)) → LR β (opqs k l.length) l
  | [], _, _ => .nil
  | x :: xs, k, h => by
    have h0 := h 0 x rfl
    simp only [List.length_cons, Abs.opqs]
    refine .cons (.opq (c := some k) h0) (LR.opqs xs (k + 1) fun i v hv => ?_)
    have := h (i + 1) v (by simpa using hv)
    rw [this]; congr 1; omega

/-- the cell of one value -/
theorem cells_one {v : Value} (h : v.oneCell' = true) : v.cells = #[v] := by
  cases v <;> first | rfl | simp [Value.oneCell'] at h

@[reducible] def argOps (l : List Value) (h : ∀ v ∈ l, v.oneCell' = true) : Ops where
  op n := l.getD n .nilIface
  one n := by
    by_cases hn : n < l.length
    · have : l.getD n .nilIface = l[n] := by simp [hn]
      rw [this]; exact h _ (List.getElem_mem hn)
    · have : l.getD n .nilIface = .nilIface := by simp at hn; simp [hn]
      rw [this]; rfl
  cell n := by
    by_cases hn : n < l.length
    · have : l.getD n .nilIface = l[n] := by simp [hn]
      rw [this]; exact cells_one (h _ (List.getElem_mem hn))
    · have : l.getD n .nilIface = .nilIface := by simp at hn; simp [hn]
      rw [this]; rfl

/-- a call by a memo of it -/
theorem calls_of_memoA [Ops] {C : Ctx} {g : FuncId} {M : Memo} (h : ConOk C g (conM M)) {args args' : List Value} (ha : LR (fun _ => none) args args') {v : Value} (hc : conM M .nil 0 args = some (v, [])) (hv : af v = true) (w : World) :
    Calls C.P g ⟨args'⟩ w fun e w' => e = .returned v ∧ RowKit.Below w.heap.size w w' := by
  have h0 : (0 : Nat) + ([] : List AObj).length < LIMIT := by decide
  refine (h (HR.empty C w) (fun _ _ h => h) ha hc h0).mono fun e w' ⟨β', v', he, hr, _, hh⟩ => ?_
  rw [he, hr.af_eq hv]
  exact ⟨rfl, hh.below⟩

theorem answerNil_calls (a : Array Value) (ha : a.size = 2) (hone : ∀ v ∈ a.toList, v.oneCell' = true) (w : World) :
    Calls Tryz.prog 5 #[.agg a] w fun e w' => e = .returned (.bool true) ∧ RowKit.Below w.heap.size w w' := by
  letI := argOps a.toList hone
  have hl : LR (fun _ => none) [Value.agg ⟨opqs 0 2⟩] [Value.agg a] := by
    have e1 : opqs 0 2 = opqs 0 a.toList.length := by simp [ha]
    rw [e1]
    refine .cons (.agg (LR.opqs _ _ fun i v hv => ?_)) .nil
    have hlt : i < a.toList.length := (List.getElem?_eq_some_iff.1 hv).1
    show v = a.toList.getD (0 + i) .nilIface
    rw [Nat.zero_add, List.getD_eq_getElem?_getD, hv]; rfl
  exact calls_of_memoA (C := (gEnv cons178).toCtx) (memo_ok ok178 rfl m178_run) hl (by kernel_rfl) rfl w
end Go.Abs
