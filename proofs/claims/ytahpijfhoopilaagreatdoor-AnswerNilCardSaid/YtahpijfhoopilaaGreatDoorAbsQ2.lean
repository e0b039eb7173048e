/-
  THE ABSTRACT MACHINE: its quiet operations, one by one.
-/
import Derived.Test.YtahpijfhoopilaaGreatDoorAbsQuiet
set_option linter.unusedSectionVars false
set_option linter.unusedVariables false
set_option linter.unusedSimpArgs false
namespace Go.Abs
open Go Go.RowKit
variable [Ops]

def QRes (C : Ctx) (N0 : Nat) (β : BM) (nx : Nat) (w : World) (s : Sem Next) : Value → Option AObj → Prop
  | v, none => ∃ v', s.run C.P w = .ok (.value v') w ∧ VR β v v'
  | v, some x => ∃ v' ob i, s.run C.P w = .ok (.value v') (w.alloc ob) ∧ i.blk = w.heap.size ∧ VR (β.set nx i) v v' ∧ OR C N0 (β.set nx i) (w.alloc ob) i x

theorem VR.pointer_inv {β : BM} {a : Addr} {v' : Value} (h : VR β (.pointer (some a)) v') :
    ∃ b o i, a = ⟨b, o, none⟩ ∧ β b = some i ∧ v' = .pointer (some ⟨i.blk, i.base + o, none⟩) := by
  cases h with
  | atom h => simp [Abs.atom] at h
  | ptr h => exact ⟨_, _, _, rfl, h, rfl⟩
theorem VR.pnil_inv {β : BM} {v' : Value} (h : VR β (.pointer none) v') : v' = .pointer none := h.atom_eq rfl
theorem VR.slc_inv {β : BM} {a : Addr} {l c : Nat} {v' : Value} (h : VR β (.slice (some a) l c) v') :
    (∃ b o i c', a = ⟨b, o, none⟩ ∧ β b = some i ∧ CapR i o l c c' ∧ v' = .slice (some ⟨i.blk, i.base + o, none⟩) l c') ∨ (l = 0 ∧ c = OPEN ∧ ∃ a' c', v' = .slice (some a') 0 c') := by
  cases h with
  | atom h => simp [Abs.atom] at h
  | slice h hc => exact .inl ⟨_, _, _, _, rfl, h, hc, rfl⟩
  | eslice => exact .inr ⟨rfl, rfl, _, _, rfl⟩
theorem VR.slc_any {β : BM} {a : Addr} {l c : Nat} {v' : Value} (h : VR β (.slice (some a) l c) v') : ∃ a' c', v' = .slice (some a') l c' := by
  rcases h.slc_inv with ⟨_, _, _, _, _, _, _, e⟩ | ⟨rfl, _, _, _, e⟩
  · exact ⟨_, _, e⟩
  · exact ⟨_, _, e⟩
theorem VR.snil_inv {β : BM} {l c : Nat} {v' : Value} (h : VR β (.slice none l c) v') : l = 0 ∧ c = 0 ∧ v' = .slice none 0 0 := by
  cases h with
  | atom h =>
    cases l with
    | succ n => simp [Abs.atom] at h
    | zero =>
      cases c with
      | succ n => simp [Abs.atom] at h
      | zero => exact ⟨rfl, rfl, rfl⟩
theorem VR.mnil_inv {β : BM} {v' : Value} (h : VR β (.map none) v') : v' = .map none := h.atom_eq rfl
theorem VR.nilFunc_inv {β : BM} {v' : Value} (h : VR β .nilFunc v') : v' = .nilFunc := h.atom_eq rfl
theorem VR.nilIface_inv {β : BM} {v' : Value} (h : VR β .nilIface v') : v' = .nilIface := h.atom_eq rfl
theorem VR.anyFunc_inv {β : BM} {f : Fn} {a c : Array Value} {v' : Value} (h : VR β (.func f a c) v') : ∃ f' a' c', v' = .func f' a' c' := by
  cases h with
  | atom h => exact ⟨_, _, _, rfl⟩
  | func _ _ => exact ⟨_, _, _, rfl⟩
  | yield _ => exact ⟨_, _, _, rfl⟩
theorem VR.iface_inv {β : BM} {t : TypeId} {v v' : Value} (h : VR β (.iface t v) v') : ∃ u, VR β v u ∧ v' = .iface t u := by
  cases h with
  | atom h => simp [Abs.atom] at h
  | iface h => exact ⟨_, h, rfl⟩

section
variable {C : Ctx} (ok : C.Ok) {N0 : Nat} {w0 : World} {β : BM} {H : AHeap} {nx nh : Nat} {w : World} (h : HR C N0 w0 β H nh w) (hn : β nx = none)
variable {ρ ρ' : Operand → Value} {o : Oper} (hρ : ∀ x ∈ o.op.operands, VR β (ρ x) (ρ' x)) {v : Value} {x? : Option AObj}

/-- what only looks at address-free values does the same -/
theorem pure_rule (hs : ∀ cs b, o.op ≠ .select cs b) (hρ : ∀ x ∈ o.op.operands, VR β (ρ x) (ρ' x)) (ha : ∀ x ∈ o.op.operands, af (ρ x) = true)
    (hq : qrun C.P (execOp ρ o) = some (.value v)) (hv : af v = true) : QRes C N0 β nx w (execOp ρ' o) v none := by
  have e : execOp ρ o = execOp ρ' o := execOp_congr o hs fun x hx => ((hρ x hx).af_eq (ha x hx)).symm
  rw [e] at hq
  exact ⟨v, qrun_sound hq w, VR.of_af hv⟩

/-- the branch of 'quiet' that is the pure rule's -/
def pureQ (C : Ctx) (ρ : Operand → Value) (o : Oper) : Option (Value × Option AObj) :=
  match qrun C.P (execOp ρ o) with
  | some (.value v) => match af v with
    | true => some (v, none)
    | false => none
  | _ => none
theorem pureQ_sound (hs : ∀ cs b, o.op ≠ .select cs b) (hρ : ∀ x ∈ o.op.operands, VR β (ρ x) (ρ' x)) (ha : ∀ x ∈ o.op.operands, af (ρ x) = true)
    (hq : pureQ C ρ o = some (v, x?)) : QRes C N0 β nx w (execOp ρ' o) v x? := by
  unfold pureQ at hq
  split at hq
  · rename_i u hu
    cases hv : af u with
    | true =>
      simp only [hv, Option.some.injEq, Prod.mk.injEq] at hq
      obtain ⟨rfl, rfl⟩ := hq
      exact pure_rule hs hρ ha hu hv
    | false => simp [hv] at hq
  · cases hq

include hρ in
theorem q_move {x : Operand} (ho : o.op = .move x ∨ o.op = .assign x) (hq : quiet C H nx ρ o = some (v, x?)) : QRes C N0 β nx w (execOp ρ' o) v x? := by
  have hx : VR β (ρ x) (ρ' x) := hρ x (by rcases ho with ho | ho <;> simp [ho, Op.operands])
  have e : quiet C H nx ρ o = some (ρ x, none) := by rcases ho with ho | ho <;> simp [quiet, ho]
  rw [e] at hq
  cases hq
  exact ⟨ρ' x, by rcases ho with ho | ho <;> simp [execOp, ho], hx⟩

include hρ in
theorem q_pick {c a b : Operand} (ho : o.op = .pick c a b) (hq : quiet C H nx ρ o = some (v, x?)) : QRes C N0 β nx w (execOp ρ' o) v x? := by
  have hc := hρ c (by simp [ho, Op.operands])
  have ha := hρ a (by simp [ho, Op.operands])
  have hb := hρ b (by simp [ho, Op.operands])
  simp only [quiet, ho] at hq
  split at hq
  · rename_i e
    rw [e] at hc
    cases hq
    exact ⟨ρ' a, by simp [execOp, ho, hc.bool_inv, asBool], ha⟩
  · rename_i e
    rw [e] at hc
    cases hq
    exact ⟨ρ' b, by simp [execOp, ho, hc.bool_inv, asBool], hb⟩
  · cases hq

include ok h hn in
theorem q_alloc {e : TypeId} (ho : o.op = .alloc e) (hq : quiet C H nx ρ o = some (v, x?)) : QRes C N0 β nx w (execOp ρ' o) v x? := by
  simp only [quiet, ho] at hq
  cases hz' : zero? C e with
  | none => simp [hz'] at hq
  | some z =>
    simp only [hz', Option.some.injEq, Prod.mk.injEq] at hq
    obtain ⟨rfl, rfl⟩ := hq
    have hl : LR β (cellsL z) z.cells.toList := (VR.of_af (zero_af hz')).cells (isAny_of_af (zero_af hz'))
    refine ⟨.pointer (some ⟨w.heap.size, 0, none⟩), .cells ⟨z.cells.toList⟩ e, ⟨w.heap.size, 0, z.cells.toList.length, 0⟩, ?_, rfl, ?_, OR.new hl hn h.n0 e⟩
    · simp [execOp, ho, Instr.alloc, run_zero ok w hz', newVar, newRow]
    · exact VR.ptr (i := ⟨w.heap.size, 0, z.cells.toList.length, 0⟩) (o := 0) (BM.set_same _ _ _)

include h hn hρ in
theorem q_box {e : TypeId} {x : Operand} (ho : o.op = .box e x) (hq : quiet C H nx ρ o = some (v, x?)) : QRes C N0 β nx w (execOp ρ' o) v x? := by
  have hx := hρ x (by simp [ho, Op.operands])
  simp only [quiet, ho] at hq
  split at hq
  · cases hq
  rename_i hany
  simp only [Option.some.injEq, Prod.mk.injEq] at hq
  obtain ⟨rfl, rfl⟩ := hq
  have hl : LR β (cellsL (ρ x)) (ρ' x).cells.toList := hx.cells hany
  refine ⟨.pointer (some ⟨w.heap.size, 0, none⟩), .cells ⟨(ρ' x).cells.toList⟩ e, ⟨w.heap.size, 0, (ρ' x).cells.toList.length, 0⟩, ?_, rfl, ?_, OR.new hl hn h.n0 e⟩
  · simp [execOp, ho, Instr.box, newVar, newRow]
  · exact VR.ptr (i := ⟨w.heap.size, 0, (ρ' x).cells.toList.length, 0⟩) (o := 0) (BM.set_same _ _ _)

include ok h hρ in
theorem q_load {t : TypeId} {a : Operand} (ho : o.op = .load t a) (hq : quiet C H nx ρ o = some (v, x?)) : QRes C N0 β nx w (execOp ρ' o) v x? := by
  have ha := hρ a (by simp [ho, Op.operands])
  simp only [quiet, ho] at hq
  split at hq
  · rename_i b off e
    rw [e] at ha
    obtain ⟨i, hi, e'⟩ := ha.ptr_inv
    split at hq
    · rename_i u hu
      cases hq
      obtain ⟨j, v', hj, hrun, hv⟩ := loadV_sound ok h hu
      rw [hi] at hj
      cases hj
      exact ⟨v', by simp [execOp, ho, e', Instr.loadAt, Instr.sureAddr, hrun], hv⟩
    · cases hq
  · cases hq

include hρ in
theorem q_nilCheck {x : Operand} (ho : o.op = .nilCheck x) (hq : quiet C H nx ρ o = some (v, x?)) : QRes C N0 β nx w (execOp ρ' o) v x? := by
  have hx := hρ x (by simp [ho, Op.operands])
  simp only [quiet, ho] at hq
  split at hq
  · rename_i a e
    rw [e] at hx
    cases hq
    obtain ⟨b, off, i, rfl, hi, e'⟩ := hx.pointer_inv
    exact ⟨_, by simp [execOp, ho, e'], VR.ptr hi⟩
  · rename_i f a b e
    rw [e] at hx
    cases hq
    obtain ⟨a⟩ := a
    obtain ⟨b⟩ := b
    obtain ⟨a', c', h1, h2, e'⟩ := hx.func_inv
    exact ⟨_, by simp [execOp, ho, e'], .func h1 h2⟩
  · cases hq

include ok hρ in
theorem q_field {t : TypeId} {x : Operand} {f : Nat} (ho : o.op = .field t x f) (hq : quiet C H nx ρ o = some (v, x?)) : QRes C N0 β nx w (execOp ρ' o) v x? := by
  have hx := hρ x (by simp [ho, Op.operands])
  simp only [quiet, ho] at hq
  split at hq
  · rename_i fields cs hd e
    rw [e] at hx
    obtain ⟨cs', hcs, e'⟩ := hx.agg_inv
    rw [lget_eq] at hq
    split at hq
    · rename_i fd hfd
      split at hq
      · rename_i u hu
        cases hq
        obtain ⟨v', hrun, hv⟩ := partV_sound (w := w) ok hcs hu
        have hfd' : fields[f]? = some fd := by simpa using hfd
        exact ⟨v', by simp [execOp, ho, Instr.field, run_und ok w hd, hfd', e', asAgg, hrun], hv⟩
      · cases hq
    · cases hq
  · cases hq

include hρ in
theorem q_extract {x : Operand} {ix : Nat} (ho : o.op = .extract x ix) (hq : quiet C H nx ρ o = some (v, x?)) : QRes C N0 β nx w (execOp ρ' o) v x? := by
  have hx := hρ x (by simp [ho, Op.operands])
  simp only [quiet, ho] at hq
  split at hq
  · rename_i l e
    rw [e] at hx
    obtain ⟨l', hl, e'⟩ := hx.tuple_inv
    rw [lget_eq] at hq
    split at hq
    · rename_i u hu
      cases hq
      obtain ⟨v', h1, h2⟩ := hl.get hu
      have h1' : (⟨l'⟩ : Array Value)[ix]? = some v' := by simpa using h1
      exact ⟨v', by simp [execOp, ho, e', Instr.extract, h1'], h2⟩
    · cases hq
  · cases hq

theorem LR.map {β : BM} {ρ ρ' : Operand → Value} : ∀ (l : List Operand), (∀ x ∈ l, VR β (ρ x) (ρ' x)) → LR β (l.map ρ) (l.map ρ')
  | [], _ => .nil
  | x :: xs, h => .cons (h x (by simp)) (LR.map xs fun y hy => h y (by simp [hy]))

include hρ in
theorem q_makeFunc {fn : Fn} {a c : Array Operand} (ho : o.op = .makeFunc fn a c) (hq : quiet C H nx ρ o = some (v, x?)) : QRes C N0 β nx w (execOp ρ' o) v x? := by
  simp only [quiet, ho] at hq
  split at hq
  · rename_i f
    cases hq
    have ha := LR.map (β := β) (ρ := ρ) (ρ' := ρ') a.toList fun x hx => hρ x (by simp [ho, Op.operands]; exact .inl (by simpa using hx))
    have hc := LR.map (β := β) (ρ := ρ) (ρ' := ρ') c.toList fun x hx => hρ x (by simp [ho, Op.operands]; exact .inr (by simpa using hx))
    refine ⟨_, ?_, .func ha hc⟩
    have e1 : Array.map ρ' a = ⟨a.toList.map ρ'⟩ := by apply Array.ext'; simp
    have e2 : Array.map ρ' c = ⟨c.toList.map ρ'⟩ := by apply Array.ext'; simp
    simp [execOp, ho, Instr.makeFunc, e1, e2]
  · cases hq

include ok hρ in
theorem q_makeInterface {t : TypeId} {x : Operand} (ho : o.op = .makeInterface t x) (hq : quiet C H nx ρ o = some (v, x?)) : QRes C N0 β nx w (execOp ρ' o) v x? := by
  have hx := hρ x (by simp [ho, Op.operands])
  simp only [quiet, ho] at hq
  split at hq
  · cases hq
  · rename_i d hni hd
    cases hq
    refine ⟨_, ?_, .iface hx⟩
    cases d <;> first | (simp [execOp, ho, Instr.makeInterface, run_und ok w hd]; done) | (exact absurd rfl (hni _))
  · cases hq

include h in
theorem q_makeMap {t : TypeId} {r : Option Operand} (ho : o.op = .makeMap t r) (hq : quiet C H nx ρ o = some (v, x?)) : QRes C N0 β nx w (execOp ρ' o) v x? := by
  simp only [quiet, ho] at hq
  cases r with
  | some r => cases hq
  | none =>
    cases hq
    refine ⟨.map (some w.heap.size), .map #[] 0, ⟨w.heap.size, 0, 0, 0⟩, ?_, rfl, ?_, ⟨#[], heap_alloc_new w _, h.n0, ⟨[], .refl _, fun _ => rfl, .nil⟩, BornOk.nil _⟩⟩
    · simp [execOp, ho, Instr.makeMap]
    · exact VR.map (i := ⟨w.heap.size, 0, 0, 0⟩) (BM.set_same _ _ _)

end
end Go.Abs
