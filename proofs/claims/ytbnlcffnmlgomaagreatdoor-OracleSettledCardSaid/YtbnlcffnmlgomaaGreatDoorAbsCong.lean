/-
  THE ABSTRACT MACHINE: what its quiet operations depend on.
-/
import Derived.Test.YtbnlcffnmlgomaaGreatDoorAbsOrd
set_option linter.unusedSectionVars false
set_option linter.unusedVariables false
set_option linter.unusedSimpArgs false
namespace Go.Abs
open Go
variable [Ops]

section
variable {C : Ctx} {H H' : AHeap} {nx nx' : Nat} {ρ ρ' : Operand → Value} {o : Oper} {v : Value}

theorem quiet_static (hr : readsHeap o = false) : quiet C H nx ρ o = quiet C H' nx ρ o := by
  cases ho : o.op <;> first
    | (simp only [quiet, ho]; done)
    | (simp [readsHeap, ho] at hr; done)
    | rfl

theorem quiet_nx (hq : quiet C H nx ρ o = some (v, none)) : quiet C H nx' ρ o = some (v, none) := by
  cases ho : o.op with
  | alloc e => simp only [quiet, ho] at hq; split at hq <;> cases hq
  | box e x => simp only [quiet, ho] at hq; split at hq <;> cases hq
  | buildSlice t n p =>
    simp only [quiet, ho] at hq
    split at hq
    · split at hq
      · split at hq
        · split at hq <;> cases hq
        · cases hq
      · cases hq
    · cases hq
  | makeMap t r => simp only [quiet, ho] at hq; split at hq <;> cases hq
  | makeSlice t l c =>
    simp only [quiet, ho] at hq
    split at hq
    · split at hq
      · split at hq <;> cases hq
      · cases hq
    · cases hq
  | range t x =>
    simp only [quiet, ho] at hq
    split at hq
    · cases hq
    · split at hq <;> cases hq
    · cases hq
  | _ => simp only [quiet, ho] at hq ⊢; exact hq

theorem quiet_congr (h : ∀ x ∈ o.op.operands, ρ x = ρ' x) : quiet C H nx ρ o = quiet C H nx ρ' o := by
  have hall : o.op.operands.toList.all (fun x => af (ρ x)) = o.op.operands.toList.all (fun x => af (ρ' x)) := by
    have : o.op.operands.toList.map ρ = o.op.operands.toList.map ρ' := List.map_congr_left fun x hx => h x (Array.mem_def.2 hx)
    have e1 : ∀ (r : Operand → Value) (l : List Operand), l.all (fun x => af (r x)) = (l.map r).all af := fun r l => by induction l <;> simp_all
    rw [e1, e1, this]
  have hex : (∀ cs b, o.op ≠ .select cs b) → execOp ρ o = execOp ρ' o := fun hs => execOp_congr o hs h
  have hparts : ∀ (ps : Array (Nat × Operand)), (∀ x ∈ ps.toList.map (·.2), ρ x = ρ' x) → (ps.toList.map fun p => (p.1, ρ p.2)) = (ps.toList.map fun p => (p.1, ρ' p.2)) := fun ps hp =>
    List.map_congr_left fun p hm => by rw [hp p.2 (List.mem_map.2 ⟨p, hm, rfl⟩)]
  cases ho : o.op with
  | build t ps => simp only [quiet, ho]; rw [hparts ps (fun x hx => h x (by rw [ho]; simpa [Op.operands] using hx))]
  | buildSlice t n ps => simp only [quiet, ho]; rw [hparts ps (fun x hx => h x (by rw [ho]; simpa [Op.operands] using hx))]
  | makeFunc fn a c =>
    have h1 : a.toList.map ρ = a.toList.map ρ' := List.map_congr_left fun x hx => h x (by rw [ho]; simp [Op.operands]; exact .inl (Array.mem_def.2 hx))
    have h2 : c.toList.map ρ = c.toList.map ρ' := List.map_congr_left fun x hx => h x (by rw [ho]; simp [Op.operands]; exact .inr (Array.mem_def.2 hx))
    simp only [quiet, ho]; rw [h1, h2]
  | slice t x lo hi mx =>
    have hx : ρ x = ρ' x := h x (by rw [ho]; simp [Op.operands])
    have hl : lo.map ρ = lo.map ρ' := by cases lo with | none => rfl | some y => simp only [Option.map_some]; rw [h y (by rw [ho]; simp [Op.operands])]
    have hh : hi.map ρ = hi.map ρ' := by cases hi with | none => rfl | some y => simp only [Option.map_some]; rw [h y (by rw [ho]; simp [Op.operands])]
    have hm : mx.map ρ = mx.map ρ' := by cases mx with | none => rfl | some y => simp only [Option.map_some]; rw [h y (by rw [ho]; simp [Op.operands])]
    simp only [quiet, ho]
    rw [← ho, hall, hx, hl, hh, hm, hex (by simp [ho])]
  | binOp op t x y u =>
    have hx : ρ x = ρ' x := h x (by rw [ho]; simp [Op.operands])
    have hy : ρ y = ρ' y := h y (by rw [ho]; simp [Op.operands])
    simp only [quiet, ho]
    rw [hx, hy, hex (by simp [ho])]
  | unOp op t x => simp only [quiet, ho]; rw [← ho, hall, hex (by simp [ho])]
  | index t x y => simp only [quiet, ho]; rw [← ho, hall, hex (by simp [ho])]
  | convert s d x =>
    have hx : ρ x = ρ' x := h x (by rw [ho]; simp [Op.operands])
    simp only [quiet, ho]
    rw [hx, hex (by simp [ho])]
  | call c =>
    simp only [quiet, ho]
    rw [← ho, hall, hex (by simp [ho])]
    have hargs : ∀ x ∈ c.args.toList, ρ x = ρ' x := fun x hx => h x (by rw [ho]; simp [Op.operands, Call.operands]; exact .inr (Array.mem_def.2 hx))
    have hget : ∀ x, lget c.args.toList 0 = some x → ρ x = ρ' x := fun x hx => hargs x (by rw [lget_eq] at hx; exact List.mem_of_getElem? hx)
    split
    · split
      · rename_i hx _; rw [hget _ hx]
      · rfl
    · split
      · rename_i hx _; rw [hget _ hx]
      · rfl
    · rfl
    · rfl
    · split
      · rename_i hx; rw [hargs _ (by rw [hx]; simp)]
      · rfl
    · rfl
  | _ =>
    first
    | (simp only [quiet, ho]; done)
    | (rw [ho] at h; simp only [Op.operands] at h; simp only [quiet, ho]; simp_all; done)

theorem insP_congr (h : ∀ x ∈ o.op.operands, ρ x = ρ' x) : insP C ρ o = insP C ρ' o := by
  cases ho : o.op with
  | insert t m k x =>
    have h1 : ρ m = ρ' m := h m (by rw [ho]; simp [Op.operands])
    have h2 : ρ k = ρ' k := h k (by rw [ho]; simp [Op.operands])
    have h3 : ρ x = ρ' x := h x (by rw [ho]; simp [Op.operands])
    simp only [insP, ho]; rw [h1, h2, h3]
  | _ => simp only [insP, ho]
end

/-! ## values spelled the same -/
theorem eqv_list {n : Nat} (ih : ∀ a b, eqv n a b = true → a = b) : ∀ (a b : List Value), a.length = b.length → (∀ x y, (x, y) ∈ a.zip b → eqv n x y = true) → a = b
  | [], [], _, _ => rfl
  | [], _ :: _, h, _ => by simp at h
  | _ :: _, [], h, _ => by simp at h
  | x :: xs, y :: ys, h, ha => by
    rw [ih _ _ (ha x y (by simp)), eqv_list ih xs ys (by simpa using h) (fun a b hab => ha a b (by simp [hab]))]

theorem eqv_eq : ∀ (n : Nat) (a b : Value), eqv n a b = true → a = b := by
  intro n
  induction n with
  | zero =>
    intro a b h
    unfold eqv at h
    split at h <;> simp_all
    exact ba_eq (by simpa using h)
  | succ n ih =>
    intro a b h
    unfold eqv at h
    split at h <;> simp_all
    · exact ba_eq (by simpa using h)
    · exact ⟨eqv_list ih _ _ h.1.1.1.2 h.1.1.2, eqv_list ih _ _ h.1.2 h.2⟩
    · exact ih _ _ h.2
    · exact eqv_list ih _ _ h.1 h.2
    · exact eqv_list ih _ _ h.1 h.2
end Go.Abs
