/-
  THE ABSTRACT MACHINE: its quiet operations, one by one: structs, slices made of parts, made slices.
-/
import Derived.Test.YtahpijfhoopilaaGreatDoorAbsQ2
set_option linter.unusedSectionVars false
set_option linter.unusedVariables false
set_option linter.unusedSimpArgs false
namespace Go.Abs
open Go Go.RowKit
variable [Ops]

theorem foldl_put (off : Nat) : ∀ (vs : List Value) (k : Nat) (cells : Array Value), off + k + vs.length ≤ cells.size →
    ((vs.zipIdx k).foldl (fun cs (x : Value × Nat) => cs.setIfInBounds (off + x.2) x.1) cells).toList = cells.toList.take (off + k) ++ vs ++ cells.toList.drop (off + k + vs.length)
  | [], k, cells, _ => by simp
  | v :: vs, k, cells, h => by
    simp only [List.length_cons] at h
    rw [List.zipIdx_cons, List.foldl_cons, foldl_put off vs (k + 1) _ (by simp; omega)]
    simp only [Array.toList_setIfInBounds, List.length_cons]
    have hk : off + k < cells.toList.length := by simp; omega
    have e1 : List.take (off + k + 1) (cells.toList.set (off + k) v) = cells.toList.take (off + k) ++ [v] := by
      have hk2 : off + k ≤ cells.size := by omega
      rw [List.set_eq_take_append_cons_drop, if_pos hk, List.take_append, List.length_take, Nat.min_eq_left (by simpa using hk2), show off + k + 1 - (off + k) = 1 from by omega]
      simp [List.take_take]
    have e2 : List.drop (off + k + 1 + vs.length) (cells.toList.set (off + k) v) = cells.toList.drop (off + k + 1 + vs.length) := by
      rw [List.drop_set_of_lt (by omega)]
    rw [show off + (k + 1) = off + k + 1 from by omega, e1, e2, show off + k + (vs.length + 1) = off + k + 1 + vs.length from by omega]
    simp

theorem fill_sound {β : BM} {ρ ρ' : Operand → Value} {place place' : Nat → Option (Nat × Nat)} (hp : ∀ i p, place i = some p → place' i = some p) :
    ∀ (ps : List (Nat × Operand)) (cs r : List Value) (cs' : Array Value), (∀ x ∈ ps, VR β (ρ x.2) (ρ' x.2)) → LR β cs cs'.toList →
      fillL place cs (ps.map fun p => (p.1, ρ p.2)) = some r → ∃ r', Instr.fill place' cs' (ps.map fun p => (p.1, ρ' p.2)) = some r' ∧ LR β r r'.toList
  | [], cs, r, cs', _, hc, h => by simp [fillL] at h; subst h; exact ⟨cs', rfl, hc⟩
  | (i, x) :: ps, cs, r, cs', hv, hc, h => by
    simp only [List.map_cons, fillL] at h
    cases hpl : place i with
    | none => simp [hpl] at h
    | some q =>
      obtain ⟨off, size⟩ := q
      simp only [hpl, llen_eq, Nat.add_zero] at h
      have hx : VR β (ρ x) (ρ' x) := hv (i, x) (by simp)
      split at h
      · rename_i hsz
        simp only [Bool.and_eq_true, Bool.not_eq_true'] at hsz
        have hcl := hx.cells hsz.2
        have hsz := Nat.eq_of_beq_eq_true hsz.1
        split at h
        · rename_i cs2 hput
          obtain ⟨h1, h2⟩ := lput?_spec hput
          have hlen : (ρ' x).cells.size = size := by rw [← hsz, hcl.length]; simp
          have hle := hc.length
          simp only [Array.length_toList] at hle
          have hfit : ¬ ((ρ' x).cells.size ≠ size ∨ off + (ρ' x).cells.size > cs'.size) := by rw [hlen]; omega
          simp only [List.map_cons, Instr.fill, hp _ _ hpl]
          rw [if_neg (by simpa using hfit)]
          refine fill_sound hp ps cs2 r _ (fun y hy => hv y (by simp [hy])) ?_ h
          have hf := foldl_put off (ρ' x).cells.toList 0 cs' (by simp [hlen]; omega)
          have e : (Array.foldl (fun cs (x : Value × Nat) => cs.setIfInBounds (off + x.2) x.1) cs' (ρ' x).cells.zipIdx) = ((ρ' x).cells.toList.zipIdx 0).foldl (fun cs (x : Value × Nat) => cs.setIfInBounds (off + x.2) x.1) cs' := by
            rw [← Array.foldl_toList, Array.toList_zipIdx]
          have hgoal : LR β cs2 (Array.foldl (fun cs (x : Value × Nat) => cs.setIfInBounds (off + x.2) x.1) cs' (ρ' x).cells.zipIdx).toList := by
            rw [e, hf, h2]
            simp only [Nat.add_zero]
            have hl2 : (cellsL (ρ x)).length = (ρ' x).cells.toList.length := hcl.length
            rw [← hl2]
            exact ((hc.take off).append hcl).append (hc.drop _)
          exact hgoal
        · cases h
      · cases h

theorem run_mapM {α γ : Type} {P : Program} {w : World} {f : α → Sem γ} {g : α → γ} : ∀ (l : List α), (∀ x ∈ l, (f x).run P w = .ok (g x) w) → (l.mapM f).run P w = .ok (l.map g) w
  | [], _ => by simp
  | x :: xs, h => by
    have ih := run_mapM xs fun y hy => h y (by simp [hy])
    simp [List.mapM_cons, h x (by simp), ih]

theorem run_mapMA {α γ : Type} {P : Program} {w : World} {f : α → Sem γ} {g : α → γ} (a : Array α) (h : ∀ x ∈ a.toList, (f x).run P w = .ok (g x) w) : (a.mapM f).run P w = .ok (a.map g) w := by
  rw [Array.mapM_eq_mapM_toList, Sem.run_map, run_mapM a.toList h]
  simp only [Result.andThen_ok]
  congr 1
  apply Array.ext'
  simp

/-- so many copies of a row on end, as the model makes them -/
theorem range_mod (l : List Value) (s : Nat) (hs : l.length = s) : ∀ n, (List.range (n * s)).map (fun i => (⟨l⟩ : Array Value)[i % s]!) = (List.replicate n l).flatten
  | 0 => by simp
  | n + 1 => by
    rw [show (n + 1) * s = s + n * s from by rw [Nat.add_mul]; omega, List.range_add, List.map_append, List.map_map, List.replicate_succ, List.flatten_cons, ← range_mod l s hs n]
    congr 1
    · apply List.ext_getElem
      · simp [hs]
      · intro i h1 h2
        simp only [List.length_map, List.length_range] at h1
        simp only [List.getElem_map, List.getElem_range, Nat.mod_eq_of_lt h1, Array.getElem!_eq_getD, Array.getD_eq_getD_getElem?]
        rw [Array.getElem?_eq_getElem (by simp; omega)]
        simp
    · apply List.map_congr_left
      intro i _
      simp

section
variable {C : Ctx} (ok : C.Ok) {N0 : Nat} {w0 : World} {β : BM} {H : AHeap} {nx nh : Nat} {w : World} (h : HR C N0 w0 β H nh w) (hn : β nx = none)
variable {ρ ρ' : Operand → Value} {o : Oper} (hρ : ∀ x ∈ o.op.operands, VR β (ρ x) (ρ' x)) {v : Value} {x? : Option AObj}

include ok hρ in
theorem q_build {t : TypeId} {parts : Array (Nat × Operand)} (ho : o.op = .build t parts) (hq : quiet C H nx ρ o = some (v, x?)) : QRes C N0 β nx w (execOp ρ' o) v x? := by
  have hp : ∀ x ∈ parts.toList, VR β (ρ x.2) (ρ' x.2) := fun x hx => hρ x.2 (by simp [ho, Op.operands]; exact ⟨x.1, by simpa using hx⟩)
  simp only [quiet, ho] at hq
  split at hq
  · rename_i z fields hz hd
    split at hq
    · rename_i l hall hf
      cases hq
      have hzl : LR β (cellsL z) z.cells.toList := (VR.of_af (zero_af hz)).cells (isAny_of_af (zero_af hz))
      let g : Field → Nat × Nat := fun f => (f.offset, (size? C f.type).getD 0)
      have hplaces : (Array.mapM (fun f : Field => Prod.mk f.offset <$> sizeOf f.type) fields).run C.P w = .ok (fields.map g) w := by
        refine run_mapMA fields fun f hf => ?_
        rw [List.all_eq_true] at hall
        have := hall f hf
        cases hs : size? C f.type with
        | none => simp [hs] at this
        | some n => simp [run_size ok w hs, g, hs]
      obtain ⟨r', h1, h2⟩ := fill_sound (β := β) (ρ := ρ) (ρ' := ρ') (place := fieldPlaceL C fields.toList) (place' := fun i => (fields.map g)[i]?) (fun i p hip => by
        unfold fieldPlaceL at hip
        rw [lget_eq] at hip
        split at hip
        · rename_i f hfi
          split at hip
          · rename_i n hsn
            cases hip
            have : fields[i]? = some f := by simpa using hfi
            simp [this, g, hsn]
          · cases hip
        · cases hip) parts.toList (cellsL z) l z.cells hp hzl hf
      refine ⟨.agg r', ?_, ?_⟩
      · have h1' : Instr.fill (fun i => (fields.map g)[i]?) z.cells (parts.toList.map fun p => (p.1, ρ' p.2)) = some r' := h1
        simp only [Array.getElem?_map] at h1'
        simp [execOp, ho, Instr.build, run_zero ok w hz, run_und ok w hd, hplaces, h1']
      · obtain ⟨r'⟩ := r'
        exact .agg h2
    · cases hq
  · cases hq

end
end Go.Abs
