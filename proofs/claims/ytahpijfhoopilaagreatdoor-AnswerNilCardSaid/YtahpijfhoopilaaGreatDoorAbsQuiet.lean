/-
  THE ABSTRACT MACHINE: its quiet operations do what the model's do.
-/
import Derived.Test.YtahpijfhoopilaaGreatDoorAbsRel
import Derived.Laws.Rows
import Derived.Orders
set_option linter.unusedSectionVars false
set_option linter.unusedVariables false
set_option linter.unusedSimpArgs false
namespace Go.Abs
open Go Go.RowKit
variable [Ops]

/-- the tables are the program's -/
structure Ctx.Ok (C : Ctx) : Prop where
  ty : ∀ t i, C.ty.get t = some i → C.P.info? t = some i
  fns : ∀ f fn, C.fns.get f = some fn → C.P.funcs[f]? = some fn

theorem und_sound {C : Ctx} (ok : C.Ok) {t : TypeId} {d : TypeDesc} (h : und C t = some d) : C.P.underlying t = some d := by
  unfold und at h
  cases hi : C.ty.get t with
  | none => simp [hi] at h
  | some i =>
    rw [hi] at h
    have h1 := ok.ty _ _ hi
    unfold Program.underlying
    rw [h1]
    cases i with
    | mk desc str size bytes hp al fal zero cmp ms =>
      cases desc with
      | named n u =>
        simp only at h ⊢
        cases hu : C.ty.get u with
        | none => simp [hu] at h
        | some j =>
          rw [hu] at h
          simp only [Option.some.injEq] at h
          rw [ok.ty _ _ hu, ← h]
          rfl
      | _ => simpa using h

theorem size_sound {C : Ctx} (ok : C.Ok) {t : TypeId} {n : Nat} (h : size? C t = some n) : ∃ i, C.P.info? t = some i ∧ i.size = n := by
  unfold size? at h
  cases hi : C.ty.get t with
  | none => simp [hi] at h
  | some i => rw [hi] at h; exact ⟨i, ok.ty _ _ hi, by simpa using h⟩

theorem zero_sound {C : Ctx} (ok : C.Ok) {t : TypeId} {z : Value} (h : zero? C t = some z) : ∃ i, C.P.info? t = some i ∧ i.zero = some z := by
  unfold zero? at h
  cases hi : C.ty.get t with
  | none => simp [hi] at h
  | some i =>
    simp only [hi] at h
    cases hz : i.zero with
    | none => simp [hz] at h
    | some y =>
      simp only [hz] at h
      cases ha : af y with
      | false => simp [ha] at h
      | true => simp only [ha, Option.some.injEq] at h; subst h; exact ⟨i, ok.ty _ _ hi, hz⟩

theorem zero_af {C : Ctx} {t : TypeId} {z : Value} (h : zero? C t = some z) : af z = true := by
  unfold zero? at h
  split at h
  · split at h
    · split at h
      · rename_i ha; cases h; exact ha
      · cases h
    · cases h
  · cases h

section runs
variable {C : Ctx} (ok : C.Ok) (w : World)
include ok
theorem run_und {t : TypeId} {d : TypeDesc} (h : und C t = some d) : (underlying t).run C.P w = .ok d w := by
  simp [underlying, und_sound ok h]
theorem run_size {t : TypeId} {n : Nat} (h : size? C t = some n) : (sizeOf t).run C.P w = .ok n w := by
  obtain ⟨i, h1, h2⟩ := size_sound ok h
  simp [sizeOf, typeInfo, h1, h2]
theorem run_zero {t : TypeId} {z : Value} (h : zero? C t = some z) : (zeroValue t).run C.P w = .ok z w := by
  obtain ⟨i, h1, h2⟩ := zero_sound ok h
  simp [zeroValue, typeInfo, h1, h2]
theorem run_isAgg {t : TypeId} {d : TypeDesc} (h : und C t = some d) : (isAgg t).run C.P w = .ok (aggD d) w := by
  simp only [isAgg, Sem.run_bind, run_und ok w h, Result.andThen_ok]
  cases d <;> rfl
end runs

/-! ## cells -/
section cells
variable {C : Ctx} (ok : C.Ok) {N0 : Nat} {w0 : World} {β : BM} {H : AHeap} {nx : Nat} {w : World}

theorem getCells_spec {b : Nat} {l : List Value} (h : getCells H b = some l) : ∃ et kind, H.get b = some (.cells l et kind) := by
  unfold getCells at h
  cases e : H.get b with
  | none => simp [e] at h
  | some x =>
    rw [e] at h
    cases x <;> simp at h
    subst h
    exact ⟨_, _, rfl⟩

theorem cell?_cells {b : Nat} {c : Array Value} {et : TypeId} {fz : Nat × Nat} (hc : w.heap[b]? = some (.cells c et fz)) (o : Nat) : w.cell? ⟨b, o, none⟩ = c[o]? := by
  simp [World.cell?, hc]

theorem cell_of {i : BI} {l : List Value} {et : TypeId} {kind : Nat} (ho : OR C N0 β w i (.cells l et kind)) {o : Nat} {v : Value} (hv : l[o]? = some v) :
    ∃ v', w.cell? ⟨i.blk, i.base + o, none⟩ = some v' ∧ VR β v v' := by
  obtain ⟨c, fz, hc, hcr, _⟩ := ho
  obtain ⟨v', h1, h2⟩ := hcr.get o v hv
  refine ⟨v', ?_, h2⟩
  unfold World.cell?
  rw [hc]
  simpa using h1

/-- so many cells on end -/
theorem cells_of {i : BI} {l : List Value} {et : TypeId} {kind : Nat} (ho : OR C N0 β w i (.cells l et kind)) {o n : Nat} {vs : List Value} (hv : ltake? (ldrop l o) n = some vs) :
    ∃ vs', LR β vs vs' ∧ vs'.length = n ∧ ∀ (j : Nat) (u : Value), vs'[j]? = some u → w.cell? ((⟨i.blk, i.base + o, none⟩ : Addr).add j) = some u := by
  obtain ⟨c, fz, hc, hcr, _⟩ := ho
  rw [ldrop_eq] at hv
  obtain ⟨h1, h2⟩ := ltake?_spec hv
  have hlen : vs.length = n := by rw [h2, List.length_take]; omega
  have get : ∀ (j : Nat) (v : Value), vs[j]? = some v → ∃ v', c[i.base + o + j]? = some v' ∧ VR β v v' := fun j v hj => by
    rw [h2, List.getElem?_take] at hj
    split at hj
    · rw [List.getElem?_drop] at hj
      obtain ⟨v', e1, e2⟩ := hcr.get _ _ hj
      exact ⟨v', by rw [Nat.add_assoc]; exact e1, e2⟩
    · cases hj
  have hcs : ∀ j, j < n → i.base + o + j < c.size := fun j hj => by
    obtain ⟨v', e1, _⟩ := get j vs[j] (by rw [List.getElem?_eq_getElem (by omega)])
    rcases Nat.lt_or_ge (i.base + o + j) c.size with h | h
    · exact h
    · rw [Array.getElem?_eq_none h] at e1; cases e1
  have hl' : ((c.toList.drop (i.base + o)).take n).length = n := by
    rw [List.length_take, List.length_drop]
    cases n with
    | zero => simp
    | succ n => have := hcs n (by omega); simp; omega
  refine ⟨(c.toList.drop (i.base + o)).take n, LR.of_get (by rw [hl', hlen]) fun j v v' hj hj' => ?_, hl', fun j u hj => ?_⟩
  · obtain ⟨u, e1, e2⟩ := get j v hj
    rw [List.getElem?_take] at hj'
    split at hj'
    · rw [List.getElem?_drop, Array.getElem?_toList, e1] at hj'
      cases hj'
      exact e2
    · cases hj'
  · rw [List.getElem?_take] at hj
    split at hj
    · rw [List.getElem?_drop, Array.getElem?_toList] at hj
      rw [Addr.add_lit, cell?_cells hc]
      exact hj
    · cases hj

theorem loadV_sound (ok : C.Ok) (h : HR C N0 w0 β H nx w) {t : TypeId} {b o : Nat} {v : Value} (hv : loadV C H t b o = some v) :
    ∃ i v', β b = some i ∧ (loadVar t ⟨i.blk, i.base + o, none⟩).run C.P w = .ok v' w ∧ VR β v v' := by
  unfold loadV at hv
  cases hd : und C t with
  | none => simp [hd] at hv
  | some d =>
    simp only [hd] at hv
    cases ha : aggD d with
    | true =>
      simp only [ha] at hv
      cases hs : size? C t with
      | none => simp [hs] at hv
      | some n =>
        simp only [hs] at hv
        unfold readCells at hv
        cases hg : getCells H b with
        | none => simp [hg] at hv
        | some l =>
          simp only [hg] at hv
          cases hr : ltake? (ldrop l o) n with
          | none => simp [hr] at hv
          | some vs =>
            simp only [hr, Option.some.injEq] at hv
            subst hv
            obtain ⟨et, kind, hget⟩ := getCells_spec hg
            obtain ⟨i, hi, hor⟩ := h.obj _ _ hget
            obtain ⟨vs', h1, h2, h3⟩ := cells_of hor hr
            refine ⟨i, .agg ⟨vs'⟩, hi, ?_, .agg h1⟩
            have hl := run_loadCells_list (P := C.P) w ⟨i.blk, i.base + o, none⟩ vs' h3
            rw [h2] at hl
            simp [loadVar, run_isAgg ok w hd, ha, run_size ok w hs, hl]
    | false =>
      simp only [ha] at hv
      cases hg : getCells H b with
      | none => simp [hg] at hv
      | some l =>
        simp only [hg, lget_eq] at hv
        obtain ⟨et, kind, hget⟩ := getCells_spec hg
        obtain ⟨i, hi, hor⟩ := h.obj _ _ hget
        obtain ⟨v', h1, h2⟩ := cell_of hor hv
        exact ⟨i, v', hi, by simp [loadVar, run_isAgg ok w hd, ha, h1], h2⟩

theorem partV_sound (ok : C.Ok) {t : TypeId} {cs cs' : List Value} (hcs : LR β cs cs') {off : Nat} {v : Value} (hv : partV C t cs off = some v) :
    ∃ v', (part t ⟨cs'⟩ off).run C.P w = .ok v' w ∧ VR β v v' := by
  unfold partV at hv
  cases hd : und C t with
  | none => simp [hd] at hv
  | some d =>
    simp only [hd] at hv
    cases ha : aggD d with
    | true =>
      simp only [ha] at hv
      cases hs : size? C t with
      | none => simp [hs] at hv
      | some n =>
        simp only [hs, ldrop_eq] at hv
        cases hr : ltake? (cs.drop off) n with
        | none => simp [hr] at hv
        | some vs =>
          simp only [hr, Option.some.injEq] at hv
          subst hv
          obtain ⟨h1, h2⟩ := ltake?_spec hr
          subst h2
          refine ⟨.agg ((⟨cs'⟩ : Array Value).extract off (off + n)), by simp [part, run_isAgg ok w hd, ha, run_size ok w hs], ?_⟩
          have e : ((⟨cs'⟩ : Array Value).extract off (off + n)) = ⟨(cs'.drop off).take n⟩ := by
            apply Array.ext'
            simp [List.extract_eq_take_drop]
          rw [e]
          exact .agg ((hcs.drop off).take n)
    | false =>
      simp only [ha, lget_eq] at hv
      obtain ⟨v', h1, h2⟩ := hcs.get hv
      refine ⟨v', ?_, h2⟩
      have h1' : (⟨cs'⟩ : Array Value)[off]? = some v' := by simpa using h1
      simp [part, run_isAgg ok w hd, ha, h1']

/-- a new block of cells -/
theorem OR.new {l l' : List Value} (hl : LR β l l') (hn : β nx = none) (h0 : N0 ≤ w.heap.size) (et : TypeId) :
    OR C N0 (β.set nx ⟨w.heap.size, 0, l'.length, 0⟩) (w.alloc (.cells ⟨l'⟩ et)) ⟨w.heap.size, 0, l'.length, 0⟩ (.cells l et 0) := by
  refine ⟨⟨l'⟩, (0, 0), heap_alloc_new w _, ⟨by simp, fun j v hj => ?_, fun _ j _ hj => by omega, fun _ => h0, fun _ => ⟨rfl, by simp [hl.length]⟩⟩, fun h => by cases h⟩
  obtain ⟨v', h1, h2⟩ := hl.get hj
  exact ⟨v', by simpa using h1, h2.mono (BM.le_set β _ hn)⟩

end cells
end Go.Abs
