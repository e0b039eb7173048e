/-
  THE ABSTRACT MACHINE: an operation that was carried out early is carried out.
-/
import Derived.Test.YtahpijfhoopilaaGreatDoorAbsCong
set_option linter.unusedSectionVars false
set_option linter.unusedVariables false
set_option linter.unusedSimpArgs false
namespace Go.Abs
open Go
variable [Ops]

/-! ## steps of the model's machine -/
section steps
variable {P : Program} {fr : Frame} {cs : List Frame} {w w' : World} {ops : Array Oper} {i : Nat} {rest : List Nat} {k : List Item} {o : Oper}

theorem stepG_opF (hm : fr.mode = .run) (ht : fr.todo = .inRegion ops (i :: rest) :: k) (ho : ops[i]? = some o) (hw : Region.wanted o (yielded ops fr.tmps) = true)
    (hd : ∀ c, fr.roundOf ≠ none → o.op ≠ .defer c) :
    stepG P true { frame := fr, callers := cs, status := .running, dying := none } w = stepG.apply P true fr cs none (execOp fr.eval o) w := by
  obtain ⟨fn, tmps, todo, defers, mode, kind, round⟩ := fr
  simp only at hm ht hw hd
  subst hm ht
  simp only [stepG, stepG.exec, ho, Option.map_some, hw, Option.getD_some, if_true, stepG.oper, Frame.oper?]
  cases round with
  | none => rfl
  | some l =>
    cases hop : o.op <;> first | rfl | exact absurd hop (hd _ (by simp))

theorem step_value (hm : fr.mode = .run) (ht : fr.todo = .inRegion ops (i :: rest) :: k) (ho : ops[i]? = some o) (hw : Region.wanted o (yielded ops fr.tmps) = true)
    (hd : ∀ c, fr.roundOf ≠ none → o.op ≠ .defer c) {n : Next} {v : Value} (hr : (execOp fr.eval o).run P w = .ok n w') (hn : n = .value v ∨ (n = .skip ∧ v = undef)) :
    step P (lone fr cs w) = .next (lone (fr.finish v) cs w') := by
  refine step_lone_go ?_
  rw [stepG_opF hm ht ho hw hd]
  rcases hn with rfl | ⟨rfl, rfl⟩ <;> simp [stepG.apply, hr]

theorem step_unwanted (hm : fr.mode = .run) (ht : fr.todo = .inRegion ops (i :: rest) :: k) (ho : ops[i]? = some o) (hw : Region.wanted o (yielded ops fr.tmps) = false) :
    step P (lone fr cs w) = .next (lone (fr.finish undef) cs w) := by
  refine step_lone_go ?_
  obtain ⟨fn, tmps, todo, defers, mode, kind, round⟩ := fr
  simp only at hm ht hw
  subst hm ht
  simp [stepG, stepG.exec, ho, hw]

theorem step_region_out (hm : fr.mode = .run) (ht : fr.todo = .inRegion ops [] :: k) : step P (lone fr cs w) = .next (lone { fr with todo := k } cs w) := by
  refine step_lone_go ?_
  obtain ⟨fn, tmps, todo, defers, mode, kind, round⟩ := fr
  simp only at hm ht
  subst hm ht
  simp [stepG, stepG.exec]
end steps

/-! ## an entry is put into a map whose order nobody knows -/
theorem Bool.beq_comm' {α : Type} [BEq α] [LawfulBEq α] (a b : α) : (b == a) = (a == b) := by
  cases h1 : a == b with
  | true => have := eq_of_beq h1; subst this; exact h1
  | false =>
    cases h2 : b == a with
    | false => rfl
    | true => have := eq_of_beq h2; subst this; rw [h2] at h1; cases h1

theorem sameKey_symm {a b : Value} {r : Bool} (h : sameKey a b = some r) : sameKey b a = some r := by
  unfold sameKey at h ⊢
  split at h
  · rename_i k x k' y
    split at h
    · rename_i e; subst e
      simp only [if_true]
      rw [← h]; congr 1
      exact Bool.beq_comm' _ _
    · cases h
  · rw [← h]; congr 1
    rw [ba_beq, ba_beq]
    exact Bool.beq_comm' _ _
  · rw [← h]; congr 1
    exact Bool.beq_comm' _ _
  · cases h

theorem findU_none {k : Value} : ∀ {es : List (Value × Value × Nat)}, (∀ e ∈ es, sameKey k e.1 = some false) → findU k es = some none
  | [], _ => rfl
  | e :: es, h => by
    obtain ⟨k', v, n⟩ := e
    have h1 := h _ List.mem_cons_self
    simp only at h1
    simp only [findU, h1, findU_none (fun e he => h e (List.mem_cons_of_mem _ he))]

section
variable {C : Ctx} (ok : C.Ok) {N0 : Nat} {w0 : World} {β : BM} {H : AHeap} {nx : Nat} {w : World}
variable (h : HR C N0 w0 β H nx w) (hnx : nx < LIMIT) {ρ ρ' : Operand → Value} {o : Oper} (hρ : ∀ x ∈ o.op.operands, VR β (ρ x) (ρ' x))

include ok h hnx hρ in
theorem insert_sound {b : Nat} {k0 v0 : Value} (hp : insP C ρ o = some (b, k0, v0)) {es es2 : List (Value × Value × Nat)} {clock : Nat} (hg : H.get b = some (.map es clock false))
    (hkeys : ∀ e ∈ es, sameKey k0 e.1 = some false) (hperm : ((k0, v0, 0) :: es).Perm es2) :
    ∃ w', (execOp ρ' o).run C.P w = .ok .skip w' ∧ HR C N0 w0 β (Abs.hput H b (.map es2 (clock + 1) false)) nx w' := by
  unfold insP at hp
  split at hp
  · rename_i t m k x hop
    have hm := hρ m (by simp [hop, Op.operands])
    have hk := hρ k (by simp [hop, Op.operands])
    have hx := hρ x (by simp [hop, Op.operands])
    split at hp
    · rename_i b2 kt el hmv hd
      split at hp
      · rename_i kd hkd
        split at hp
        · rename_i hkD
          simp only [Option.some.injEq, Prod.mk.injEq] at hp
          obtain ⟨rfl, rfl, rfl⟩ := hp
          rw [hmv] at hm
          obtain ⟨i, hi, e'⟩ := hm.map_inv
          obtain ⟨j, hj, es', h1, h2, ⟨es1, hp1, _, her⟩, hbo⟩ := h.obj _ _ hg
          rw [hi] at hj
          cases hj
          have ek := keyD_eq hkD hk
          have hfu : findU (ρ k) es1 = some none := findU_perm hp1.symm (findU_none hkeys)
          obtain ⟨r', h3, h4⟩ := findU_sound hkD her 0 hfu
          cases r' with
          | some _ => exact h4.elim
          | none =>
            have hck : (Instr.checkKey false 10000 kt (ρ k)).run C.P w = .ok () w := run_checkKey ok hkd hkD false 9999
            have hgo : (getObj i.blk).run C.P w = .ok (.map es' clock) w := by simp [getObj, Sem.run, h1]
            have hfk := run_findKey (w := w) ok hkd h3
            obtain ⟨w', h5, h6⟩ := setObj_sound (x' := .map es2 (clock + 1) false) h hnx hg hi h2 h1 (fun _ _ _ e => by cases e) (.map (es'.push { key := ρ k, val := ρ' x, born := clock }) (clock + 1))
              (fun w' hw' => ⟨_, hw', h2, ⟨es1 ++ [(ρ k, ρ x, 0)], ((hp1.append_right _).trans (List.perm_append_comm.trans hperm)), fun e => by (cases e), by
                rw [Array.toList_push]; exact her.append (.cons (keyD_atom hkD) hx (fun e => by cases e) .nil)⟩, by rw [Array.toList_push]; exact hbo.push _ _⟩)
            refine ⟨w', ?_, h6⟩
            simp [execOp, hop, Instr.mapUpdate, run_und ok w hd, e', ek, hgo, hck, hfk, h5]
        · cases hp
      · cases hp
    · cases hp
  · cases hp

/-- a block is made that had its number before -/
theorem HR.allocAt (h : HR C N0 w0 β H nx w) {b : Nat} (hb : b < nx) (hn : β b = none) (hbl : b < LIMIT) (o : Obj) {i : BI} {x : AObj}
    (hi : i.blk = w.heap.size) (ho : OR C N0 (β.set b i) (w.alloc o) i x) : HR C N0 w0 (β.set b i) (Abs.hput H b x) nx (w.alloc o) := by
  have hle := BM.le_set β i hn
  have old : ∀ k, k < w.heap.size → (w.alloc o).heap[k]? = w.heap[k]? := fun k hk => RowKit.Below.heap_alloc w o k hk
  refine ⟨fun c y hc => ?_, fun c d y y' j j' hc hd hj hj' e => ?_, fun c j hc => ?_, fun c hc => ?_, h.below.alloc h.n0 _, by simp; have := h.n0; omega⟩
  · by_cases e : b = c
    · subst e
      rw [hput_same hbl] at hc
      cases hc
      exact ⟨i, BM.set_same _ _ _, ho⟩
    · rw [hput_ne e] at hc
      obtain ⟨j, hj, hoj⟩ := h.obj c y hc
      exact ⟨j, hle _ _ hj, hoj.mono hle (old _ (h.lt _ _ hj)) (fun k hk => old k (Nat.lt_of_lt_of_le hk h.n0))⟩
  · by_cases e1 : b = c
    · by_cases e2 : b = d
      · exact e1.symm.trans e2
      · exfalso
        subst e1
        rw [BM.set_same] at hj
        rw [BM.set_ne _ _ (fun e => e2 e.symm)] at hj'
        cases hj
        have := h.lt _ _ hj'
        omega
    · by_cases e2 : b = d
      · exfalso
        subst e2
        rw [BM.set_same] at hj'
        rw [BM.set_ne _ _ (fun e => e1 e.symm)] at hj
        cases hj'
        have := h.lt _ _ hj
        omega
      · rw [hput_ne e1] at hc
        rw [hput_ne e2] at hd
        rw [BM.set_ne _ _ (fun e => e1 e.symm)] at hj
        rw [BM.set_ne _ _ (fun e => e2 e.symm)] at hj'
        exact h.inj c d y y' j j' hc hd hj hj' e
  · by_cases e : c = b
    · subst e
      rw [BM.set_same] at hc
      cases hc
      simp [hi]
    · rw [BM.set_ne _ _ e] at hc
      have := h.lt _ _ hc
      simp; omega
  · rw [BM.set_ne _ _ (by omega)]
    exact h.fresh c hc
end

/-! ## pending ones -/
theorem insOf_nil {b : Nat} : ∀ {L : List Pend}, (∀ p ∈ L, ∀ k v, p.ins ≠ some (b, k, v)) → insOf b L = []
  | [], _ => rfl
  | p :: ps, h => by
    have ih := insOf_nil (b := b) (L := ps) (fun q hq => h q (List.mem_cons_of_mem _ hq))
    unfold insOf
    split
    · rename_i c k v hp
      split
      · rename_i hc
        have := Nat.eq_of_beq_eq_true hc
        subst this
        exact absurd hp (h p List.mem_cons_self k v)
      · exact ih
    · exact ih

theorem insOf_mem {b : Nat} : ∀ {L : List Pend} {e : Value × Value × Nat}, e ∈ insOf b L → ∃ p ∈ L, p.ins = some (b, e.1, e.2.1)
  | [], e, h => by simp [insOf] at h
  | p :: ps, e, h => by
    unfold insOf at h
    split at h
    · rename_i c k v hp
      split at h
      · rename_i hc
        have := Nat.eq_of_beq_eq_true hc
        subst this
        rcases List.mem_cons.1 h with rfl | h
        · exact ⟨p, List.mem_cons_self, hp⟩
        · obtain ⟨q, h1, h2⟩ := insOf_mem h; exact ⟨q, List.mem_cons_of_mem _ h1, h2⟩
      · obtain ⟨q, h1, h2⟩ := insOf_mem h; exact ⟨q, List.mem_cons_of_mem _ h1, h2⟩
    · obtain ⟨q, h1, h2⟩ := insOf_mem h; exact ⟨q, List.mem_cons_of_mem _ h1, h2⟩

theorem insOf_filter {b : Nat} {D D' : Nat → Bool} : ∀ {L : List Pend}, (∀ p ∈ L, D' p.i = D p.i ∨ ∀ k v, p.ins ≠ some (b, k, v)) →
    insOf b (L.filter fun p => D' p.i) = insOf b (L.filter fun p => D p.i)
  | [], _ => rfl
  | p :: ps, h => by
    have ih := insOf_filter (b := b) (D := D) (D' := D') (L := ps) (fun q hq => h q (List.mem_cons_of_mem _ hq))
    rcases h p List.mem_cons_self with h1 | h1
    · simp only [List.filter_cons, h1]
      split
      · unfold insOf; rw [ih]
      · exact ih
    · have skip : ∀ L, insOf b (p :: L) = insOf b L := fun L => by
        conv => lhs; unfold insOf
        split
        · rename_i c k v hp
          split
          · rename_i hc
            have := Nat.eq_of_beq_eq_true hc
            subst this
            exact absurd hp (h1 k v)
          · rfl
        · rfl
      simp only [List.filter_cons]
      split <;> split <;> simp only [skip, ih]

theorem insOf_put {b : Nat} {k v : Value} {D : Nat → Bool} {j : Nat} : ∀ {L : List Pend} {p : Pend}, (L.map (·.i)).Nodup → p ∈ L → p.i = j → D j = false → p.ins = some (b, k, v) →
    ((k, v, 0) :: insOf b (L.filter fun p => D p.i)).Perm (insOf b (L.filter fun p => Nat.beq p.i j || D p.i))
  | [], p, _, hp, _, _, _ => by cases hp
  | q :: L, p, hnd, hp, hj, hD, hi => by
    simp only [List.map_cons, List.nodup_cons] at hnd
    rcases List.mem_cons.1 hp with rfl | hp
    · have hrest : (L.filter fun p => Nat.beq p.i j || D p.i) = L.filter fun p => D p.i := List.filter_congr fun r hr => by
        have : r.i ≠ j := fun e => hnd.1 (List.mem_map.2 ⟨r, hr, by rw [e, hj]⟩)
        have : Nat.beq r.i j = false := by
          cases hb : Nat.beq r.i j with
          | false => rfl
          | true => exact absurd (Nat.eq_of_beq_eq_true hb) this
        rw [this]; rfl
      have h1 : (Nat.beq p.i j || D p.i) = true := by rw [hj, Nat.beq_refl]; rfl
      have h2 : D p.i = false := by rw [hj]; exact hD
      rw [List.filter_cons, List.filter_cons, h1, h2, hrest]
      simp only [if_true, Bool.false_eq_true, if_false]
      have : insOf b (p :: L.filter fun p => D p.i) = (k, v, 0) :: insOf b (L.filter fun p => D p.i) := by
        conv => lhs; unfold insOf
        rw [hi]; simp only [Nat.beq_refl]
      rw [this]
    · have ih := insOf_put hnd.2 hp hj hD hi
      have hq : Nat.beq q.i j = false := by
        cases hb : Nat.beq q.i j with
        | false => rfl
        | true =>
          exfalso
          exact hnd.1 (List.mem_map.2 ⟨p, hp, by rw [hj]; exact (Nat.eq_of_beq_eq_true hb).symm⟩)
      simp only [List.filter_cons, hq, Bool.false_or]
      split
      · have two : ∀ L, insOf b (q :: L) = (match q.ins with | some (c, k, v) => if Nat.beq c b then (k, v, 0) :: insOf b L else insOf b L | none => insOf b L) := fun L => by
          conv => lhs; unfold insOf
          split
          · split <;> simp_all
          · simp_all
        rw [two, two]
        split
        · split
          · exact (List.Perm.swap _ _ _).trans (ih.cons _)
          · exact ih
        · exact ih
      · exact ih

theorem llen0 {α : Type} (l : List α) : llen l 0 = l.length := by rw [llen_eq]; omega

theorem pend_eq : ∀ {L : List Pend}, (L.map (·.i)).Nodup → ∀ {p q : Pend}, p ∈ L → q ∈ L → p.i = q.i → p = q
  | [], _, p, q, hp, _, _ => by cases hp
  | r :: L, hnd, p, q, hp, hq, e => by
    simp only [List.map_cons, List.nodup_cons] at hnd
    rcases List.mem_cons.1 hp with hp1 | hp1
    · rcases List.mem_cons.1 hq with hq1 | hq1
      · rw [hp1, hq1]
      · exact absurd (List.mem_map.2 ⟨q, hq1, by rw [← e, hp1]⟩) hnd.1
    · rcases List.mem_cons.1 hq with hq1 | hq1
      · exact absurd (List.mem_map.2 ⟨p, hp1, by rw [e, hq1]⟩) hnd.1
      · exact pend_eq hnd.2 hp1 hq1 e

theorem block_eq : ∀ {L : List Pend}, (pblocks L).Nodup → ∀ {p q : Pend} {b : Nat} {x y : AObj}, p ∈ L → q ∈ L → p.obj = some (b, x) → q.obj = some (b, y) → p = q
  | [], _, p, q, _, _, _, hp, _, _, _ => by cases hp
  | r :: L, hnd, p, q, b, x, y, hp, hq, e1, e2 => by
    have hr : (pblocks L).Nodup ∧ ∀ z, r.obj = some (b, z) → b ∉ pblocks L := by
      unfold pblocks at hnd ⊢
      rw [List.filterMap_cons] at hnd
      split at hnd
      · rename_i hn
        exact ⟨hnd, fun z hz => by rw [hz] at hn; simp at hn⟩
      · rename_i c hc
        rw [List.nodup_cons] at hnd
        refine ⟨hnd.2, fun z hz => ?_⟩
        rw [hz] at hc
        simp at hc
        rw [hc]; exact hnd.1
    rcases List.mem_cons.1 hp with hp1 | hp1
    · rcases List.mem_cons.1 hq with hq1 | hq1
      · rw [hp1, hq1]
      · exact absurd (mem_pblocks hq1 e2) (hr.2 _ (by rw [← hp1]; exact e1))
    · rcases List.mem_cons.1 hq with hq1 | hq1
      · exact absurd (mem_pblocks hp1 e1) (hr.2 _ (by rw [← hq1]; exact e2))
      · exact block_eq hr.1 hp1 hq1 e1 e2
end Go.Abs
