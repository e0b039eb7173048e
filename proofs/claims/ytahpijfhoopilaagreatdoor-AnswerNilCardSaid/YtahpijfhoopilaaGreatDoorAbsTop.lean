/-
  THE ABSTRACT MACHINE: what a run of it tells of a call.
-/
import Derived.Test.YtahpijfhoopilaaGreatDoorAbsAstep4
set_option linter.unusedSectionVars false
set_option linter.unusedVariables false
set_option linter.unusedSimpArgs false
namespace Go.Abs
open Go
variable [Ops]

/-- the call of a function from some heap on: what it returns -/
def outcomeS (E : Env) (f : FuncId) (args : List Value) (H : AHeap) (nx : Nat) (n : Nat) : Option Value :=
  match enterF E f args .normal with
  | some fr => match run E n { top := fr, callers := [], heap := H, next := nx } with
    | some s => match atEnd s && Nat.beq s.top.fn f, s.top.kind, E.fns.get f with
      | true, .normal, some fn => match resultsL E.toCtx s.heap s.top.tmps fn.results.toList with
        | some vs => match af (oneV vs) with
          | true => some (oneV vs)
          | false => none
        | none => none
      | _, _, _ => none
    | none => none
  | none => none

theorem calls_of_start {E : Env} (ok : E.Ok) {f : FuncId} {n : Nat} {v : Value} {args args' : List Value} {H : AHeap} {nx : Nat} {w : World} {β : BM} (hr : HR E.toCtx w.heap.size w β H nx w) (hG : GOk β E.ng) (ha : LR β args args')
    (h : outcomeS E f args H nx n = some v) : Calls E.P f ⟨args'⟩ w fun e w' => e = .returned v ∧ RowKit.Below w.heap.size w w' := by
  intro cs
  unfold outcomeS at h
  split at h
  · rename_i fr0 hfr0
    split at h
    · rename_i s hrun
      split at h
      · rename_i fn hend hkind hfn
        split at h
        · rename_i vs hvs
          split at h
          · rename_i haf
            cases h
            simp only [Bool.and_eq_true] at hend
            have hf := Nat.eq_of_beq_eq_true hend.2
            have hat := hend.1
            unfold atEnd at hat
            simp only [Bool.and_eq_true, List.isEmpty_iff] at hat
            obtain ⟨⟨hret, hcal⟩, hdef⟩ := hat
            obtain ⟨k1, k2⟩ := enterF_sound ok hfr0 ha (H := H) (Hs := H) (nx := nx) false
            have hSR : SR E w.heap.size w cs false β H { top := fr0, callers := [], heap := H, next := nx } (Frame.enter E.P f ⟨args'⟩ .normal) cs w := by
              refine ⟨hr, fun _ _ h => h, hG, k1, .nil, ?_⟩
              show (fblocks fr0 ++ []).Nodup
              rw [k2]; simp
            obtain ⟨β', Hs', fr', cs', w', hst, _, hS⟩ := run_sound ok n hSR hrun
            have hrest := hS.rest
            rw [hcal] at hrest
            generalize hc' : cs' = c at hrest
            cases hrest
            have hn := hS.inN (hS.top.ret_todo hret)
            have hm : fr'.mode = .returning := by rw [hn.mode, hret]; rfl
            have hdl := hS.top.base.defers
            rw [hdef] at hdl
            have hd' : fr'.defers = [] := by
              generalize fr'.defers = q at hdl
              cases hdl; rfl
            have hP := ok.ctx.fns _ _ hfn
            have hff : fr'.fn = f := hS.top.base.fn.trans hf
            have hvs' : resultsL E.toCtx Hs' s.top.tmps fn.results.toList = some vs := by
              have : ∀ (rs : List ResultVar) (vs : List Value), resultsL E.toCtx s.heap s.top.tmps rs = some vs → resultsL E.toCtx Hs' s.top.tmps rs = some vs := by
                intro rs
                induction rs with
                | nil => intro vs h; exact h
                | cons r rs ih =>
                  intro vs hx
                  cases r with
                  | tmp t =>
                    simp only [resultsL] at hx ⊢
                    split at hx
                    · rename_i us hu; rw [ih _ hu]; exact hx
                    · cases hx
                  | cell a t =>
                    simp only [resultsL] at hx ⊢
                    split at hx
                    · split at hx
                      · rename_i hv hu; rw [loadV_sub hS.sub hv, ih _ hu]; exact hx
                      · cases hx
                    · cases hx
              exact this _ _ hvs
            obtain ⟨v', hr, hv⟩ := results_sound ok.ctx hS.hr hn.tmps hvs'
            have := hv.af_eq haf
            subst this
            subst hc'
            exact ⟨.returned (oneV vs), w', fr', ⟨rfl, hS.hr.below⟩, hst, hff, hm, hd', hS.top.base.kind.trans hkind, fn, by rw [hff]; exact hP, hr⟩
          · cases h
        · cases h
      · cases h
    · cases h
  · cases h

/-- nothing is known as yet -/
theorem HR.empty (C : Ctx) (w : World) : HR C w.heap.size w (fun _ => none) .nil 0 w :=
  ⟨fun b x hx => by (simp [BT.get] at hx), fun b b' x x' i i' hx => by (simp [BT.get] at hx), fun b i hi => by (cases hi), fun _ _ => rfl, RowKit.Below.refl _ _, Nat.le_refl _⟩

theorem LR.of_af {β : BM} : ∀ {l : List Value}, l.all af = true → LR β l l
  | [], _ => .nil
  | x :: xs, h => by simp at h; exact .cons (VR.of_af h.1) (LR.of_af (by simpa using h.2))

/-- a call whose arguments know no blocks -/
theorem calls_of_outcome {E : Env} (ok : E.Ok) (hng : E.ng = 0) {f : FuncId} {n : Nat} {v : Value} {args : List Value} (ha : args.all af = true) (h : outcomeS E f args .nil 0 n = some v) (w : World) :
    Calls E.P f ⟨args⟩ w fun e w' => e = .returned v ∧ RowKit.Below w.heap.size w w' :=
  calls_of_start ok (HR.empty _ w) (fun g hg => by rw [hng] at hg; exact absurd hg (Nat.not_lt_zero _)) (LR.of_af ha) h

/-- a call that is given one block to read -/
theorem HR.one (C : Ctx) {w : World} {k : Nat} {c : Array Value} {et : TypeId} {fz : Nat × Nat} {l : List Value} (hk : w.heap[k]? = some (.cells c et fz)) (hl : c.toList = l) (ha : l.all atom = true) :
    HR C w.heap.size w (BM.set (fun _ => none) 0 ⟨k, 0, c.size, 0⟩) (hput .nil 0 (.cells l et 2)) 1 w := by
  have hlt : k < w.heap.size := by
    rcases Nat.lt_or_ge k w.heap.size with h | h
    · exact h
    · rw [Array.getElem?_eq_none h] at hk; cases hk
  have live : ∀ b x, (hput .nil 0 (.cells l et 2)).get b = some x → b = 0 ∧ x = .cells l et 2 := fun b x hx => by
    by_cases e : 0 = b
    · subst e
      rw [hput_same (by decide)] at hx
      cases hx; exact ⟨rfl, rfl⟩
    · rw [hput_ne e] at hx; simp [BT.get] at hx
  refine ⟨fun b x hx => ?_, fun b b' x x' i i' hx hx' _ _ _ => ?_, fun b i hi => ?_, fun b hb => ?_, RowKit.Below.refl _ _, Nat.le_refl _⟩
  · obtain ⟨rfl, rfl⟩ := live b x hx
    refine ⟨_, BM.set_same _ _ _, c, fz, hk, ⟨rfl, fun j v hv => ⟨v, ?_, .atom ?_⟩, fun h => by omega, fun h => by omega, fun h => by omega⟩, fun h => by omega⟩
    · rw [← hl] at hv; simpa using hv
    · exact List.all_eq_true.1 ha v (List.mem_of_getElem? hv)
  · rw [(live b x hx).1, (live b' x' hx').1]
  · by_cases e : b = 0
    · subst e; rw [BM.set_same] at hi; cases hi; exact hlt
    · rw [BM.set_ne _ _ e] at hi; cases hi
  · exact BM.set_ne _ _ (show b ≠ 0 by omega)
end Go.Abs

/-
  THE ABSTRACT MACHINE: contracts.
-/
namespace Go.Abs
open Go
variable [Ops]

/-- what was there stays: so does all that is known -/
theorem HR.below_step {C : Ctx} {N0 : Nat} {w0 : World} {β : BM} {H : AHeap} {nx : Nat} {w w' : World} (h : HR C N0 w0 β H nx w) (hb : RowKit.Below w.heap.size w w') : HR C N0 w0 β H nx w' :=
  ⟨fun c y hc => let ⟨i, h1, h2⟩ := h.obj c y hc; ⟨i, h1, h2.mono (BM.le_refl _) (hb.block _ (h.lt _ _ h1)) (fun k hk => hb.block k (Nat.lt_of_lt_of_le hk h.n0))⟩, h.inj, fun b i hi => Nat.lt_of_lt_of_le (h.lt b i hi) hb.size, h.fresh,
    h.below.trans (hb.mono h.n0), Nat.le_trans h.n0 hb.size⟩

/-- a contract that returns a value that knows no blocks, and leaves alone what there was -/
theorem ConOk.of_af {C : Ctx} {g : FuncId} {c : Con}
    (h : ∀ {N0 : Nat} {w0 : World} {β : BM} {H : AHeap} {nx : Nat} {w : World} {args args' : List Value} {v : Value} {xs : List AObj}, HR C N0 w0 β H nx w → (∀ {H0 : AHeap}, Sub H0 H → LR β args args' → c H0 nx args = some (v, xs) →
      xs = [] ∧ af v = true ∧ Calls C.P g ⟨args'⟩ w fun e w' => e = .returned v ∧ RowKit.Below w.heap.size w w')) : ConOk C g c := by
  intro N0 w0 β H Hs nx w args args' v xs hr hs ha hc _
  obtain ⟨rfl, h1, h2⟩ := h hr hs ha hc
  refine h2.mono fun e w' ⟨he, hb⟩ => ⟨β, v, he, VR.of_af h1, BM.ext_refl _ _, hr.below_step hb⟩

/-- cells of a whole block -/
theorem HR.whole_cell {C : Ctx} {N0 : Nat} {w0 : World} {β : BM} {H H0 : AHeap} {nx : Nat} {w : World} (h : HR C N0 w0 β H nx w) (hs : Sub H0 H) {b : Nat} {l : List Value} {et : TypeId} (hg : H0.get b = some (.cells l et 0)) {i : BI} (hi : β b = some i)
    {j : Nat} {v : Value} (hv : l[j]? = some v) : i.base = 0 ∧ i.blk < w.heap.size ∧ ∃ v', w.cell? ⟨i.blk, j, none⟩ = some v' ∧ VR β v v' := by
  obtain ⟨i', hi', c, fz, h1, h2, _⟩ := h.obj b _ (hs _ _ hg)
  rw [hi] at hi'
  cases hi'
  obtain ⟨h3, h4⟩ := h2.whole rfl
  obtain ⟨v', h5, h6⟩ := h2.get j v hv
  refine ⟨h3, h.lt _ _ hi, v', ?_, h6⟩
  rw [cell?_cells h1 j]
  rw [h3, Nat.zero_add] at h5
  exact h5
end Go.Abs

/-
  A map's iterator: what comes next, whatever the tape says.
-/
namespace Go.Abs
open Go

set_option maxRecDepth 20000 in
/-- an entry that was not seen, or none, if all were seen -/
theorem next_run (P : Program) {w : World} {r m since last clock : Nat} {seen : Array Nat} {es : Array MapEntry} (t : TypeId) (h1 : w.heap[r]? = some (.mapIter (some m) since seen last)) (h2 : w.heap[m]? = some (.map es clock))
    (hb : ∀ e ∈ es, e.born < since) (hl : since ≤ last) :
    (∃ e ∈ es, e.born ∉ seen ∧ ∃ w1 : World, (w1 = w ∨ w1 = w.drew) ∧
      (Instr.next (.pointer (some ⟨r, 0, none⟩)) false t).run P w = .ok (.tuple #[.bool true, e.key, e.val]) { w1 with heap := w1.heap.setIfInBounds r (.mapIter (some m) since (seen.push e.born) clock) }) ∨
    ((∀ e ∈ es, e.born ∈ seen) ∧ (Instr.next (.pointer (some ⟨r, 0, none⟩)) false t).run P w = .ok (.tuple #[.bool false]) w) := by
  have g1 : (getObj r).run P w = .ok (.mapIter (some m) since seen last) w := by simp [getObj, Sem.run, h1]
  have g2 : (getObj m).run P w = .ok (.map es clock) w := by simp [getObj, Sem.run, h2]
  have hno : ¬ ((¬seen = #[] ∧ ¬es = #[]) ∧ ∀ (i : Nat) (x : i < es.size), last ≤ es[i].born) := fun ⟨⟨h3, h4⟩, h5⟩ => by
    have hpos : 0 < es.size := by
      rcases Nat.eq_zero_or_pos es.size with h | h
      · exact absurd (Array.eq_empty_of_size_eq_zero h) h4
      · exact h
    have := h5 0 hpos
    have := hb es[0] (Array.getElem_mem hpos)
    omega
  have hnew : (es.filter fun a => decide (since ≤ a.born) && !decide (a.born ∈ seen)) = #[] := by
    rw [Array.filter_eq_empty_iff]
    intro e he
    have := hb e he
    simp; omega
  have hmem : ∀ e, e ∈ (es.filter fun a => decide (a.born < since) && !decide (a.born ∈ seen)) → e ∈ es ∧ e.born ∉ seen := fun e he => by
    have := Array.mem_filter.1 he
    exact ⟨this.1, by simpa using (by simpa using this.2 : e.born < since ∧ e.born ∉ seen).2⟩
  by_cases hall : ∀ a : MapEntry, a ∈ es → a.born < since → a.born ∈ seen
  · have hempty : (es.filter fun a => decide (a.born < since) && !decide (a.born ∈ seen)) = #[] := by
      rw [Array.filter_eq_empty_iff]
      intro e he
      have := hall e he (hb e he)
      simp [this]
    refine .inr ⟨fun e he => hall e he (hb e he), ?_⟩
    simp [Instr.next, g1, g2, hno, hnew, hempty, choose, Sem.run, Question.forced, eq_true hall]
  · have hpos : 0 < (es.filter fun a => decide (a.born < since) && !decide (a.born ∈ seen)).size := by
      rcases Nat.eq_zero_or_pos (es.filter fun a => decide (a.born < since) && !decide (a.born ∈ seen)).size with h | h
      · exfalso
        apply hall
        intro a ha hlt
        have := Array.filter_eq_empty_iff.1 (Array.eq_empty_of_size_eq_zero h) a ha
        simpa [hlt] using this
      · exact h
    generalize hleft : (es.filter fun a => decide (a.born < since) && !decide (a.born ∈ seen)) = left at hmem hpos
    refine .inl ?_
    by_cases hone : left.size ≤ 1
    · have hm := hmem left[0] (Array.getElem_mem hpos)
      refine ⟨left[0], hm.1, hm.2, w, .inl rfl, ?_⟩
      have hc : (choose (.mapNext left.size)).run P w = .ok 0 w := by simp [choose, Sem.run, Question.forced, hone]
      simp [Instr.next, g1, g2, hno, hleft, hnew, eq_false hall, hc, hpos, setObj, Sem.run, h1]
    · have hlt : w.tape w.drawn (.mapNext left.size) % left.size < left.size := Nat.mod_lt _ hpos
      have hm := hmem _ (Array.getElem_mem hlt)
      refine ⟨_, hm.1, hm.2, w.drew, .inr rfl, ?_⟩
      have hc : (choose (.mapNext left.size)).run P w = .ok (w.tape w.drawn (.mapNext left.size) % left.size) w.drew := by
        show _ = Result.ok _ { w with drawn := w.drawn + 1 }
        simp [choose, Sem.run, Question.forced, hone, Question.cut]
      have h1' : w.drew.heap[r]? = some (.mapIter (some m) since seen last) := h1
      simp [Instr.next, g1, g2, hno, hleft, hnew, eq_false hall, hc, hlt, setObj, Sem.run, h1']
end Go.Abs
