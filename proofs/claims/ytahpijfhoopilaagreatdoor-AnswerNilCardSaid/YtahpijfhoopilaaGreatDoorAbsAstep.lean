/-
  THE ABSTRACT MACHINE: its steps.
-/
import Derived.Test.YtahpijfhoopilaaGreatDoorAbsDstep2
set_option linter.unusedSectionVars false
set_option linter.unusedVariables false
set_option linter.unusedSimpArgs false
namespace Go.Abs
open Go
variable [Ops]

theorem TR.nob {β : BM} {k : List AItem} {k' : List Item} (h : TR β k k') (top : AFrame) (ht : top.todo = k) : fblocks top = [] := by
  unfold fblocks
  rw [ht]
  cases h with
  | nil => rfl
  | cons hi _ => cases hi <;> rfl

theorem exitTo_sound {β : BM} {id : Nat} {k : List AItem} {k' : List Item} (h : TR β k k') :
    (∀ k2, Abs.exitTo id k = some k2 → ∃ k2', Go.exitTo id k' = some k2' ∧ TR β k2 k2') ∧ (Abs.exitTo id k = none → Go.exitTo id k' = none) := by
  induction h with
  | nil => exact ⟨fun k2 h => by (cases h), fun _ => rfl⟩
  | cons hi hk ih =>
    cases hi with
    | inBlock id' =>
      unfold Abs.exitTo Go.exitTo
      cases hb : Nat.beq id' id with
      | true =>
        have := Nat.eq_of_beq_eq_true hb
        subst this
        simp only [beq_self_eq_true, if_true]
        exact ⟨fun k2 h => by cases h; exact ⟨_, rfl, hk⟩, fun h => by cases h⟩
      | false =>
        have : (id' == id) = false := by
          cases h : id' == id with
          | false => rfl
          | true => rw [eq_of_beq h, Nat.beq_refl] at hb; cases hb
        simp only [this, Bool.false_eq_true, if_false]
        exact ih
    | _ => unfold Abs.exitTo Go.exitTo; exact ih

section
variable {E : Env} (ok : E.Ok) {N0 : Nat} {w0 : World} {base : List Frame} {β : BM} {Hs : AHeap} {s s' : AState} {fr : Frame} {cs : List Frame} {w : World}

/-- the frame on top is at an item that is no region that draws its order -/
structure InN (s : AState) (fr : Frame) (β : BM) : Prop where
  tmps : LR β s.top.tmps fr.tmps.toList
  todo : TR β s.top.todo fr.todo
  mode : fr.mode = if s.top.ret then .returning else .run

theorem SR.inN {wait : Bool} (h : SR E N0 w0 base wait β Hs s fr cs w) (hd : ∀ ops bef done cur pend chk k, s.top.todo ≠ .dreg ops bef done cur pend chk :: k) : InN s fr β := by
  have h1 := h.top.todo
  have hm := h.top.base.mode
  generalize hq : s.top.todo = q at h1
  generalize hq' : fr.todo = q' at h1
  cases h1 with
  | norm hl hk => exact ⟨hl, by rw [hq, hq']; exact hk, hm⟩
  | dreg _ _ _ => exact absurd hq (hd _ _ _ _ _ _ _)

theorem SR.to (h : SR E N0 w0 base false β Hs s fr cs w) (hn : InN s fr β) {k2 : List AItem} {k2' : List Item} (hk : TR β k2 k2') (hst : step E.P (lone fr cs w) = .next (lone { fr with todo := k2' } cs w)) :
    Reaches E N0 w0 base β fr cs w { s with top := { s.top with todo := k2 } } := by
  refine ⟨β, Hs, _, cs, w, .one hst, BM.le_refl _, h.hr, h.sub, h.glob, ⟨⟨h.top.base.fn, h.top.base.kind, h.top.base.mode, h.top.base.round, h.top.base.defers⟩, .norm hn.tmps hk⟩, h.rest, ?_⟩
  have := h.nd
  rw [hn.todo.nob _ rfl] at this
  show (fblocks { s.top with todo := k2 } ++ _).Nodup
  rw [hk.nob _ rfl]
  exact this

/-- a live block that is no cells is another one -/
theorem SR.setLoop {wait : Bool} (h : SR E N0 w0 base wait β Hs s fr cs w) (hnx : s.next < LIMIT) {l : Nat} {r : ALoop} (hg : getLoop s.heap l = some r) : ∃ i r', β l = some i ∧ LoopR β r r' ∧ w.heap[i.blk]? = some (.loop r') ∧
    (Instr.getLoop i.blk).run E.P w = .ok r' w ∧
    ∀ (r2 : ALoop) (r2' : Loop), LoopR β r2 r2' → ∃ w' Hs', (setObj i.blk (.loop r2')).run E.P w = .ok () w' ∧ HR E.toCtx N0 w0 β Hs' s.next w' ∧ Sub (hput s.heap l (.loop r2)) Hs' ∧
      (∀ bs : List Nat, Left bs β β s.heap (hput s.heap l (.loop r2)) Hs Hs') := by
  unfold Abs.getLoop at hg
  split at hg
  · rename_i r1 hg1
    cases hg
    have hgs := h.sub _ _ hg1
    obtain ⟨i, hi, r', h1, h2, h3⟩ := h.hr.obj _ _ hgs
    have hlt : l < LIMIT := Nat.lt_trans (h.hr.lt_nx hi) hnx
    refine ⟨i, r', hi, h3, h1, by simp [Instr.getLoop, getObj, Sem.run, h1], fun r2 r2' hr2 => ?_⟩
    obtain ⟨w', k1, k2⟩ := setObj_sound (C := E.toCtx) (x' := .loop r2) h.hr hnx hgs hi h2 h1 (fun _ _ _ e => by cases e) (.loop r2') (fun w' hw' => ⟨r2', hw', h2, hr2⟩)
    refine ⟨w', _, k1, k2, fun c y hc => ?_, fun bs b hb hn => ?_⟩
    · by_cases e : l = c
      · subst e; rw [hput_same hlt] at hc ⊢; exact hc
      · rw [hput_ne e] at hc ⊢; exact h.sub c y hc
    · have e : l ≠ b := fun e => by subst e; rw [hg1] at hn; cases hn
      exact ⟨by rw [hput_ne e]; exact hn, hput_ne e, rfl⟩
  · cases hg

/-- a caller goes on -/
theorem SR.back (h : SR E N0 w0 base false β Hs s fr cs w) (hn : InN s fr β) {c c2 : AFrame} {cs2 : List AFrame} (hcs : s.callers = c :: cs2) {v v' : Value} (hf : finish c v = some c2) (hv : VR β v v')
    {H' Hs' : AHeap} {w' : World} (hr : HR E.toCtx N0 w0 β Hs' s.next w') (hs : Sub H' Hs') (hl : ∀ bs : List Nat, Left bs β β s.heap H' Hs Hs') :
    ∃ c' cs2', cs = c' :: cs2' ∧ (step E.P (lone fr cs w) = .next (lone (c'.finish v') cs2' w') → Reaches E N0 w0 base β fr cs w { s with top := c2, callers := cs2, heap := H' }) := by
  have hrest := h.rest
  rw [hcs] at hrest
  cases hrest with
  | cons hc hcs' =>
    rename_i c' cs2'
    refine ⟨c', cs2', rfl, fun hst => ?_⟩
    obtain ⟨hf1, hf2⟩ := (hc.keep (BM.le_refl _) (Nat.le_refl _) (hl _)).finish hf hv
    refine ⟨β, Hs', _, cs2', w', .one hst, BM.le_refl _, hr, hs, h.glob, hf1, hcs'.keep (BM.le_refl _) (Nat.le_refl _) (hl _), ?_⟩
    have := h.nd
    rw [hn.todo.nob _ rfl, hcs, List.nil_append, List.flatMap_cons] at this
    show (fblocks c2 ++ _).Nodup
    rw [hf2]; exact this

theorem leave_sound (h : SR E N0 w0 base false β Hs s fr cs w) (hnx : s.next < LIMIT) (hn : InN s fr β) (hret : s.top.ret = false) {jump : Option Code} (hx : leave s jump = some s')
    (hexec : ∀ (fr2 : Frame) (w : World), fr2 = fr → (stepG E.P true { frame := fr2, callers := cs, status := .running, dying := none } w) =
      (match fr2.roundOf with
      | none => if jump matches none | some .ret then GStep.go { frame := { fr2 with mode := .returning }, callers := cs, status := .running, dying := none } w else .ended (.stuck "exit, goto: no such block or label" (fr2.pos E.P)) w
      | some l =>
        let (r, es) := (Instr.endRound l jump).runT E.P w #[]
        GStep.after (seen E.P fr2.fn es) <| match r with
        | .ok v w => doReturn E.P true fr2 cs none v w
        | .halt _ w => .ended (.stuck "range over a function: no such loop" (fr2.pos E.P)) w)) :
    Reaches E N0 w0 base β fr cs w s' := by
  have hm : fr.mode = .run := by rw [hn.mode, hret]; rfl
  unfold leave at hx
  split at hx
  · rename_i hround
    have hfr : fr.roundOf = none := by
      have := h.top.base.round
      rw [hround] at this
      cases hx : fr.roundOf with
      | none => rfl
      | some _ => rw [hx] at this; exact this.elim
    have go : step E.P (lone fr cs w) = .next (lone { fr with mode := .returning } cs w) → Reaches E N0 w0 base β fr cs w { s with top := { s.top with ret := true } } := fun hst => by
      refine ⟨β, Hs, _, cs, w, .one hst, BM.le_refl _, h.hr, h.sub, h.glob, ⟨⟨h.top.base.fn, h.top.base.kind, rfl, h.top.base.round, h.top.base.defers⟩, .norm hn.tmps hn.todo⟩, h.rest, ?_⟩
      exact h.nd
    split at hx
    · cases hx
      refine go (step_lone_go ?_)
      rw [hexec fr w rfl, hfr]; rfl
    · cases hx
      refine go (step_lone_go ?_)
      rw [hexec fr w rfl, hfr]; rfl
    · cases hx
  · rename_i l hround
    split at hx
    · rename_i r c cs2 hg hcs hkind
      split at hx
      · rename_i c2 hf
        cases hx
        obtain ⟨i, r', hi, hlr, hwl, hgl, hset⟩ := h.setLoop hnx hg
        obtain ⟨w', Hs', k1, k2, k3, k4⟩ := hset { r with state := if jump.isNone then .ready else .done, pending := jump } { r' with state := if jump.isNone then .ready else .done, pending := jump }
          ⟨rfl, rfl, hlr.fn, hlr.tmps, hlr.params, hlr.assign, hlr.body, hlr.defers⟩
        have hfr : fr.roundOf = some i.blk := by
          have := h.top.base.round
          rw [hround] at this
          cases hx : fr.roundOf with
          | none => rw [hx] at this; exact this.elim
          | some k =>
            rw [hx] at this
            obtain ⟨j, hj, hjk⟩ := this
            rw [hi] at hj
            cases hj
            rw [hjk]
        have hk : fr.kind = .normal := h.top.base.kind.trans hkind
        have hend : (Instr.endRound i.blk jump).run E.P w = .ok (.bool jump.isNone) w' := by
          simp only [Instr.endRound, Sem.run_bind, hgl, k1, Result.andThen]
          rfl
        obtain ⟨c', cs2', rfl, hgo⟩ := h.back hn hcs hf (.atom rfl) k2 k3 k4 (v' := .bool jump.isNone)
        refine hgo (step_lone_go ?_)
        rw [hexec fr w rfl, hfr]
        simp [Sem.runT_eq, hend, doReturn, hk]
      · cases hx
    · cases hx
end
end Go.Abs

/-
  THE ABSTRACT MACHINE: its steps (returning; loops over functions).
-/
namespace Go.Abs
open Go
variable [Ops]

section
variable {E : Env} (ok : E.Ok) {N0 : Nat} {w0 : World} {base : List Frame} {β : BM} {Hs : AHeap} {s s' : AState} {fr : Frame} {cs : List Frame} {w : World}

def resOne (tm' : Array Value) : ResultVar → Sem Value
  | .tmp t => pure (tm'.getD t undef)
  | .cell a t => do loadVar t (← asAddr (tm'.getD a undef))

theorem results_eq (fn : Func) (tm' : Array Value) : results fn tm' = (do let vs ← fn.results.mapM (resOne tm'); pure (if h : vs.size = 1 then vs[0] else .tuple vs)) := by
  unfold results
  congr 1

theorem resultsL_sound {C : Ctx} (ok : C.Ok) {H : AHeap} {nx : Nat} (h : HR C N0 w0 β H nx w) {tm : List Value} {tm' : Array Value} (hl : LR β tm tm'.toList) :
    ∀ (rs : List ResultVar) {vs : List Value}, resultsL C H tm rs = some vs → ∃ vs', (rs.mapM (resOne tm')).run C.P w = .ok vs' w ∧ LR β vs vs'
  | [], vs, hx => by cases hx; exact ⟨[], by simp, .nil⟩
  | .tmp t :: rs, vs, hx => by
    simp only [resultsL] at hx
    split at hx
    · rename_i us hu
      cases hx
      obtain ⟨us', k1, k2⟩ := resultsL_sound ok h hl rs hu
      refine ⟨tm'.getD t undef :: us', ?_, .cons (ev_tmp (by simpa using hl.length) (VA.of_lr hl t)) k2⟩
      rw [List.mapM_cons]
      simp only [resOne, pure_bind, Sem.run_bind, k1, Result.andThen]
      rfl
    · cases hx
  | .cell a t :: rs, vs, hx => by
    simp only [resultsL] at hx
    split at hx
    · rename_i b o hev
      split at hx
      · rename_i v us hv hu
        cases hx
        obtain ⟨us', k1, k2⟩ := resultsL_sound ok h hl rs hu
        have ha := ev_tmp (by simpa using hl.length) (VA.of_lr hl a)
        rw [hev] at ha
        obtain ⟨i, hi, e⟩ := ha.ptr_inv
        obtain ⟨j, v', hj, hrun, hvr⟩ := loadV_sound ok h hv
        rw [hi] at hj
        cases hj
        refine ⟨v' :: us', ?_, .cons hvr k2⟩
        rw [List.mapM_cons]
        simp only [resOne, e, asAddr, pure_bind, Sem.run_bind, hrun, k1, Result.andThen]
        rfl
      · cases hx
    · cases hx

theorem results_sound {C : Ctx} (ok : C.Ok) {H : AHeap} {nx : Nat} (h : HR C N0 w0 β H nx w) {tm : List Value} {tm' : Array Value} (hl : LR β tm tm'.toList) {fn : Func} {vs : List Value} (hx : resultsL C H tm fn.results.toList = some vs) :
    ∃ v', (results fn tm').run C.P w = .ok v' w ∧ VR β (oneV vs) v' := by
  obtain ⟨vs', k1, k2⟩ := resultsL_sound ok h hl _ hx
  refine ⟨if h : (vs'.toArray).size = 1 then vs'.toArray[0] else .tuple vs'.toArray, ?_, ?_⟩
  · rw [results_eq, Array.mapM_eq_mapM_toList, map_eq_pure_bind]
    simp only [bind_assoc, pure_bind, Sem.run_bind, k1, Result.andThen]
    rfl
  · cases k2 with
    | nil => simp [oneV]; exact .tuple .nil
    | cons hv hs =>
      cases hs with
      | nil => simpa [oneV] using hv
      | cons hv2 hs2 => simp [oneV]; exact .tuple (.cons hv (.cons hv2 hs2))

theorem FR.of_ret {C : Ctx} {ng : Nat} {H : AHeap} {nx : Nat} {wait wait' : Bool} {top : AFrame} (h : FR C ng β H Hs nx wait top fr) (hr : top.ret = true) : FR C ng β H Hs nx wait' top fr := by
  refine ⟨h.base, ?_⟩
  have h1 := h.todo
  generalize hq : top.todo = q at h1
  generalize hq' : fr.todo = q' at h1
  cases h1 with
  | norm hl hk => exact .norm hl hk
  | dreg h0 _ _ => rw [hr] at h0; cases h0

theorem FR.ret_todo {C : Ctx} {ng : Nat} {H : AHeap} {nx : Nat} {wait : Bool} {top : AFrame} (h : FR C ng β H Hs nx wait top fr) (hr : top.ret = true) : ∀ ops bef done cur pend chk k, top.todo ≠ .dreg ops bef done cur pend chk :: k := by
  intro ops bef done cur pend chk k ht
  have h1 := h.todo
  rw [ht] at h1
  generalize hq' : fr.todo = q' at h1
  cases h1 with
  | norm hl hk => cases hk with | cons hi _ => cases hi
  | dreg h0 _ _ => rw [hr] at h0; cases h0

include ok in
theorem returning_sound (h : SR E N0 w0 base false β Hs s fr cs w) (hnx : s.next < LIMIT) (hret : s.top.ret = true) (hx : returning E s = some s') : Reaches E N0 w0 base β fr cs w s' := by
  have hn := h.inN (h.top.ret_todo hret)
  have hm : fr.mode = .returning := by rw [hn.mode, hret]; rfl
  have hG : stepG E.P true { frame := fr, callers := cs, status := .running, dying := none } w = unwind E.P true fr cs none w := by
    simp [stepG, hm]
  have hdl := h.top.base.defers
  unfold returning at hx
  split at hx
  · rename_i b args ds hds
    rw [hds] at hdl
    generalize hq : fr.defers = q at hdl
    cases hdl with
    | cons hd hds' =>
      rename_i ds'
      cases hd with
      | coll hi =>
        rename_i i
        split at hx
        · rename_i l hg
          cases hx
          have hgs := h.sub _ _ hg
          obtain ⟨j, hj, l', h1, h2, h3⟩ := h.hr.obj _ _ hgs
          rw [hi] at hj
          cases hj
          have hlt : b < LIMIT := Nat.lt_trans (h.hr.lt_nx hi) hnx
          obtain ⟨w', k1, k2⟩ := setObj_sound (C := E.toCtx) (x' := .defs none) h.hr hnx hgs hi h2 h1 (fun _ _ _ e => by cases e) (.deferred none) (fun w' hw' => ⟨hw', h2⟩)
          have htk : (Instr.takeDeferred i.blk).run E.P w = .ok l' w' := by
            have : (getObj i.blk).run E.P w = .ok (.deferred (some l')) w := by simp [getObj, Sem.run, h1]
            simp [Instr.takeDeferred, this, k1]
          refine ⟨β, _, { fr with defers := l' ++ ds' }, cs, w', .one (step_lone_go ?_), BM.le_refl _, k2, ?_, h.glob, ⟨⟨h.top.base.fn, h.top.base.kind, h.top.base.mode, h.top.base.round, h3.append hds'⟩, .norm hn.tmps hn.todo⟩, h.rest.keep (BM.le_refl _) (Nat.le_refl _) ?_, h.nd⟩
          · rw [hG]
            simp [unwind, hq, Sem.runT_eq, htk]
          · intro c y hc
            by_cases e : b = c
            · subst e; rw [hput_same hlt] at hc ⊢; exact hc
            · rw [hput_ne e] at hc ⊢; exact h.sub c y hc
          · intro c hcm hcn
            have e : b ≠ c := fun e => by subst e; rw [hg] at hcn; cases hcn
            exact ⟨by rw [hput_ne e]; exact hcn, hput_ne e, rfl⟩
        · cases hx
  · rename_i f captured args ds hds
    rw [hds] at hdl
    generalize hq : fr.defers = q at hdl
    cases hdl with
    | cons hd hds' =>
      rename_i ds'
      cases hd with
      | fn hc ha =>
        rename_i c' a'
        simp only [pushes] at hx
        split at hx
        · rename_i fr2 hfr2
          cases hx
          have hbody : ∃ fn c, E.fns.get f = some fn ∧ fn.body = some c := by
            unfold enterF at hfr2
            split at hfr2
            · rename_i fn hfn
              split at hfr2
              · rename_i c hc; exact ⟨fn, c, hfn, hc⟩
              · cases hfr2
            · cases hfr2
          obtain ⟨fn, c, hfn, hcb⟩ := hbody
          obtain ⟨k1, k2⟩ := enterF_sound ok hfr2 (ha.append hc) (H := s.heap) (Hs := Hs) (nx := s.next) false
          refine ⟨β, Hs, _, { fr with defers := ds' } :: cs, w, .one (step_lone_go ?_), BM.le_refl _, h.hr, h.sub, h.glob, k1,
            .cons ⟨⟨h.top.base.fn, h.top.base.kind, h.top.base.mode, h.top.base.round, hds'⟩, .norm hn.tmps hn.todo⟩ h.rest, ?_⟩
          · have hrun : (invoke (.fn (.func f) ⟨c'⟩) ⟨a'⟩).run E.P w = .ok (.enter f ⟨a' ++ c'⟩) w := by
              have := callFunc_body (w := w) ok hfn hcb ⟨a' ++ c'⟩
              simpa [invoke] using this
            rw [hG]
            simp [unwind, hq, callDeferred, Sem.runT_eq, hrun]
          · have := h.nd
            show (fblocks fr2 ++ (fblocks { s.top with defers := ds } ++ _)).Nodup
            rw [k2, List.nil_append]
            exact this
        · cases hx
  · cases hx
  · rename_i hds
    rw [hds] at hdl
    generalize hq : fr.defers = q at hdl
    cases hdl with
    | nil =>
      split at hx
      · rename_i fn hfn
        split at hx
        · rename_i vs hvs
          have hP := ok.ctx.fns _ _ hfn
          rw [← h.top.base.fn] at hP
          -- the results, out of the blocks that there are
          have hvs' : resultsL E.toCtx Hs s.top.tmps fn.results.toList = some vs := by
            have : ∀ (rs : List ResultVar) (vs : List Value), resultsL E.toCtx s.heap s.top.tmps rs = some vs → resultsL E.toCtx Hs s.top.tmps rs = some vs := by
              intro rs
              induction rs with
              | nil => intro vs h; exact h
              | cons r rs ih =>
                intro vs hx
                cases r with
                | tmp t =>
                  simp only [resultsL] at hx ⊢
                  split at hx
                  · rename_i us hu; rw [ih _ hu]; exact hx
                  · cases hx
                | cell a t =>
                  simp only [resultsL] at hx ⊢
                  split at hx
                  · split at hx
                    · rename_i hv hu; rw [loadV_sub h.sub hv, ih _ hu]; exact hx
                    · cases hx
                  · cases hx
            exact this _ _ hvs
          obtain ⟨v', hrun, hv⟩ := results_sound ok.ctx h.hr hn.tmps hvs'
          split at hx
          · rename_i c cs2 hcs
            split at hx
            · rename_i hkind
              split at hx
              · rename_i c2 hf
                cases hx
                obtain ⟨c', cs2', rfl, hgo⟩ := h.back hn hcs hf hv h.hr h.sub (fun _ _ _ hn => ⟨hn, rfl, rfl⟩)
                have hk : fr.kind = .normal := h.top.base.kind.trans hkind
                refine hgo (step_lone_go ?_)
                rw [hG]
                simp [unwind, hq, hm, hP, Sem.runT_eq, hrun, doReturn, hk]
              · cases hx
            · rename_i hkind
              split at hx
              · rename_i hcret
                cases hx
                have hrest := h.rest
                rw [hcs] at hrest
                cases hrest with
                | cons hc hcs' =>
                  rename_i c' cs2'
                  have hk : fr.kind = .deferred := h.top.base.kind.trans hkind
                  have hcm : c'.mode = .returning := by have := hc.base.mode; rw [hcret] at this; simpa using this
                  refine ⟨β, Hs, c', cs2', w, .one (step_lone_go ?_), BM.le_refl _, h.hr, h.sub, h.glob, hc.of_ret hcret, hcs', ?_⟩
                  · rw [hG]
                    simp [unwind, hq, hm, hP, Sem.runT_eq, hrun, doReturn, hk, hcm]
                  · have := h.nd
                    rw [hn.todo.nob _ rfl, hcs, List.nil_append, List.flatMap_cons] at this
                    exact this
              · cases hx
            · cases hx
          · cases hx
        · cases hx
      · cases hx
end
end Go.Abs
