/-
  THE ABSTRACT MACHINE: its steps (all of them).
-/
import Derived.Test.YtahpijfhoopilaaGreatDoorAbsAstep
set_option linter.unusedSectionVars false
set_option linter.unusedVariables false
set_option linter.unusedSimpArgs false
namespace Go.Abs
open Go Go.RowKit
variable [Ops]

section
variable {E : Env} (ok : E.Ok) {N0 : Nat} {w0 : World} {base : List Frame} {β : BM} {Hs : AHeap} {s s' : AState} {fr : Frame} {cs : List Frame} {w : World}

include ok in
theorem loopEnter_sound (h : SR E N0 w0 base false β Hs s fr cs w) (hnx : s.next + 2 < LIMIT) (hret : s.top.ret = false) {f : Operand} {params : Array Tmp} {assign body : Code} {k : List AItem}
    (ht : s.top.todo = .code (.rangeFunc f params assign body) :: k) (hx : loopEnter E s f params assign body k = some s') : Reaches E N0 w0 base β fr cs w s' := by
  have hn := h.inN (by rw [ht]; intro _ _ _ _ _ _ _ h; cases h)
  have hm : fr.mode = .run := by rw [hn.mode, hret]; rfl
  have htd := hn.todo
  rw [ht] at htd
  obtain ⟨fn', tmps', todo', defers', mode', kind', round'⟩ := fr
  simp only at hm htd
  subst hm
  cases htd with
  | cons hi hk =>
    cases hi
    rename_i k'
    unfold loopEnter at hx
    split at hx
    · rename_i g first captured htmp hev
      have hfv : VR β (.func (.func g) ⟨first⟩ ⟨captured⟩) (Frame.eval { fn := fn', tmps := tmps', todo := .code (.rangeFunc f params assign body) :: k', defers := defers', mode := .run, kind := kind', roundOf := round' } f) := by
        rw [← hev]
        cases f with
        | tmp t => exact ev_tmp (by simpa using hn.tmps.length) (VA.of_lr hn.tmps t)
        | func g => exact .func .nil .nil
        | const v => simp [isTmp] at htmp
        | global g => simp [isTmp] at htmp
      obtain ⟨first', captured', hfirst, hcap, hfe⟩ := hfv.func_inv
      have hfn := h.top.base.fn
      simp only at hfn
      have hround := h.top.base.round
      -- the call
      have hnd0 := h.nd
      have hfb0 := hn.todo.nob _ rfl
      rw [hfb0, List.nil_append] at hnd0
      split at hx
      · rename_i hro
        rw [hro] at hround
        cases round' with
        | some _ => exact hround.elim
        | none =>
          simp only [pushes] at hx
          split at hx
          · rename_i fr2 hfr2
            cases hx
            -- two new blocks
            have hn1 := h.hr.fresh s.next (Nat.le_refl _)
            let i1 : BI := ⟨w.heap.size, 0, 0, 0⟩
            have hr1 := h.hr.alloc (by omega) (.deferred (some [])) (i := i1) (x := .defs (some [])) rfl ⟨[], heap_alloc_new w _, h.hr.n0, .nil⟩
            have hle1 := BM.le_set β i1 hn1
            have hn2 := hr1.fresh (s.next + 1) (Nat.le_refl _)
            let i2 : BI := ⟨w.heap.size + 1, 0, 0, 0⟩
            let lp' : Loop := { state := .ready, pending := none, fn := fn', tmps := tmps', params, assign, body, defers := w.heap.size }
            have hle2 := BM.le_set (β.set s.next i1) i2 hn2
            have hle := BM.le_trans hle1 hle2
            have hr2 := hr1.alloc (by omega) (.loop lp') (i := i2) (x := .loop { state := .ready, pending := none, fn := s.top.fn, tmps := s.top.tmps, params := params.toList, assign, body, defers := s.next }) (by simp [i2])
              ⟨lp', by have := heap_alloc_new (w.alloc (.deferred (some []))) (.loop lp'); rwa [World.size_alloc] at this, Nat.le_succ_of_le h.hr.n0, rfl, rfl, hfn, hn.tmps.mono hle, rfl, rfl, rfl, i1, (show ((β.set s.next i1).set (s.next + 1) i2) s.next = some i1 from by rw [BM.set_ne _ _ (by omega)]; exact BM.set_same _ _ _), rfl⟩
            have hk1 : Keep s.next s.heap Hs (hput s.heap s.next (.defs (some []))) (hput Hs s.next (.defs (some []))) := Keep.new h.sub (by omega)
            have hk2 := Keep.new (nx := s.next + 1) (x := .loop { state := .ready, pending := none, fn := s.top.fn, tmps := s.top.tmps, params := params.toList, assign, body, defers := s.next }) hk1.sub (by omega)
            have hleft : ∀ bs : List Nat, (∀ b ∈ bs, b < s.next ∧ s.heap.get b = none) → Left bs β ((β.set s.next i1).set (s.next + 1) i2) s.heap (hput (hput s.heap s.next (.defs (some []))) (s.next + 1) (.loop { state := .ready, pending := none, fn := s.top.fn, tmps := s.top.tmps, params := params.toList, assign, body, defers := s.next })) Hs
                (hput (hput Hs s.next (.defs (some []))) (s.next + 1) (.loop { state := .ready, pending := none, fn := s.top.fn, tmps := s.top.tmps, params := params.toList, assign, body, defers := s.next })) := fun bs hbs b hb hbn => by
              have hlt := (hbs b hb).1
              exact ⟨by rw [hput_ne (by omega), hput_ne (by omega)]; exact hbn, by rw [hput_ne (by omega), hput_ne (by omega)], by rw [BM.set_ne _ _ (by omega), BM.set_ne _ _ (by omega)]⟩
            have hyield : VR ((β.set s.next i1).set (s.next + 1) i2) (.func (.yield (s.next + 1)) ⟨[]⟩ ⟨[]⟩) (.func (.yield (w.heap.size + 1)) ⟨[]⟩ ⟨[]⟩) := .yield (i := i2) (BM.set_same _ _ _)
            have hbody : ∃ fn c, E.fns.get g = some fn ∧ fn.body = some c := by
              unfold enterF at hfr2
              split at hfr2
              · rename_i fn hfn
                split at hfr2
                · rename_i c hc; exact ⟨fn, c, hfn, hc⟩
                · cases hfr2
              · cases hfr2
            obtain ⟨fn, c, hfng, hcb⟩ := hbody
            obtain ⟨k1, k2⟩ := enterF_sound ok hfr2 (((hfirst.mono hle).append (LR.cons hyield .nil)).append (hcap.mono hle)) (H := hput (hput s.heap s.next (.defs (some []))) (s.next + 1) (.loop { state := .ready, pending := none, fn := s.top.fn, tmps := s.top.tmps, params := params.toList, assign, body, defers := s.next }))
              (Hs := hput (hput Hs s.next (.defs (some []))) (s.next + 1) (.loop { state := .ready, pending := none, fn := s.top.fn, tmps := s.top.tmps, params := params.toList, assign, body, defers := s.next })) (nx := s.next + 2) false
            refine ⟨_, _, _, { fn := fn', tmps := tmps', todo := .inRangeFunc (w.heap.size + 1) :: k', defers := ⟨.collected w.heap.size, #[]⟩ :: defers', mode := .run, kind := kind', roundOf := none } :: cs, _, .one (step_lone_go ?_), hle, hr2, hk2.sub, h.glob.mono hle, k1, ?_, ?_⟩
            · have hen : (Instr.enterLoop fn' tmps' params assign body none).run E.P w = .ok (w.heap.size + 1, [⟨.collected w.heap.size, #[]⟩]) ((w.alloc (.deferred (some []))).alloc (.loop lp')) := by
                simp [Instr.enterLoop, lp']
              have hcall2 := fun w args => callFunc_body (w := w) ok hfng hcb args
              have hfe' : ∀ (t : List Item) (d : List Deferred), Frame.eval { fn := fn', tmps := tmps', todo := t, defers := d, mode := .run, kind := kind', roundOf := none } f = .func (.func g) ⟨first'⟩ ⟨captured'⟩ := fun t d => by rw [← hfe]; cases f <;> rfl
              have hconst : ∀ (fr : Frame) v, Frame.eval fr (.const v) = v := fun _ _ => rfl
              simp [stepG, stepG.exec, Sem.runT_eq, hen, stepG.apply, resolve, hfe', hconst, Deferred.ofValue, invoke, hcall2]
            · refine .cons ⟨⟨h.top.base.fn, h.top.base.kind, h.top.base.mode, ?_, .cons (.coll (i := i1) ?_) (h.top.base.defers.mono hle)⟩, .norm (hn.tmps.mono hle) (.cons (.inRange (i := i2) (BM.set_same _ _ _)) (hk.mono hle))⟩ (h.rest.keep hle (show s.next ≤ s.next + 2 by omega) (hleft _ h.rest.lt))
              · show OptR _ s.top.roundOf none
                rw [hro]; trivial
              · rw [BM.set_ne _ _ (by omega)]; exact BM.set_same _ _ _
            · show (fblocks fr2 ++ ([] ++ s.callers.flatMap fblocks)).Nodup
              rw [k2]; exact hnd0
          · cases hx
      · rename_i l0 hro
        rw [hro] at hround
        cases round' with
        | none => exact hround.elim
        | some b0 =>
          obtain ⟨i0, hi0, rfl⟩ := hround
          split at hx
          · rename_i r0 hg0
            obtain ⟨i0', r0', hi0', hlr0, hwl0, hgl0, _⟩ := h.setLoop (by omega) hg0
            rw [hi0] at hi0'
            cases hi0'
            simp only [pushes] at hx
            split at hx
            · rename_i fr2 hfr2
              cases hx
              have hn2 := h.hr.fresh s.next (Nat.le_refl _)
              let i2 : BI := ⟨w.heap.size, 0, 0, 0⟩
              let lp' : Loop := { state := .ready, pending := none, fn := fn', tmps := tmps', params, assign, body, defers := r0'.defers }
              have hle := BM.le_set β i2 hn2
              obtain ⟨jd, hjd, hjd'⟩ := hlr0.defers
              have hr2 := h.hr.alloc (by omega) (.loop lp') (i := i2) (x := .loop { state := .ready, pending := none, fn := s.top.fn, tmps := s.top.tmps, params := params.toList, assign, body, defers := r0.defers }) rfl
                ⟨lp', heap_alloc_new w _, h.hr.n0, rfl, rfl, hfn, hn.tmps.mono hle, rfl, rfl, rfl, jd, hle _ _ hjd, hjd'⟩
              have hk2 := Keep.new (nx := s.next) (x := .loop { state := .ready, pending := none, fn := s.top.fn, tmps := s.top.tmps, params := params.toList, assign, body, defers := r0.defers }) h.sub (by omega)
              have hyield : VR (β.set s.next i2) (.func (.yield s.next) ⟨[]⟩ ⟨[]⟩) (.func (.yield w.heap.size) ⟨[]⟩ ⟨[]⟩) := .yield (i := i2) (BM.set_same _ _ _)
              have hbody : ∃ fn c, E.fns.get g = some fn ∧ fn.body = some c := by
                unfold enterF at hfr2
                split at hfr2
                · rename_i fn hfn
                  split at hfr2
                  · rename_i c hc; exact ⟨fn, c, hfn, hc⟩
                  · cases hfr2
                · cases hfr2
              obtain ⟨fn, c, hfng, hcb⟩ := hbody
              obtain ⟨k1, k2⟩ := enterF_sound ok hfr2 (((hfirst.mono hle).append (LR.cons hyield .nil)).append (hcap.mono hle)) (H := hput s.heap s.next (.loop { state := .ready, pending := none, fn := s.top.fn, tmps := s.top.tmps, params := params.toList, assign, body, defers := r0.defers }))
                (Hs := hput Hs s.next (.loop { state := .ready, pending := none, fn := s.top.fn, tmps := s.top.tmps, params := params.toList, assign, body, defers := r0.defers })) (nx := s.next + 1) false
              refine ⟨_, _, _, { fn := fn', tmps := tmps', todo := .inRangeFunc w.heap.size :: k', defers := defers', mode := .run, kind := kind', roundOf := some i0.blk } :: cs, _, .one (step_lone_go ?_), hle, hr2, hk2.sub, h.glob.mono hle, k1, ?_, ?_⟩
              · have hen : (Instr.enterLoop fn' tmps' params assign body (some i0.blk)).run E.P w = .ok (w.heap.size, []) (w.alloc (.loop lp')) := by
                  simp [Instr.enterLoop, lp', hgl0]
                have hcall2 := fun w args => callFunc_body (w := w) ok hfng hcb args
                have hfe' : ∀ (t : List Item) (d : List Deferred), Frame.eval { fn := fn', tmps := tmps', todo := t, defers := d, mode := .run, kind := kind', roundOf := some i0.blk } f = .func (.func g) ⟨first'⟩ ⟨captured'⟩ := fun t d => by rw [← hfe]; cases f <;> rfl
                have hconst : ∀ (fr : Frame) v, Frame.eval fr (.const v) = v := fun _ _ => rfl
                simp [stepG, stepG.exec, Sem.runT_eq, hen, stepG.apply, resolve, hfe', hconst, Deferred.ofValue, invoke, hcall2]
              · refine .cons ⟨⟨h.top.base.fn, h.top.base.kind, h.top.base.mode, ?_, h.top.base.defers.mono hle⟩, .norm (hn.tmps.mono hle) (.cons (.inRange (i := i2) (BM.set_same _ _ _)) (hk.mono hle))⟩ (h.rest.keep hle (show s.next ≤ s.next + 1 by omega) (Left.keep hk2 (BM.ext_set β i2 hn2) h.rest.lt))
                show OptR _ s.top.roundOf (some i0.blk)
                rw [hro]; exact ⟨i0, hle _ _ hi0, rfl⟩
              · show (fblocks fr2 ++ ([] ++ s.callers.flatMap fblocks)).Nodup
                rw [k2]; exact hnd0
            · cases hx
          · cases hx
    · cases hx
end
end Go.Abs
