/-
  THE ABSTRACT MACHINE: the steps of a region that draws its order (the late ones; the end; the beginning).
-/
import Derived.Test.YtahpijfhoopilaaGreatDoorAbsDstep
set_option linter.unusedSectionVars false
set_option linter.unusedVariables false
set_option linter.unusedSimpArgs false
namespace Go.Abs
open Go
variable [Ops]

section
variable {E : Env} (ok : E.Ok) {N0 : Nat} {w0 : World} {base : List Frame} {β : BM} {Hs : AHeap} {s s' : AState} {fr : Frame} {cs : List Frame} {w : World}

include ok in
theorem dstep_sound (h : SR E N0 w0 base false β Hs s fr cs w) (hnx : s.next < LIMIT) {k : List AItem} {ops : Array Oper} {bef : List Nat} {done cur : Nat} {pend : List Pend}
    (ht : s.top.todo = .dreg ops bef done cur pend false :: k) (hx : dstep E s k ops bef done pend = some s') : Reaches E N0 w0 base β fr cs w s' := by
  obtain ⟨k', l, rest, hd⟩ := h.inD ht
  unfold dstep at hx
  split at hx
  · rename_i i hpick
    obtain ⟨o, _, ho, he, hn⟩ := pickOne_some hpick
    simp only [Nat.sub_zero] at ho
    rw [lget_eq, ho] at hx
    simp only at hx
    split at hx
    · rename_i hc
      simp only [Bool.and_eq_true] at hc
      have hap := hc.2
      rw [lnth_bf hd.d] at hap
      exact early_sound ok h hnx hd (by simpa using ho) he hn hc.1.1 hc.1.2 hap hx
    · cases hx
  · rename_i hnone
    obtain ⟨β1, Hs1, fr1, w1, l1, rest1, hst, hle1, h1, hd1, hcase⟩ := run_until ok hnx ht hnone k' rest.length β Hs fr w l rest (Nat.le_refl _) h hd
    have hlen : bef.length = ops.toList.length := by rw [hd.d.bef, befs_length]; simp
    have hfb := fblocks_dreg ht
    have hnd := h1.nd
    rw [hfb] at hnd
    have hdis : ∀ b ∈ s.callers.flatMap fblocks, b ∉ pblocks pend := fun b hb hb' => (List.nodup_append.1 hnd).2.2 b hb' b hb rfl
    split at hx
    · rename_i i hpick
      obtain ⟨o, _, ho, he, hn⟩ := pickOne_some hpick
      simp only [Nat.sub_zero] at ho
      rw [lget_eq, ho] at hx
      simp only at hx
      have ho' : ops[i]? = some o := by simpa using ho
      have hil : i < ops.size := (Array.getElem?_eq_some_iff.1 ho').1
      split at hx
      · rename_i hso
        split at hx
        · rename_i pend' H' hu
          split at hx
          · rename_i hap
            have hc : _ ∧ _ := ⟨hso, hap⟩
            rw [lnth_bf hd.d] at hu hc
            rcases hcase with rfl | ⟨j, r, o2, rfl, ho2, he2, hjd⟩
            · exfalso
              cases hd1.d.ord with
              | nil hready =>
                have := hd1.d.inv.sub i (all_listed hd1.d.size hd1.d.back hready i hil)
                rw [hn] at this; cases this
            · have hord := hd1.d.ord
              cases hord with
              | cons hready hord =>
                obtain ⟨hdn, o3, ho3, hedges, hbefore⟩ := ready_spec hd1.d.ec hd1.d.size hready
                have hji : j = i := by
                  have := sole_spec hlen hc.1 j o2 (by simpa using ho2) he2 (subset_of fun t ht => hd1.d.inv.sub t (hbefore t (by rw [← hd.d.bef]; exact ht))) (by simpa using hjd)
                  simpa using this
                subst hji
                rw [ho'] at ho2
                cases ho2
                obtain ⟨Hs2, hr2, hs2, hout, hpm, hpnd, hpsub, hi2, hb2, hh2⟩ := unlock_sound h1.hr hnx h1.sub hd1.d.inv hd1.d.blk (hd1.d.heap rfl rfl) (List.nodup_append.1 hnd).1 (fun t ht => hbefore t ht) hu
                have hSR : SR E N0 w0 base true β1 Hs2 { s with top := { s.top with todo := .dreg ops bef done j pend' false :: k }, heap := H' } fr1 cs w1 := by
                  refine ⟨hr2, hs2, h1.glob, ⟨⟨h1.top.base.fn, h1.top.base.kind, h1.top.base.mode, h1.top.base.round, h1.top.base.defers⟩, ?_⟩, h1.rest.keep (BM.le_refl _) (Nat.le_refl _) (fun b hb hn => ?_), ?_⟩
                  · show FT _ _ _ _ _ _ _ s.top.ret s.top.tmps _ fr1.tmps fr1.todo
                    rw [hd1.todo']
                    refine .dreg hd1.ret ⟨hd1.d.bef, hd1.d.back, hd1.d.size, hd1.d.ec, hd1.d.ord, hi2, hb2, fun _ h => (by cases h), fun _ => ⟨⟨r, o, rfl, ho', he, hc.2⟩, hn, fun p hp => (hpm p hp).2⟩⟩ hd1.k
                  · obtain ⟨m1, m2⟩ := hout b (hdis b hb)
                    exact ⟨by show H'.get b = none; rw [m1]; exact hn, m2, rfl⟩
                  · show (pblocks pend' ++ s.callers.flatMap fblocks).Nodup
                    refine List.nodup_append.2 ⟨hpnd, (List.nodup_append.1 hnd).2.1, fun a ha b hb => (List.nodup_append.1 hnd).2.2 a (hpsub a ha) b hb⟩
                have hAt : At { s with top := { s.top with todo := .dreg ops bef done j pend' false :: k }, heap := H' } fr1 ops j r k' o β1 := by
                  refine ⟨hd1.ret, hd1.todo', ho', hd1.d.inv.len, fun t htl => ?_⟩
                  rcases hi2.slot t with hv | ⟨q, hq, hqD, oq, hoq, hqd⟩
                  · exact hv
                  · exfalso
                    have := (apart_spec hc.2 q hq oq (by simpa using hoq)).1 t hqd htl
                    exact absurd (this.symm.trans (hpm q hq).2) (by simp)
                obtain ⟨β', Hs', fr', cs', w', k1, k1b, k2⟩ := execO_sound ok hSR hnx hAt hx
                exact ⟨β', Hs', fr', cs', w', hst.trans k1, BM.le_trans hle1 k1b, k2⟩
          · cases hx
        · cases hx
      · exact hold_sound h hnx hd ho' hn hx
    · rename_i hnone2
      split at hx
      · rename_i H' hfull hu
        cases hx
        have hall := full_spec hfull
        have hrest : rest1 = [] := by
          rcases hcase with h2 | ⟨j, r, o2, rfl, ho2, he2, hjd⟩
          · exact h2
          · exfalso
            rw [hall j (Array.getElem?_eq_some_iff.1 ho2).1] at hjd; cases hjd
        subst hrest
        have hord := hd1.d.ord
        cases hord with
        | nil hready =>
          have hD := all_listed hd1.d.size hd1.d.back hready
          obtain ⟨Hs2, hr2, hs2, hout, hpm, hpnd, hpsub, hi2, hb2, hh2⟩ := unlock_sound h1.hr hnx h1.sub hd1.d.inv hd1.d.blk (hd1.d.heap rfl rfl) (List.nodup_append.1 hnd).1
            (fun t ht => hD t (by rw [Nat.testBit_two_pow_sub_one] at ht; simpa using ht)) hu
          have hm : fr1.mode = .run := by have := h1.top.base.mode; rw [hd.ret] at this; simpa using this
          refine ⟨β1, Hs2, _, cs, w1, hst.trans (.one (step_region_out hm hd1.todo')), hle1, hr2, hs2, h1.glob, ⟨⟨h1.top.base.fn, h1.top.base.kind, h1.top.base.mode, h1.top.base.round, h1.top.base.defers⟩, ?_⟩,
            h1.rest.keep (BM.le_refl _) (Nat.le_refl _) (fun b hb hn => ?_), ?_⟩
          · refine .norm (LR.of_va hi2.len fun t => ?_) hd1.k
            rcases hi2.slot t with hv | ⟨q, hq, _⟩
            · exact hv
            · cases hq
          · obtain ⟨m1, m2⟩ := hout b (hdis b hb)
            exact ⟨by show H'.get b = none; rw [m1]; exact hn, m2, rfl⟩
          · show (fblocks { s.top with todo := k } ++ s.callers.flatMap fblocks).Nodup
            have hk := hd1.k
            have : fblocks { s.top with todo := k } = [] := by
              unfold fblocks
              cases hk with
              | nil => rfl
              | cons hi _ => cases hi <;> rfl
            rw [this, List.nil_append]
            exact (List.nodup_append.1 hnd).2.1
      · cases hx

theorem recheck_sound (h : SR E N0 w0 base false β Hs s fr cs w) {k : List AItem} {ops : Array Oper} {bef : List Nat} {done cur : Nat} {pend : List Pend}
    (ht : s.top.todo = .dreg ops bef done cur pend true :: k) (hx : recheck E.toCtx s.heap s.top.tmps ops.toList pend = true) :
    Reaches E N0 w0 base β fr cs w { s with top := { s.top with todo := .dreg ops bef done 0 pend false :: k } } := by
  obtain ⟨k', l, rest, hd⟩ := h.inD ht
  refine ⟨β, Hs, fr, cs, w, .refl _ _, BM.le_refl _, h.hr, h.sub, h.glob, ⟨⟨h.top.base.fn, h.top.base.kind, h.top.base.mode, h.top.base.round, h.top.base.defers⟩, ?_⟩, h.rest, ?_⟩
  · show FT _ _ _ _ _ _ _ s.top.ret s.top.tmps _ fr.tmps fr.todo
    rw [hd.todo']
    exact .dreg hd.ret (hd.d.recheck hx) hd.k
  · have := h.nd
    rw [fblocks_dreg hd.todo] at this
    exact this

include ok in
theorem region_sound (h : SR E N0 w0 base false β Hs s fr cs w) (hret : s.top.ret = false) {id : Nat} {ops : Array Oper} {k : List AItem} (ht : s.top.todo = .code (.region id ops true) :: k)
    (hb : edgesBack ops.toList 0 = true) : Reaches E N0 w0 base β fr cs w { s with top := { s.top with todo := .dreg ops (befs ops.toList []) 0 0 [] false :: k } } := by
  have h1 := h.top.todo
  rw [ht] at h1
  have hm : fr.mode = .run := by have := h.top.base.mode; rw [hret] at this; simpa using this
  obtain ⟨fn, tmps, todo, defers, mode, kind, round⟩ := fr
  simp only at h1 hm
  subst hm
  cases h1 with
  | norm hl hk =>
    cases hk with
    | cons hi hk =>
      cases hi
      rename_i k'
      refine ⟨β, Hs, { fn, tmps, todo := .inRegion ops (Region.linearise .any ops (w.tape w.drawn (.order fn id))) :: k', defers, mode := .run, kind, roundOf := round }, cs, { w with drawn := w.drawn + 1 }, .one (step_lone_go ?_), BM.le_refl _, h.hr.drew, h.sub, h.glob,
        ⟨⟨h.top.base.fn, h.top.base.kind, h.top.base.mode, h.top.base.round, h.top.base.defers⟩, ?_⟩, h.rest, ?_⟩
      · simp [stepG, stepG.exec, choose, Sem.run, Question.forced, Question.cut, Region.schedule, ok.mixed]
      · have hD : ∀ i, dn (Array.replicate ops.size false) i = false := fun i => by
          unfold dn
          rcases Nat.lt_or_ge i ops.size with h' | h'
          · simp [h']
          · simp [h']
        refine .dreg hret ⟨rfl, hb, by simp, fun i o e hi => by (rw [hD] at hi; cases hi), ord_linearise ops _, ⟨?_, fun t => .inl (VA.of_lr hl t), fun i hi => by (rw [hD] at hi; cases hi), fun i _ hi => by (simp at hi), fun p hp => by (cases hp), by simp,
          fun p hp => by (cases hp), fun p hp => by (cases hp), fun p hp => by (cases hp), fun p hp => by (cases hp), fun p hp => by (cases hp)⟩, fun p hp => by (cases hp), fun _ _ p hp => by (cases hp), fun h => by cases h⟩ hk
        rw [hl.length]; simp
      · have := h.nd
        have e : fblocks s.top = [] := by unfold fblocks; rw [ht]
        rw [e] at this
        exact this
end
end Go.Abs
