/-
  THE ABSTRACT MACHINE: an operation that is carried out.
-/
import Derived.Test.YtahpijfhoopilaaGreatDoorAbsSim
set_option linter.unusedSectionVars false
set_option linter.unusedVariables false
set_option linter.unusedSimpArgs false
namespace Go.Abs
open Go
variable [Ops]

section
variable {E : Env} (ok : E.Ok) {N0 : Nat} {w0 : World} {base : List Frame} {β : BM} {Hs : AHeap} {s s' : AState} {fr : Frame} {cs : List Frame} {w : World}
variable {aops : Array Oper} {i : Nat} {rest : List Nat} {k' : List Item} {o : Oper}

/-- the frame on top is at an operation that is to be carried out -/
structure At (s : AState) (fr : Frame) (aops : Array Oper) (i : Nat) (rest : List Nat) (k' : List Item) (o : Oper) (β : BM) : Prop where
  ret : s.top.ret = false
  todo : fr.todo = .inRegion aops (i :: rest) :: k'
  op : aops[i]? = some o
  len : s.top.tmps.length = fr.tmps.size
  va : ∀ t, t ∈ looks aops.toList o → VA β s.top.tmps fr.tmps t

theorem SR.push (h : SR E N0 w0 base true β Hs s fr cs w) {fr2 : AFrame} {fr2' : Frame} (hf : FR E.toCtx E.ng β s.heap Hs s.next false fr2 fr2') (hb : fblocks fr2 = []) 
    (hst : step E.P (lone fr cs w) = .next (lone fr2' (fr :: cs) w)) : Reaches E N0 w0 base β fr cs w { s with top := fr2, callers := s.top :: s.callers } := by
  refine ⟨β, Hs, fr2', fr :: cs, w, .one hst, BM.le_refl _, h.hr, h.sub, h.glob, hf, .cons h.top h.rest, ?_⟩
  show (fblocks fr2 ++ _).Nodup
  rw [hb, List.nil_append, List.flatMap_cons]
  exact h.nd

theorem Keep.news {nx0 : Nat} : ∀ (xs : List AObj) {nx : Nat} {H Hs H1 Hs1 : AHeap}, Keep nx0 H Hs H1 Hs1 → nx0 ≤ nx → nx + xs.length < LIMIT → Keep nx0 H Hs (hputs H1 nx xs) (hputs Hs1 nx xs)
  | [], _, _, _, _, _, h, _, _ => h
  | x :: xs, nx, H, Hs, H1, Hs1, h, hn, hl => by
    simp only [List.length_cons] at hl
    have hk := Keep.new (nx := nx) h.sub (by omega) (x := x)
    refine Keep.news xs ⟨hk.sub, fun b hb h0 => ?_⟩ (by omega) (by omega)
    obtain ⟨h1, h2⟩ := h.old b hb h0
    have e : nx ≠ b := by omega
    exact ⟨by rw [hput_ne e]; exact h1, by rw [hput_ne e]; exact h2⟩

/-- a call by its contract -/
theorem SR.byCon (h : SR E N0 w0 base true β Hs s fr cs w) {v : Value} {top : AFrame} (hf : finish s.top v = some top) {H' Hs' : AHeap} {nx' : Nat} {f : FuncId} {args' : List Value}
    (hk : Keep s.next s.heap Hs H' Hs') (hnx : s.next ≤ nx') (hst : step E.P (lone fr cs w) = .next (lone (Frame.enter E.P f ⟨args'⟩ .normal) (fr :: cs) w))
    (hc : Calls E.P f ⟨args'⟩ w fun e w' => ∃ β' v', e = .returned v' ∧ VR β' v v' ∧ BM.ext s.next β β' ∧ HR E.toCtx N0 w0 β' Hs' nx' w') :
    Reaches E N0 w0 base β fr cs w { s with top, heap := H', next := nx' } := by
  obtain ⟨e, w', fr2, ⟨β', v', rfl, hv, hb, hr⟩, hcomes, _, hleave⟩ := hc (fr :: cs)
  have hlt : ∀ b ∈ fblocks s.top, b < s.next ∧ s.heap.get b = none := h.top.lt
  have htop := h.top.keep hb.1 hnx (Left.keep hk hb hlt)
  obtain ⟨hf1, hf2⟩ := htop.finish hf hv
  refine ⟨β', Hs', _, cs, w', (Steps.one hst).trans (Steps.trans hcomes (.one (step_leave_returned hleave))), hb.1, hr, hk.sub, h.glob.mono hb.1, hf1, h.rest.keep hb.1 hnx (Left.keep hk hb h.rest.lt), ?_⟩
  show (fblocks top ++ _).Nodup
  rw [hf2]; exact h.nd

include ok in
theorem doEff_sound (h : SR E N0 w0 base true β Hs s fr cs w) (hnx : s.next < LIMIT) (ha : At s fr aops i rest k' o β) (hw : Region.wanted o (yielded aops fr.tmps) = true) (hρ : ∀ x ∈ o.op.operands, VR β (ev s.top.tmps x) (fr.eval x))
    {e : Eff} (he : effect E.toCtx s.heap s.next (ev s.top.tmps) o = some e) (hd : doEff E s e = some s') : Reaches E N0 w0 base β fr cs w s' := by
  have hm : fr.mode = .run := by have := h.top.base.mode; rw [ha.ret] at this; simpa using this
  have hlt : ∀ b x, s.heap.get b = some x → b < s.next := fun b x hx => by
    obtain ⟨i, hi, _⟩ := h.hr.obj b x (h.sub b x hx)
    exact h.hr.lt_nx hi
  obtain ⟨e2, he2, hes⟩ := effect_sub h.sub hnx hlt he
  have hres := effect_sound ok.ctx h.hr hnx hρ he2
  have hdef : ∀ c, (∀ d, e ≠ .defer d) → fr.roundOf ≠ none → o.op ≠ .defer c := fun c hne _ hop => by
    have he' := he
    simp only [effect, hop] at he'
    split at he'
    · split at he'
      · cases he'; exact hne _ rfl
      · cases he'
    · cases he'
  cases e with
  | val v H' nx' =>
    cases e2 <;> simp only [EffSub] at hes
    obtain ⟨rfl, rfl, hk, hle⟩ := hes
    obtain ⟨n, v', w', β', hrun, hn, hext, hr', hv⟩ := hres
    simp only [doEff] at hd
    split at hd
    · rename_i top hf
      cases hd
      exact h.value hf hext.1 hk hext hle hr' hv (step_value hm ha.todo ha.op hw (fun c => hdef c (by simp)) hrun hn)
    · cases hd
  | enter f args =>
    cases e2 <;> simp only [EffSub] at hes
    obtain ⟨rfl, rfl⟩ := hes
    obtain ⟨args', hargs, hrun⟩ := hres
    simp only [doEff] at hd
    split at hd
    · rename_i v xs hcv
      split at hd
      · rename_i top hf
        cases hd
        unfold conV at hcv
        split at hcv
        · rename_i c hcg
          split at hcv
          · rename_i v0 xs0 hc0
            split at hcv
            · rename_i fn hlt' hfn
              split at hcv
              · rename_i c1 hc1
                cases hcv
                have hlt2 : s.next + xs.length < LIMIT := by rw [llen_eq] at hlt'; simpa [Nat.blt_eq] using hlt'
                have hcalls := ok.con _ _ hcg h.hr h.sub hargs hc0 hlt2
                rw [callFunc_body ok hfn hc1] at hrun
                rw [llen_eq]
                refine h.byCon hf (Keep.news xs (Keep.refl h.sub) (Nat.le_refl _) hlt2) (by omega) (step_lone_go ?_) hcalls
                rw [stepG_opF hm ha.todo ha.op hw (fun c => hdef c (by simp))]
                simp [stepG.apply, hrun, ha.todo]
              · cases hcv
            · cases hcv
          · cases hcv
        · cases hcv
      · cases hd
    · rename_i hcn
      clear hcn
      simp only [enterE] at hd
      split at hd
      · rename_i fn hfn
        split at hd
        · rename_i c hc
          simp only [pushes] at hd
          split at hd
          · rename_i fr2 hfr2
            cases hd
            rw [callFunc_body ok hfn hc] at hrun
            obtain ⟨k1, k2⟩ := enterF_sound ok hfr2 hargs (H := s.heap) (Hs := Hs) (nx := s.next) false
            refine h.push k1 k2 (step_lone_go ?_)
            rw [stepG_opF hm ha.todo ha.op hw (fun c => hdef c (by simp))]
            simp [stepG.apply, hrun, ha.todo]
          · cases hd
        · rename_i hb
          split at hd
          · rename_i v H' nx' hx
            split at hd
            · rename_i top hf
              cases hd
              unfold extern at hx
              split at hx
              · rename_i y hxe
                cases hx
                have hsem := ok.ext _ _ _ hxe hfn hb
                obtain ⟨y', ys', rfl, hy, hys⟩ := LR.cons_inv hargs
                have := LR.nil_inv hys
                subst this
                rw [hsem] at hrun
                exact h.value hf (BM.le_refl _) (Keep.refl h.sub) (BM.ext_refl _ _) (Nat.le_refl _) h.hr hy (step_value hm ha.todo ha.op hw (fun c => hdef c (by simp)) hrun (.inl rfl))
              · rename_i b c hxe
                have hsem := ok.ext _ _ _ hxe hfn hb
                obtain ⟨y', ys', rfl, hy, hys⟩ := LR.cons_inv hargs
                obtain ⟨z', zs', rfl, hz, hzs⟩ := LR.cons_inv hys
                have := LR.nil_inv hzs
                subst this
                rw [hy.string_inv, hz.int_inv] at hrun
                simp only at hsem
                rw [hsem] at hrun
                split at hx
                · rename_i idx hfind
                  cases hx
                  rw [hfind] at hrun
                  exact h.value hf (BM.le_refl _) (Keep.refl h.sub) (BM.ext_refl _ _) (Nat.le_refl _) h.hr (.atom rfl) (step_value hm ha.todo ha.op hw (fun c => hdef c (by simp)) hrun (.inl rfl))
                · rename_i hfind
                  cases hx
                  rw [hfind] at hrun
                  exact h.value hf (BM.le_refl _) (Keep.refl h.sub) (BM.ext_refl _ _) (Nat.le_refl _) h.hr (.atom rfl) (step_value hm ha.todo ha.op hw (fun c => hdef c (by simp)) hrun (.inl rfl))
              · rename_i et n hxe
                split at hx
                · rename_i hle
                  cases hx
                  obtain ⟨hsz, hsem⟩ := ok.ext _ _ _ hxe hfn hb
                  obtain ⟨y', ys', rfl, hy, hys⟩ := LR.cons_inv hargs
                  have := LR.nil_inv hys
                  subst this
                  rw [hy.int_inv] at hrun
                  obtain ⟨cap, cells, w2, h1, h2, h3, h4⟩ := hsem n w (Nat.le_of_ble_eq_true hle)
                  rw [h1] at hrun
                  have hr2 : HR E.toCtx N0 w0 β Hs s.next w2 := by
                    rcases h4 with rfl | rfl
                    · exact h.hr.drew.drew
                    · exact h.hr.drew
                  have hsz2 : w2.heap.size = w.heap.size := by rcases h4 with rfl | rfl <;> rfl
                  have hnew := heap_alloc_new w2 (.cells cells et)
                  rw [hsz2] at hnew
                  have hr' := hr2.alloc hnx (.cells cells et) (i := ⟨w.heap.size, 0, cap, 1⟩) (x := .cells [] et 1) hsz2.symm
                    ⟨cells, (0, 0), hnew, ⟨h3, fun j v hv => by simp at hv, fun _ j _ hj => by omega, fun _ => h.hr.n0, fun h => by omega⟩, fun _ => hsz⟩
                  have hv : VR (β.set s.next ⟨w.heap.size, 0, cap, 1⟩) (.slice (some ⟨s.next, 0, none⟩) n OPEN) (.slice (some ⟨w.heap.size, 0, none⟩) n cap) :=
                    VR.slice (i := ⟨w.heap.size, 0, cap, 1⟩) (o := 0) (BM.set_same _ _ _) (.inr ⟨rfl, h2, by simp⟩)
                  have hext := BM.ext_set β (⟨w.heap.size, 0, cap, 1⟩ : BI) (h.hr.fresh s.next (Nat.le_refl _))
                  exact h.value hf hext.1 (Keep.new h.sub hnx) hext (Nat.le_succ _) hr' hv (step_value hm ha.todo ha.op hw (fun c => hdef c (by simp)) hrun (.inl rfl))
                · cases hx
              · cases hx
            · cases hd
          · cases hd
      · cases hd
  | round l args =>
    cases e2 <;> simp only [EffSub] at hes
    obtain ⟨rfl, rfl⟩ := hes
    obtain ⟨args', bi, hbi, hargs, hrun⟩ := hres
    simp only [doEff] at hd
    split at hd
    · rename_i r hr0
      split at hd
      · rename_i hlen
        cases hd
        unfold Abs.getLoop at hr0
        split at hr0
        · rename_i r1 hg
          cases hr0
          obtain ⟨j, hj, hor⟩ := h.hr.obj _ _ (h.sub _ _ hg)
          rw [hbi] at hj
          cases hj
          obtain ⟨r', h1, h2, h3⟩ := hor
          have hsz : args'.length = r'.params.size := by
            have := Nat.eq_of_beq_eq_true hlen
            rw [llen_eq, llen_eq] at this
            rw [← hargs.length, ← Array.length_toList, h3.params]
            omega
          have hy : (Instr.yield bi.blk ⟨args'⟩).run E.P w = .ok (.round bi.blk r'.fn ((r'.params.zip ⟨args'⟩).foldl (fun tmps (t, a) => tmps.setIfInBounds t a) r'.tmps) r'.assign r'.body) w := by
            simp [Instr.yield, Instr.getLoop, getObj, Sem.run, h1, hsz]
          rw [hy] at hrun
          refine h.push (fr2' := Frame.round bi.blk r'.fn ((r'.params.zip ⟨args'⟩).foldl (fun tmps (t, a) => tmps.setIfInBounds t a) r'.tmps) r'.assign r'.body .normal) ⟨⟨h3.fn, rfl, rfl, ⟨bi, hbi, rfl⟩, .nil⟩, ?_⟩ rfl (step_lone_go ?_)
          · simp only [Frame.round]
            rw [h3.assign, h3.body]
            refine .norm ?_ (.cons (.code _) (.cons .beginRound (.cons (.code _) .nil)))
            rw [← Array.foldl_toList, Array.toList_zip, h3.params]
            have := foldl_set (r.params.zip args') r'.tmps
            rw [this]
            exact zip_foldl _ hargs h3.tmps
          · rw [stepG_opF hm ha.todo ha.op hw (fun c => hdef c (by simp))]
            simp [stepG.apply, hrun]
        · cases hr0
      · cases hd
    · cases hd
  | defer d =>
    cases e2 <;> simp only [EffSub] at hes
    have hes' := hes.symm
    subst hes'
    obtain ⟨d', hrun, hd'⟩ := hres
    simp only [doEff] at hd
    split at hd
    · rename_i hround
      split at hd
      · rename_i top hf
        cases hd
        have hfr : fr.roundOf = none := by
          have := h.top.base.round
          rw [hround] at this
          cases hx : fr.roundOf with
          | none => rfl
          | some _ => rw [hx] at this; exact this.elim
        have htop : FR E.toCtx E.ng β s.heap Hs s.next true { s.top with defers := d :: s.top.defers } { fr with defers := d' :: fr.defers } :=
          ⟨⟨h.top.base.fn, h.top.base.kind, h.top.base.mode, h.top.base.round, .cons hd' h.top.base.defers⟩, h.top.todo⟩
        obtain ⟨hf1, hf2⟩ := htop.finish hf VR.undef
        refine ⟨β, Hs, _, cs, w, .one (step_lone_go ?_), BM.le_refl _, h.hr, h.sub, h.glob, hf1, h.rest, ?_⟩
        · rw [stepG_opF hm ha.todo ha.op hw (fun c hn => absurd hfr hn)]
          simp [stepG.apply, hrun]
        · show (fblocks top ++ _).Nodup
          rw [hf2]; exact h.nd
      · cases hd
    · cases hd
  | recover =>
    cases e2 <;> simp only [EffSub] at hes
    simp only [doEff] at hd
    split at hd
    · rename_i c cs0 hround hkind hcs
      split at hd
      · rename_i hcret
        split at hd
        · rename_i top hf
          cases hd
          have hfr : fr.roundOf = none := by
            have := h.top.base.round
            rw [hround] at this
            cases hx : fr.roundOf with
            | none => rfl
            | some _ => rw [hx] at this; exact this.elim
          have hrest := h.rest
          rw [hcs] at hrest
          cases hrest with
          | cons hc hcs' =>
            rename_i c' cs'
            have hk : fr.kind = .deferred := h.top.base.kind.trans hkind
            have hcm : c'.mode = .returning := by have := hc.base.mode; rw [hcret] at this; simpa using this
            have htr : tryRecover fr (c' :: cs') = none := by unfold tryRecover; rw [hk]; simp [hcm]
            refine h.value hf (BM.le_refl _) (Keep.refl h.sub) (BM.ext_refl _ _) (Nat.le_refl _) h.hr (.atom rfl) (step_lone_go ?_)
            rw [stepG_opF hm ha.todo ha.op hw (fun c => hdef c (by simp))]
            have hres' : (execOp fr.eval o).run E.P w = .ok .recover w := hres
            simp [stepG.apply, hres', hfr, htr]
        · cases hd
      · cases hd
    · cases hd

include ok in
theorem execO_sound (h : SR E N0 w0 base true β Hs s fr cs w) (hnx : s.next < LIMIT) (ha : At s fr aops i rest k' o β) (hx : execO E s aops.toList o = some s') : Reaches E N0 w0 base β fr cs w s' := by
  have hm : fr.mode = .run := by have := h.top.base.mode; rw [ha.ret] at this; simpa using this
  unfold execO at hx
  split at hx
  · cases hx
  rename_i hgo
  have hwant := wanted_rel (aops := aops) (o := o) ha.len ha.va hgo
  split at hx
  · rename_i hw
    split at hx
    · rename_i top hf
      cases hx
      exact h.value hf (BM.le_refl _) (Keep.refl h.sub) (BM.ext_refl _ _) (Nat.le_refl _) h.hr VR.undef (step_unwanted hm ha.todo ha.op (hwant.trans hw))
    · cases hx
  · rename_i hw
    have hw' := hwant.trans hw
    split at hx
    · cases hx
    · rename_i hc
      have hρ : ∀ x ∈ o.op.operands, VR β (ev s.top.tmps x) (fr.eval x) := ev_rel h.glob ha.len hc (fun t ht => ha.va t (looks_operand ht)) rfl
      split at hx
      · rename_i hq
        have hnd : ∀ c, fr.roundOf ≠ none → o.op ≠ .defer c := fun c _ e => by simp [isQuiet, e] at hq
        split at hx
        · rename_i v hqv
          split at hx
          · rename_i top hf
            cases hx
            obtain ⟨v', hrun, hv⟩ := quiet_sound ok.ctx h.hr (h.hr.fresh _ (Nat.le_refl _)) hρ (quiet_sub h.sub hqv)
            exact h.value hf (BM.le_refl _) (Keep.refl h.sub) (BM.ext_refl _ _) (Nat.le_refl _) h.hr hv (step_value hm ha.todo ha.op hw' hnd hrun (.inl rfl))
          · cases hx
        · rename_i v x hqv
          split at hx
          · rename_i top hf
            cases hx
            have hn := h.hr.fresh _ (Nat.le_refl _)
            obtain ⟨v', ob, bi, hrun, hi, hv, hor⟩ := quiet_sound ok.ctx h.hr hn hρ (quiet_sub h.sub hqv)
            exact h.value hf (BM.le_set β bi hn) (Keep.new h.sub hnx) (BM.ext_set β bi hn) (Nat.le_succ _) (h.hr.alloc hnx ob hi hor) hv (step_value hm ha.todo ha.op hw' hnd hrun (.inl rfl))
          · cases hx
        · split at hx
          · rename_i e he
            exact doEff_sound ok h hnx ha hw' hρ he hx
          · cases hx
      · split at hx
        · rename_i e he
          exact doEff_sound ok h hnx ha hw' hρ he hx
        · cases hx
end
end Go.Abs
