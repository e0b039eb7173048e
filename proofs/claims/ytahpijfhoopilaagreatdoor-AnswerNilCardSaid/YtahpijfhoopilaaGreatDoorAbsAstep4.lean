/-
  THE ABSTRACT MACHINE: its steps, all of them; its runs.
-/
import Derived.Test.YtahpijfhoopilaaGreatDoorAbsAstep3
set_option linter.unusedSectionVars false
set_option linter.unusedVariables false
set_option linter.unusedSimpArgs false
namespace Go.Abs
open Go
variable [Ops]

section
variable {E : Env} (ok : E.Ok) {N0 : Nat} {w0 : World} {base : List Frame} {β : BM} {Hs : AHeap} {s s' : AState} {fr : Frame} {cs : List Frame} {w : World}

theorem inRegion_at (h : SR E N0 w0 base false β Hs s fr cs w) (hn : InN s fr β) (hret : s.top.ret = false) {ops : List Oper} {o : Oper} {rest : List Oper} {k : List AItem} (ht : s.top.todo = .inRegion ops (o :: rest) :: k) :
    ∃ aops i r k', At s fr aops i r k' o β ∧ aops.toList = ops := by
  have htd := hn.todo
  rw [ht] at htd
  generalize hq : fr.todo = q at htd
  cases htd with
  | cons hi hk =>
    rename_i k'
    generalize hrr : AItem.inRegion ops (o :: rest) = it at hi
    cases hi with
    | inRegion k0 =>
      rename_i aops
      simp only [AItem.inRegion.injEq] at hrr
      obtain ⟨rfl, hdrop⟩ := hrr
      have hlt : k0 < aops.size := by
        rcases Nat.lt_or_ge k0 aops.size with h' | h'
        · exact h'
        · rw [List.drop_eq_nil_of_le (by simpa using h')] at hdrop; cases hdrop
      have hd2 := List.drop_eq_getElem_cons (l := aops.toList) (i := k0) (by simpa using hlt)
      rw [hd2] at hdrop
      simp only [List.cons.injEq] at hdrop
      have hr := List.drop_eq_getElem_cons (l := List.range aops.size) (i := k0) (by simpa using hlt)
      simp only [List.getElem_range] at hr
      have ho : aops[k0]? = some o := by rw [Array.getElem?_eq_getElem hlt]; rw [hdrop.1]; simp
      exact ⟨aops, k0, (List.range aops.size).drop (k0 + 1), k', ⟨hret, by rw [hq, hr], ho, by simpa using hn.tmps.length, fun t _ => VA.of_lr hn.tmps t⟩, rfl⟩
    | _ => cases hrr

theorem SR.wait_of_norm (h : SR E N0 w0 base false β Hs s fr cs w) (hn : InN s fr β) : SR E N0 w0 base true β Hs s fr cs w :=
  { h with top := ⟨h.top.base, .norm hn.tmps hn.todo⟩ }

include ok in
theorem astep_sound (h : SR E N0 w0 base false β Hs s fr cs w) (hnx : s.next < 490000) (hx : astep E s = some s') : Reaches E N0 w0 base β fr cs w s' := by
  have hlim : s.next + 2 < LIMIT := by unfold LIMIT; omega
  have hl0 : s.next < LIMIT := by omega
  unfold astep at hx
  cases hret : s.top.ret with
  | true => rw [hret] at hx; exact returning_sound ok h hl0 hret hx
  | false =>
    rw [hret] at hx
    simp only at hx
    have hmode := h.top.base.mode
    rw [hret] at hmode
    split at hx
    · -- nothing is left
      rename_i ht
      have hn := h.inN (by rw [ht]; intro _ _ _ _ _ _ _ h; cases h)
      have htd := hn.todo
      rw [ht] at htd
      refine leave_sound h hl0 hn hret hx fun fr2 w e => ?_
      subst e
      obtain ⟨fn', tmps', todo', defers', mode', kind', round'⟩ := fr2
      simp only at htd hmode
      cases htd
      subst hmode
      simp only [stepG, stepG.exec]
      cases round' <;> rfl
    · -- code
      rename_i c k ht
      have hn := h.inN (by rw [ht]; intro _ _ _ _ _ _ _ h; cases h)
      have htd := hn.todo
      rw [ht] at htd
      obtain ⟨fn', tmps', todo', defers', mode', kind', round'⟩ := fr
      simp only at htd hmode
      generalize hci : AItem.code c = ci at htd
      cases htd with
      | cons hi hk =>
        rename_i k'
        subst hci
        cases hi
        simp only [Bool.false_eq_true, if_false] at hmode
        subst hmode
        split at hx
        · refine leave_sound h hl0 hn hret hx fun fr2 w e => ?_
          subst e
          simp only [stepG, stepG.exec]
          cases round' <;> rfl
        · cases hx; exact h.to hn hk (step_lone_go (by simp [stepG, stepG.exec]))
        · cases hx; exact h.to hn hk (step_lone_go (by simp [stepG, stepG.exec]))
        · cases hx; exact h.to hn (.cons (.code _) (.cons (.code _) hk)) (step_lone_go (by simp [stepG, stepG.exec]))
        · rename_i c a b
          have hev : ∀ v, ev s.top.tmps c = .bool v → Frame.eval { fn := fn', tmps := tmps', todo := .code (.cond c a b) :: k', defers := defers', mode := .run, kind := kind', roundOf := round' } c = .bool v := fun v hv => by
            cases c with
            | tmp t =>
              have := ev_tmp (by simpa using hn.tmps.length) (VA.of_lr hn.tmps t)
              rw [hv] at this
              exact this.bool_inv
            | const u => exact hv
            | global g => simp [ev] at hv
            | func g => simp [ev] at hv
          split at hx
          · rename_i hv; cases hx
            have := hev _ hv
            exact h.to hn (.cons (.code _) hk) (step_lone_go (by simp [stepG, stepG.exec, this]))
          · rename_i hv; cases hx
            have := hev _ hv
            exact h.to hn (.cons (.code _) hk) (step_lone_go (by simp [stepG, stepG.exec, this]))
          · cases hx
        · cases hx; exact h.to hn (.cons (.code _) (.cons (.inBlock _) hk)) (step_lone_go (by simp [stepG, stepG.exec]))
        · cases hx; exact h.to hn (.cons (.code _) (.cons (.inLoop _) hk)) (step_lone_go (by simp [stepG, stepG.exec]))
        · cases hx; exact h.to hn (.cons (.code _) (.cons (.inScope _) hk)) (step_lone_go (by simp [stepG, stepG.exec]))
        · rename_i id
          obtain ⟨e1, e2⟩ := exitTo_sound (id := id) hk
          split at hx
          · rename_i k2 hk2
            cases hx
            obtain ⟨k2', h1, h2⟩ := e1 _ hk2
            exact h.to hn h2 (step_lone_go (by simp [stepG, stepG.exec, h1]))
          · rename_i hk2
            have h1 := e2 hk2
            refine leave_sound h hl0 hn hret hx fun fr2 w e => ?_
            subst e
            simp only [stepG, stepG.exec, h1, Option.elim]
            cases round' <;> rfl
        · exact loopEnter_sound ok h hlim hret ht hx
        · rename_i id ops
          cases hx
          exact h.to hn (.cons (by have := IR.inRegion (β := β) (aops := ops) 0; simpa using this) hk) (step_lone_go (by simp [stepG, stepG.exec]))
        · split at hx
          · rename_i hb
            cases hx
            exact region_sound ok h hret ht hb
          · cases hx
        · cases hx
    · rename_i k ht
      have hn := h.inN (by rw [ht]; intro _ _ _ _ _ _ _ h; cases h)
      have htd := hn.todo
      rw [ht] at htd
      obtain ⟨fn', tmps', todo', defers', mode', kind', round'⟩ := fr
      simp only at htd hmode
      cases htd with
      | cons hi hk =>
        cases hi
        simp only [Bool.false_eq_true, if_false] at hmode
        subst hmode
        cases hx; exact h.to hn hk (step_lone_go (by simp [stepG, stepG.exec]))
    · rename_i k ht
      have hn := h.inN (by rw [ht]; intro _ _ _ _ _ _ _ h; cases h)
      have htd := hn.todo
      rw [ht] at htd
      obtain ⟨fn', tmps', todo', defers', mode', kind', round'⟩ := fr
      simp only at htd hmode
      cases htd with
      | cons hi hk =>
        cases hi
        simp only [Bool.false_eq_true, if_false] at hmode
        subst hmode
        cases hx; exact h.to hn hk (step_lone_go (by simp [stepG, stepG.exec]))
    · rename_i body k ht
      have hn := h.inN (by rw [ht]; intro _ _ _ _ _ _ _ h; cases h)
      have htd := hn.todo
      rw [ht] at htd
      obtain ⟨fn', tmps', todo', defers', mode', kind', round'⟩ := fr
      simp only at htd hmode
      cases htd with
      | cons hi hk =>
        cases hi
        simp only [Bool.false_eq_true, if_false] at hmode
        subst hmode
        cases hx; exact h.to hn (.cons (.code _) (.cons (.inLoop _) hk)) (step_lone_go (by simp [stepG, stepG.exec]))
    · rename_i ops k ht
      have hn := h.inN (by rw [ht]; intro _ _ _ _ _ _ _ h; cases h)
      have htd := hn.todo
      rw [ht] at htd
      obtain ⟨fn', tmps', todo', defers', mode', kind', round'⟩ := fr
      simp only at htd hmode
      generalize hci : AItem.inRegion ops [] = ci at htd
      cases htd with
      | cons hi hk =>
        cases hi with
        | inRegion k0 =>
          rename_i aops
          simp only [AItem.inRegion.injEq] at hci
          obtain ⟨rfl, hdrop⟩ := hci
          have hle : aops.size ≤ k0 := by simpa using List.drop_eq_nil_iff.1 hdrop.symm
          have hr : (List.range aops.size).drop k0 = [] := List.drop_eq_nil_of_le (by simpa using hle)
          simp only [Bool.false_eq_true, if_false] at hmode
          subst hmode
          cases hx; exact h.to hn hk (step_region_out (ops := aops) rfl (by simp only [hr]))
        | _ => cases hci
    · rename_i ops o rest k ht
      have hn := h.inN (by rw [ht]; intro _ _ _ _ _ _ _ h; cases h)
      obtain ⟨aops, i, r, k', hat, rfl⟩ := inRegion_at h hn hret ht
      exact execO_sound ok (h.wait_of_norm hn) hl0 hat hx
    · rename_i ops bef done cur pend k ht
      split at hx
      · rename_i hrc
        cases hx
        exact recheck_sound h ht hrc
      · cases hx
    · rename_i ops bef done cur pend k ht
      exact dstep_sound ok h hl0 ht hx
    · rename_i l k ht
      have hn := h.inN (by rw [ht]; intro _ _ _ _ _ _ _ h; cases h)
      have htd := hn.todo
      rw [ht] at htd
      split at hx
      · rename_i r hg
        obtain ⟨i, r', hi, hlr, hwl, hgl, hset⟩ := h.setLoop hl0 hg
        have main : ∀ (hbusy : r.state ≠ .busy), s' = { s with top := { s.top with todo := (match r.pending with | some c => AItem.code c :: k | none => k) }, heap := hput s.heap l (.loop { r with state := .exhausted }) } → Reaches E N0 w0 base β fr cs w s' := by
          intro hbusy e
          subst e
          obtain ⟨w', Hs', k1, k2, k3, k4⟩ := hset { r with state := .exhausted } { r' with state := .exhausted } ⟨rfl, hlr.pending, hlr.fn, hlr.tmps, hlr.params, hlr.assign, hlr.body, hlr.defers⟩
          obtain ⟨fn', tmps', todo', defers', mode', kind', round'⟩ := fr
          simp only at htd hmode
          cases htd with
          | cons hit hk =>
            rename_i k'
            cases hit with
            | endRange hl =>
              rename_i i2
              rw [hi] at hl
              cases hl
              simp only [Bool.false_eq_true, if_false] at hmode
              subst hmode
              have hend : (Instr.endLoop i.blk).run E.P w = .ok r.pending w' := by
                have hb : ¬ (r'.state = LoopState.busy) := by rw [hlr.state]; exact hbusy
                have k1' := k1
                simp only [hlr.pending] at k1'
                simp [Instr.endLoop, hgl, hb, k1', hlr.pending]
              refine ⟨β, Hs', { fn := fn', tmps := tmps', todo := (r.pending.map Item.code).toList ++ k', defers := defers', mode := .run, kind := kind', roundOf := round' }, cs, w', .one (step_lone_go ?_), BM.le_refl _, k2, k3, h.glob, ⟨⟨h.top.base.fn, h.top.base.kind, h.top.base.mode, h.top.base.round, h.top.base.defers⟩, .norm hn.tmps ?_⟩,
                h.rest.keep (BM.le_refl _) (Nat.le_refl _) (k4 _), ?_⟩
              · simp [stepG, stepG.exec, Sem.runT_eq, hend]
              · show TR β (match r.pending with | some c => AItem.code c :: k | none => k) _
                cases r.pending with
                | none => exact hk
                | some c => exact .cons (.code c) hk
              · have := h.nd
                rw [show fblocks s.top = [] by unfold fblocks; rw [ht]] at this
                show (fblocks { s.top with todo := (match r.pending with | some c => AItem.code c :: k | none => k) } ++ _).Nodup
                have e : fblocks { s.top with todo := (match r.pending with | some c => AItem.code c :: k | none => k) } = [] := by
                  cases r.pending with
                  | none => exact hk.nob _ rfl
                  | some c => rfl
                rw [e]; exact this
        split at hx
        · cases hx
        · rename_i hb
          cases hx
          exact main hb rfl
      · cases hx
    · rename_i k ht
      have hn := h.inN (by rw [ht]; intro _ _ _ _ _ _ _ h; cases h)
      have htd := hn.todo
      rw [ht] at htd
      split at hx
      · rename_i l hro
        split at hx
        · rename_i r hg
          split at hx
          · rename_i hready
            cases hx
            obtain ⟨i, r', hi, hlr, hwl, hgl, hset⟩ := h.setLoop hl0 hg
            obtain ⟨w', Hs', k1, k2, k3, k4⟩ := hset { r with state := .busy } { r' with state := .busy } ⟨rfl, hlr.pending, hlr.fn, hlr.tmps, hlr.params, hlr.assign, hlr.body, hlr.defers⟩
            have hround := h.top.base.round
            rw [hro] at hround
            obtain ⟨fn', tmps', todo', defers', mode', kind', round'⟩ := fr
            simp only at htd hmode hround
            cases round' with
            | none => exact hround.elim
            | some b0 =>
              obtain ⟨i0, hi0, rfl⟩ := hround
              rw [hi] at hi0
              cases hi0
              cases htd with
              | cons hit hk =>
                rename_i k'
                cases hit
                simp only [Bool.false_eq_true, if_false] at hmode
                subst hmode
                have hbr : (Instr.beginRound i.blk).run E.P w = .ok () w' := by
                  simp [Instr.beginRound, hgl, k1, hlr.state, hready]
                refine ⟨β, Hs', { fn := fn', tmps := tmps', todo := k', defers := defers', mode := .run, kind := kind', roundOf := some i.blk }, cs, w', .one (step_lone_go ?_), BM.le_refl _, k2, k3, h.glob, ⟨⟨h.top.base.fn, h.top.base.kind, h.top.base.mode, ?_, h.top.base.defers⟩, .norm hn.tmps hk⟩,
                  h.rest.keep (BM.le_refl _) (Nat.le_refl _) (k4 _), ?_⟩
                · simp [stepG, stepG.exec, stepG.apply, hbr, Frame.finish]
                · show OptR β s.top.roundOf (some i.blk)
                  rw [hro]; exact ⟨i, hi, rfl⟩
                · have := h.nd
                  rw [show fblocks s.top = [] by unfold fblocks; rw [ht]] at this
                  show (fblocks { s.top with todo := k } ++ _).Nodup
                  rw [hk.nob _ rfl]; exact this
          · cases hx
        · cases hx
      · cases hx
    · cases hx

include ok in
theorem run_sound : ∀ (n : Nat) {β : BM} {Hs : AHeap} {s s' : AState} {fr : Frame} {cs : List Frame} {w : World}, SR E N0 w0 base false β Hs s fr cs w → run E n s = some s' → Reaches E N0 w0 base β fr cs w s'
  | 0, β, Hs, s, s', fr, cs, w, h, hx => by
    simp only [run, Option.some.injEq] at hx
    subst hx
    exact ⟨β, Hs, fr, cs, w, .refl _ _, BM.le_refl _, h⟩
  | n + 1, β, Hs, s, s', fr, cs, w, h, hx => by
    unfold run at hx
    split at hx
    · cases hx
      exact ⟨β, Hs, fr, cs, w, .refl _ _, BM.le_refl _, h⟩
    · split at hx
      · rename_i hlt
        split at hx
        · rename_i s1 hs1
          obtain ⟨β1, Hs1, fr1, cs1, w1, k1, k1b, k2⟩ := astep_sound ok h (by have := Nat.le_of_ble_eq_true hlt; omega) hs1
          obtain ⟨β2, Hs2, fr2, cs2, w2, k3, k3b, k4⟩ := run_sound n k2 hx
          exact ⟨β2, Hs2, fr2, cs2, w2, k1.trans k3, BM.le_trans k1b k3b, k4⟩
        · cases hx
      · cases hx
end
end Go.Abs
