/-
  THE ABSTRACT MACHINE: an operation that was carried out early is carried out (the step).
-/
import Derived.Test.YtahpijfhoopilaaGreatDoorAbsPend
set_option linter.unusedSectionVars false
set_option linter.unusedVariables false
set_option linter.unusedSimpArgs false
namespace Go.Abs
open Go
variable [Ops]

section
variable {C : Ctx} (ok : C.Ok) {N0 : Nat} {w0 : World} {β : BM} {H : AHeap} {nx : Nat} {w : World}
variable (h : HR C N0 w0 β H nx w) (hnx : nx < LIMIT) {ρ ρ' : Operand → Value} {o : Oper} (hρ : ∀ x ∈ o.op.operands, VR β (ρ x) (ρ' x))
include ok h hnx hρ in
theorem stV_sound {t : TypeId} {a x : Operand} (ho : o.op = .store t a x) {b : Nat} {x0 x1 : AObj} (hq : stV C t (ρ a) (ρ x) x0 = some (b, x1)) (hg : H.get b = some x0) :
    ∃ w', (execOp ρ' o).run C.P w = .ok .skip w' ∧ HR C N0 w0 β (Abs.hput H b x1) nx w' := by
  have ha := hρ a (by simp [ho, Op.operands])
  have hx := hρ x (by simp [ho, Op.operands])
  unfold stV at hq
  split at hq
  · rename_i b2 off n ea hs
    rw [ea] at ha
    obtain ⟨i, hi, e'⟩ := ha.ptr_inv
    split at hq
    · rename_i l et kind hc
      rw [Bool.and_eq_true] at hc
      have hlen : (cellsL (ρ x)).length = n := by have := Nat.eq_of_beq_eq_true hc.1; simpa [llen_eq] using this
      split at hq
      · rename_i l2 hk hput
        cases hq
        have hk : kind < 2 := Nat.le_of_ble_eq_true hk
        have hcl := hx.cells (isAny_of_one hc.2)
        have h1 : ∀ u ∈ (ρ' x).cells.toList, u.oneCell' = true := fun u hu => by
          obtain ⟨j, hj, rfl⟩ := List.mem_iff_getElem.1 hu
          have hj' : j < (cellsL (ρ x)).length := by rw [hcl.length]; exact hj
          obtain ⟨v', e1, e2⟩ := hcl.get (j := j) (v := (cellsL (ρ x))[j]) (by simp [hj'])
          have : (ρ' x).cells.toList[j] = v' := by
            rw [List.getElem?_eq_getElem hj] at e1
            exact Option.some.inj e1
          rw [this]
          refine e2.oneCell ?_
          have := hc.2
          rw [List.all_eq_true] at this
          exact this _ (List.getElem_mem hj')
        obtain ⟨w', hrun, hh⟩ := store_sound h hnx hg hi hk hput hcl h1
        refine ⟨w', ?_, hh⟩
        have hsz : (ρ' x).cells.size = n := by rw [← hlen, hcl.length]; simp
        simp [execOp, ho, e', Instr.storeAt, Instr.sureAddr, storeVar, run_size ok w hs, hsz, hrun]
      · cases hq
    · cases hq
  · cases hq
end

/-- what was done early is done -/
theorem DInv.ran {C : Ctx} {ng : Nat} {β β' : BM} {ops : Array Oper} {done : Nat} {pend : List Pend} {D : Nat → Bool} {tm : List Value} {tm' : Array Value}
    (h : DInv C ng β ops done pend D tm tm') (hb : β.le β') {p : Pend} (hp : p ∈ pend) {o : Oper} (ho : POk C ng ops tm p o) {v' : Value} (hv : VR β' p.v v') :
    DInv C ng β' ops done pend (fun i => Nat.beq i p.i || D i) tm (putA tm' o.dst v') := by
  refine ⟨by rw [putA_size]; exact h.len, fun t => ?_, fun i hi => ?_, fun i hlt hi => ?_, h.mem, h.nodup, fun q hq hD => h.pok q hq (bor_beq.1 hD).2, h.rng, h.pair, h.ins, h.keys⟩
  · by_cases e : o.dst = some t
    · refine .inl fun u hu => ?_
      have hlt : t < tm.length := by
        rcases Nat.lt_or_ge t tm.length with h' | h'
        · exact h'
        · rw [List.getElem?_eq_none h'] at hu; cases hu
      rw [ho.slot t e hlt] at hu
      cases hu
      refine ⟨v', ?_, hv⟩
      rw [e]
      exact putA_same (by rw [← h.len]; exact hlt)
    · rcases h.slot t with hs | ⟨q, hq, hD, r, hr, hrd⟩
      · refine .inl fun u hu => ?_
        obtain ⟨u', h1, h2⟩ := hs u hu
        exact ⟨u', by rw [putA_ne e]; exact h1, h2.mono hb⟩
      · refine .inr ⟨q, hq, bor_beq.2 ⟨fun e' => ?_, hD⟩, r, hr, hrd⟩
        rw [e', ho.op] at hr
        cases hr
        exact e hrd
  · rcases bor_true.1 hi with rfl | hi
    · exact h.mem p hp
    · exact h.sub i hi
  · rcases h.sup i hlt hi with hd | hd
    · exact .inl (bor_true.2 (.inr hd))
    · exact .inr hd

theorem HInv.mono {C : Ctx} {H : AHeap} {ops : Array Oper} {pend : List Pend} {D D' : Nat → Bool} {tm : List Value} (h : HInv C H ops pend D tm) (hD : ∀ i, D' i = false → D i = false) :
    HInv C H ops pend D' tm := fun p hp hd => h p hp (hD _ hd)

theorem OR.pobj {C : Ctx} {N0 : Nat} {β : BM} {w : World} {i : BI} {b : Nat} {x : AObj} {ex : List Pend} (h : OR C N0 β w i x) (hx : insOf b ex = []) : OR C N0 β w i (pobj b x ex) := by
  unfold Abs.pobj
  split
  · rw [hx]
    obtain ⟨es', h1, h2, ⟨es1, hp, he, her⟩, hbo⟩ := h
    have e := he rfl
    subst e
    refine ⟨es', h1, h2, ⟨[], .refl _, fun _ => rfl, ?_⟩, hbo⟩
    cases hl : es'.toList with
    | nil => exact .nil
    | cons a l => rw [hl] at her; cases her
  · exact h

theorem exec_pend {C : Ctx} (ok : C.Ok) {ng : Nat} {N0 : Nat} {w0 : World} {β : BM} {H Hs : AHeap} {nx : Nat} {w : World} (hG : GOk β ng) (hr : HR C N0 w0 β Hs nx w) (hnx : nx < LIMIT) (hs : Sub H Hs)
    {ops : Array Oper} {bef : List Nat} {done cur : Nat} {pend : List Pend} {l : Array Bool} {j : Nat} {rest : List Nat} {tm : List Value} {fr' : Frame} {k' : List Item}
    (hd : Dreg C ng β H Hs nx false ops bef done cur pend false l (j :: rest) tm fr'.tmps) (hnd : (pblocks pend).Nodup)
    (hm : fr'.mode = .run) (ht : fr'.todo = .inRegion ops (j :: rest) :: k')
    {o : Oper} (ho : ops[j]? = some o) (hdone : done.testBit j = true) (cs : List Frame) :
    ∃ w' v' β' Hs', step C.P (lone fr' cs w) = .next (lone (fr'.finish v') cs w') ∧ β.le β' ∧ (∀ b, b ∉ pblocks pend → β' b = β b ∧ Hs'.get b = Hs.get b) ∧ HR C N0 w0 β' Hs' nx w' ∧ Sub H Hs' ∧
      Dreg C ng β' H Hs' nx false ops bef done cur pend false (l.setIfInBounds j true) rest tm (putA fr'.tmps o.dst v') := by
  cases hd.ord with
  | cons hready hord =>
    obtain ⟨hdn, o1, ho1, hedges, hbefore⟩ := ready_spec hd.ec hd.size hready
    rw [ho] at ho1
    cases ho1
    have hjl : j < ops.size := (Array.getElem?_eq_some_iff.1 ho).1
    have hcl : j < l.size := by rw [hd.size]; exact hjl
    have hDe : dn (l.setIfInBounds j true) = fun i => Nat.beq i j || dn l i := funext fun i => dn_set hcl i
    obtain ⟨p, hp, hpi⟩ : ∃ p ∈ pend, p.i = j := (hd.inv.sup j hjl hdone).resolve_left (by rw [hdn]; simp)
    have hpD : dn l p.i = false := by rw [hpi]; exact hdn
    obtain ⟨o2, hpo⟩ := hd.inv.pok p hp hpD
    have e2 : o2 = o := by have := hpo.op; rw [hpi, ho] at this; exact (Option.some.inj this).symm
    subst e2
    have hva : ∀ t, t ∈ looks ops.toList o2 → VA β tm fr'.tmps t := fun t hl => by
      rcases hd.inv.slot t with hv | ⟨q, hq, hqD, oq, hoq, hqd⟩
      · exact hv
      · exfalso
        by_cases e : q.i = p.i
        · rw [e, hpo.op] at hoq
          cases hoq
          exact hpo.self t hqd hl
        · have := (hd.inv.pair p hp q hq e o2 oq hpo.op hoq t hqd).1 hl
          rw [hpi] at this
          rw [hbefore _ this] at hqD
          cases hqD
    have hρ : ∀ x ∈ o2.op.operands, VR β (ev tm x) (fr'.eval x) := ev_rel hG hd.inv.len hpo.consts (fun t h => hva t (looks_operand h)) rfl
    have hwant : Region.wanted o2 (yielded ops fr'.tmps) = wantedL ops.toList tm o2 := wanted_rel hd.inv.len hva hpo.guard
    -- what is left to show, of the heap
    have build : ∀ (w' : World) (v' : Value) (β' : BM) (Hs' : AHeap), step C.P (lone fr' cs w) = .next (lone (fr'.finish v') cs w') → β.le β' → (∀ b, b ∉ pblocks pend → β' b = β b ∧ Hs'.get b = Hs.get b) →
        HR C N0 w0 β' Hs' nx w' → Sub H Hs' → VR β' p.v v' → BInv β' H Hs' nx pend pend (fun i => Nat.beq i j || dn l i) →
        ∃ w' v' β' Hs', step C.P (lone fr' cs w) = .next (lone (fr'.finish v') cs w') ∧ β.le β' ∧ (∀ b, b ∉ pblocks pend → β' b = β b ∧ Hs'.get b = Hs.get b) ∧ HR C N0 w0 β' Hs' nx w' ∧ Sub H Hs' ∧
          Dreg C ng β' H Hs' nx false ops bef done cur pend false (l.setIfInBounds j true) rest tm (putA fr'.tmps o2.dst v') := by
      intro w' v' β' Hs' h1 h2 h3 h4 h5 h6 h7
      refine ⟨w', v', β', Hs', h1, h2, h3, h4, h5, hd.bef, hd.back, by simpa using hd.size, ec_set hd.ec hd.size hready, hord, ?_, ?_, fun _ _ => ?_, fun h => by cases h⟩
      · rw [hDe, ← hpi]; exact hd.inv.ran h2 hp hpo h6
      · rw [hDe]; exact h7
      · rw [hDe]; exact (hd.heap rfl rfl).mono fun i hi => (bor_beq.1 hi).2
    have plain : p.obj = none → p.ins = none → BInv β H Hs nx pend pend (fun i => Nat.beq i j || dn l i) := fun h1 h2 => by
      intro q hq b x hx
      have hne : q.i ≠ j := fun e => by
        have := pend_eq hd.inv.nodup hq hp (by rw [e, hpi])
        subst this; rw [h1] at hx; cases hx
      obtain ⟨k1, k2, k3, k4⟩ := hd.blk q hq b x hx
      have hqD : (Nat.beq q.i j || dn l q.i) = dn l q.i := by
        have : Nat.beq q.i j = false := by
          cases hb : Nat.beq q.i j with
          | false => rfl
          | true => exact absurd (Nat.eq_of_beq_eq_true hb) hne
        rw [this]; rfl
      refine ⟨k1, k2, fun h => k3 (hqD ▸ h), fun h => ?_⟩
      have hf : insOf b (pend.filter fun p => Nat.beq p.i j || dn l p.i) = insOf b (pend.filter fun p => dn l p.i) :=
        insOf_filter (D := dn l) (D' := fun i => Nat.beq i j || dn l i) fun r hr => by
          by_cases e : r.i = j
          · have := pend_eq hd.inv.nodup hr hp (by rw [e, hpi])
            subst this; exact .inr fun _ _ => by rw [h2]; simp
          · refine .inl ?_
            have : Nat.beq r.i j = false := by
              cases hb : Nat.beq r.i j with
              | false => rfl
              | true => exact absurd (Nat.eq_of_beq_eq_true hb) e
            show (Nat.beq r.i j || dn l r.i) = dn l r.i
            rw [this]; rfl
      have hpo : pobj b x (pend.filter fun p => Nat.beq p.i j || dn l p.i) = pobj b x (pend.filter fun p => dn l p.i) := by unfold pobj; rw [hf]
      show Hs.get b = some (pobj b x (pend.filter fun p => Nat.beq p.i j || dn l p.i))
      rw [hpo]
      exact k4 (hqD ▸ h)
    have hndef : ∀ c, fr'.roundOf ≠ none → o2.op ≠ .defer c := fun c _ e => by
      have := hpo.early
      simp [isEarly, isStore, e, isQuiet] at this
    have ev' : wantedL ops.toList tm o2 = true → Region.wanted o2 (yielded ops fr'.tmps) = true := fun h => hwant.trans h
    rcases hpo.val with ⟨hw, hv, h1, h2⟩ | ⟨hw, hval⟩
    · exact build w undef β Hs (step_unwanted hm ht ho (hwant.trans hw)) (BM.le_refl _) (fun _ _ => ⟨rfl, rfl⟩) hr hs (by rw [hv]; exact VR.undef) (plain h1 h2)
    · rcases hval with ⟨e, he, hins, hobj, hv⟩ | ⟨he, hins, hst, b, x, hobj, hrh, hq⟩ | ⟨he, hins, hobj, hq⟩ | ⟨hins, hv, t, oa, oy, b, x0, x, hop, hobj, hst, hq⟩
      · obtain ⟨b, k0, v0⟩ := e
        obtain ⟨q0, hq0, hq0o, hq0b⟩ := hd.inv.ins p hp b k0 v0 hins
        rw [hpi] at hq0b
        have hq0D := hbefore _ hq0b
        obtain ⟨k1, k2, _, k4⟩ := hd.blk q0 hq0 b _ hq0o
        have hg := k4 hq0D
        simp only [pobj] at hg
        have hkeys : ∀ e ∈ insOf b (pend.filter fun p => dn l p.i), sameKey k0 e.1 = some false := fun e hmem => by
          obtain ⟨r, hr1, hr2⟩ := insOf_mem hmem
          have hr1' := List.mem_filter.1 hr1
          have : p.i ≠ r.i := fun e => by rw [e] at hpD; rw [hpD] at hr1'; cases hr1'.2
          exact hd.inv.keys p hp r hr1'.1 this b _ _ _ _ hins hr2
        have hperm := insOf_put (D := dn l) hd.inv.nodup hp hpi hdn hins
        obtain ⟨w', h1, h2⟩ := insert_sound ok hr hnx hρ he hg hkeys hperm
        have hlen : llen (insOf b (pend.filter fun p => dn l p.i)) 0 + 1 = llen (insOf b (pend.filter fun p => Nat.beq p.i j || dn l p.i)) 0 := by
          rw [llen0, llen0, ← hperm.length_eq]; rfl
        rw [hlen] at h2
        have hbl : b < LIMIT := by omega
        refine build w' undef β _ (step_value hm ht ho (ev' hw) hndef h1 (.inr ⟨rfl, rfl⟩)) (BM.le_refl _) (fun c hc => ⟨rfl, ?_⟩) h2 ?_ (by rw [hv]; exact VR.undef) ?_
        · exact hput_ne fun e => hc (e ▸ mem_pblocks hq0 hq0o)
        · intro c y hc
          rw [hput_ne (fun e => by subst e; rw [k2] at hc; cases hc)]
          exact hs c y hc
        · intro q hq c x hx
          obtain ⟨m1, m2, m3, m4⟩ := hd.blk q hq c x hx
          have hne : q.i ≠ j := fun e => by
            have := pend_eq hd.inv.nodup hq hp (by rw [e, hpi])
            subst this; rw [hobj] at hx; cases hx
          have hqD : (Nat.beq q.i j || dn l q.i) = dn l q.i := by
            have : Nat.beq q.i j = false := by
              cases hb : Nat.beq q.i j with
              | false => rfl
              | true => exact absurd (Nat.eq_of_beq_eq_true hb) hne
            rw [this]; rfl
          refine ⟨m1, m2, fun h => ⟨(m3 (hqD ▸ h)).1, fun y0 e => ?_⟩, fun h => ?_⟩
          · have hcb : b ≠ c := fun e' => by
              subst e'
              have := block_eq hnd hq hq0 hx hq0o
              subst this
              have h' := hqD.symm.trans h
              rw [hq0D] at h'; cases h'
            rw [hput_ne hcb]; exact (m3 (hqD ▸ h)).2 y0 e
          by_cases ebc : b = c
          · subst ebc
            have := block_eq hnd hq hq0 hx hq0o
            subst this
            rw [hq0o] at hx
            cases hx
            rw [hput_same hbl]
            rfl
          · have hf : insOf c (pend.filter fun p => Nat.beq p.i j || dn l p.i) = insOf c (pend.filter fun p => dn l p.i) :=
              insOf_filter (D := dn l) (D' := fun i => Nat.beq i j || dn l i) fun r hr => by
                by_cases e : r.i = j
                · have := pend_eq hd.inv.nodup hr hp (by rw [e, hpi])
                  subst this
                  refine .inr fun _ _ => ?_
                  rw [hins]; intro h; cases h; exact ebc rfl
                · refine .inl ?_
                  have : Nat.beq r.i j = false := by
                    cases hb : Nat.beq r.i j with
                    | false => rfl
                    | true => exact absurd (Nat.eq_of_beq_eq_true hb) e
                  show (Nat.beq r.i j || dn l r.i) = dn l r.i
                  rw [this]; rfl
            rw [hput_ne ebc, m4 (hqD ▸ h)]
            congr 1
            unfold pobj
            rw [hf]
      · obtain ⟨k1, k2, k3, _⟩ := hd.blk p hp b x hobj
        have hβ := (k3 hpD).1 hst
        have hres := quiet_sound ok hr hβ hρ (hq Hs)
        obtain ⟨v', ob, i, hrun, hi, hv, hor⟩ := hres
        have hbl : b < LIMIT := by omega
        have hnil : insOf b (pend.filter fun p => Nat.beq p.i j || dn l p.i) = [] := insOf_nil fun r hr k v hrv => by
          have hr' := List.mem_filter.1 hr
          obtain ⟨q0, hq0, hq0o, hq0b⟩ := hd.inv.ins r hr'.1 b k v hrv
          have := block_eq hnd hq0 hp hq0o hobj
          subst this
          have hrne : r.i ≠ j := fun e => by
            have := pend_eq hd.inv.nodup hr'.1 hp (by rw [e, hpi])
            subst this; rw [hins] at hrv; cases hrv
          have hrD : dn l r.i = true := (bor_true.1 hr'.2).resolve_left hrne
          obtain ⟨⟨orr, horr, _⟩, _⟩ := hd.inv.rng r hr'.1
          have := befs_spec hd.ec (fun i hi => dn_range hd.size hi) ops.toList [] (fun i => by simp) (fun i o _ _ j hj => by simp [lnth, lget] at hj) r.i orr horr
            (fun e he hb => hd.ec r.i orr e hrD horr he hb) _ hq0b
          rw [this] at hpD; cases hpD
        have hall := hr.allocAt k1 hβ hbl ob (x := pobj b x (pend.filter fun p => Nat.beq p.i j || dn l p.i)) hi (hor.pobj hnil)
        refine build _ v' _ _ (step_value hm ht ho (ev' hw) hndef hrun (.inl rfl)) (BM.le_set β i hβ) (fun c hc => ?_) hall ?_ hv ?_
        · have : c ≠ b := fun e => hc (e ▸ mem_pblocks hp hobj)
          exact ⟨BM.set_ne _ _ this, hput_ne fun e => this e.symm⟩
        · intro c y hc
          rw [hput_ne (fun e => by subst e; rw [k2] at hc; cases hc)]
          exact hs c y hc
        · intro q hq c y hy
          obtain ⟨m1, m2, m3, m4⟩ := hd.blk q hq c y hy
          by_cases e : q = p
          · subst e
            rw [hobj] at hy
            cases hy
            refine ⟨m1, m2, fun h => ?_, fun _ => hput_same hbl⟩
            simp only [hpi, Nat.beq_refl, Bool.true_or] at h; cases h
          · have hcb : b ≠ c := fun e' => e (by subst e'; exact block_eq hnd hq hp hy hobj)
            have hne : q.i ≠ j := fun e' => e (pend_eq hd.inv.nodup hq hp (by rw [e', hpi]))
            have hqD : (Nat.beq q.i j || dn l q.i) = dn l q.i := by
              have : Nat.beq q.i j = false := by
                cases hb : Nat.beq q.i j with
                | false => rfl
                | true => exact absurd (Nat.eq_of_beq_eq_true hb) hne
              rw [this]; rfl
            refine ⟨m1, m2, fun h => ⟨fun e => by rw [BM.set_ne _ _ (fun e => hcb e.symm)]; exact (m3 (hqD ▸ h)).1 e, fun y0 e => by rw [hput_ne hcb]; exact (m3 (hqD ▸ h)).2 y0 e⟩, fun h => ?_⟩
            have hf : insOf c (pend.filter fun p => Nat.beq p.i j || dn l p.i) = insOf c (pend.filter fun p => dn l p.i) :=
              insOf_filter (D := dn l) (D' := fun i => Nat.beq i j || dn l i) fun r hr => by
                by_cases e : r.i = j
                · have := pend_eq hd.inv.nodup hr hp (by rw [e, hpi])
                  subst this
                  exact .inr fun _ _ => by rw [hins]; simp
                · refine .inl ?_
                  have : Nat.beq r.i j = false := by
                    cases hb : Nat.beq r.i j with
                    | false => rfl
                    | true => exact absurd (Nat.eq_of_beq_eq_true hb) e
                  show (Nat.beq r.i j || dn l r.i) = dn l r.i
                  rw [this]; rfl
            rw [hput_ne hcb, m4 (hqD ▸ h)]
            congr 1
            unfold pobj
            rw [hf]
      · have hquiet : quiet C Hs nx (ev tm) o2 = some (p.v, none) := quiet_sub hs (hd.heap rfl rfl p hp hpD o2 hpo.op hw hobj hins nx)
        have hres := quiet_sound ok hr (hr.fresh nx (Nat.le_refl _)) hρ hquiet
        obtain ⟨v', hrun, hv⟩ := hres
        exact build w v' β Hs (step_value hm ht ho (ev' hw) hndef hrun (.inl rfl)) (BM.le_refl _) (fun _ _ => ⟨rfl, rfl⟩) hr hs hv (plain hobj hins)
      · obtain ⟨k1, k2, k3, _⟩ := hd.blk p hp b x hobj
        have hg := (k3 hpD).2 x0 hst
        obtain ⟨w', hrun, hr'⟩ := stV_sound ok hr hnx hρ hop hq hg
        have hbl : b < LIMIT := by omega
        have hnil : insOf b (pend.filter fun p => Nat.beq p.i j || dn l p.i) = [] := insOf_nil fun r hr k v hrv => by
          have hr' := List.mem_filter.1 hr
          obtain ⟨q0, hq0, hq0o, hq0b⟩ := hd.inv.ins r hr'.1 b k v hrv
          have := block_eq hnd hq0 hp hq0o hobj
          subst this
          have hrne : r.i ≠ j := fun e => by
            have := pend_eq hd.inv.nodup hr'.1 hp (by rw [e, hpi])
            subst this; rw [hins] at hrv; cases hrv
          have hrD : dn l r.i = true := (bor_true.1 hr'.2).resolve_left hrne
          obtain ⟨⟨orr, horr, _⟩, _⟩ := hd.inv.rng r hr'.1
          have := befs_spec hd.ec (fun i hi => dn_range hd.size hi) ops.toList [] (fun i => by simp) (fun i o _ _ j hj => by simp [lnth, lget] at hj) r.i orr horr
            (fun e he hb => hd.ec r.i orr e hrD horr he hb) _ hq0b
          rw [this] at hpD; cases hpD
        have hx1 : pobj b x (pend.filter fun p => Nat.beq p.i j || dn l p.i) = x := by
          unfold stV at hq
          split at hq
          · split at hq
            · split at hq
              · cases hq; rfl
              · cases hq
            · cases hq
          · cases hq
        refine build w' undef β _ (step_value hm ht ho (ev' hw) hndef hrun (.inr ⟨rfl, rfl⟩)) (BM.le_refl _) (fun c hc => ?_) hr' ?_ (by rw [hv]; exact VR.undef) ?_
        · have : c ≠ b := fun e => hc (e ▸ mem_pblocks hp hobj)
          exact ⟨rfl, hput_ne fun e => this e.symm⟩
        · intro c y hc
          rw [hput_ne (fun e => by subst e; rw [k2] at hc; cases hc)]
          exact hs c y hc
        · intro q hq c y hy
          obtain ⟨m1, m2, m3, m4⟩ := hd.blk q hq c y hy
          by_cases e : q = p
          · subst e
            rw [hobj] at hy
            cases hy
            refine ⟨m1, m2, fun h => ?_, fun _ => by rw [hx1]; exact hput_same hbl⟩
            simp only [hpi, Nat.beq_refl, Bool.true_or] at h; cases h
          · have hcb : b ≠ c := fun e' => e (by subst e'; exact block_eq hnd hq hp hy hobj)
            have hne : q.i ≠ j := fun e' => e (pend_eq hd.inv.nodup hq hp (by rw [e', hpi]))
            have hqD : (Nat.beq q.i j || dn l q.i) = dn l q.i := by
              have : Nat.beq q.i j = false := by
                cases hb : Nat.beq q.i j with
                | false => rfl
                | true => exact absurd (Nat.eq_of_beq_eq_true hb) hne
              rw [this]; rfl
            refine ⟨m1, m2, fun h => ⟨(m3 (hqD ▸ h)).1, fun y0 e => by rw [hput_ne hcb]; exact (m3 (hqD ▸ h)).2 y0 e⟩, fun h => ?_⟩
            have hf : insOf c (pend.filter fun p => Nat.beq p.i j || dn l p.i) = insOf c (pend.filter fun p => dn l p.i) :=
              insOf_filter (D := dn l) (D' := fun i => Nat.beq i j || dn l i) fun r hr => by
                by_cases e : r.i = j
                · have := pend_eq hd.inv.nodup hr hp (by rw [e, hpi])
                  subst this
                  exact .inr fun _ _ => by rw [hins]; simp
                · refine .inl ?_
                  have : Nat.beq r.i j = false := by
                    cases hb : Nat.beq r.i j with
                    | false => rfl
                    | true => exact absurd (Nat.eq_of_beq_eq_true hb) e
                  show (Nat.beq r.i j || dn l r.i) = dn l r.i
                  rw [this]; rfl
            rw [hput_ne hcb, m4 (hqD ▸ h)]
            congr 1
            unfold pobj
            rw [hf]
end Go.Abs
