/-
  THE ABSTRACT MACHINE: what was carried out early is known to be there.
-/
import Derived.Test.YtahpijfhoopilaaGreatDoorAbsPend2
set_option linter.unusedSectionVars false
set_option linter.unusedVariables false
set_option linter.unusedSimpArgs false
namespace Go.Abs
open Go
variable [Ops]

theorem insIn_spec {mask b : Nat} : ∀ {L : List Pend}, insIn mask b L = true → ∀ p ∈ L, ∀ k v, p.ins = some (b, k, v) → mask.testBit p.i = true
  | [], _, p, hp, _, _, _ => by cases hp
  | q :: L, h, p, hp, k, v, hi => by
    simp only [insIn, Bool.and_eq_true] at h
    rcases List.mem_cons.1 hp with rfl | hp
    · have h1 := h.1
      rw [hi] at h1
      simpa [Nat.beq_refl] using h1
    · exact insIn_spec h.2 p hp k v hi

theorem madeIn_spec {mask b : Nat} : ∀ {L : List Pend}, madeIn mask b L = true → ∃ p ∈ L, ∃ x, p.obj = some (b, x) ∧ mask.testBit p.i = true
  | [], h => by simp [madeIn] at h
  | q :: L, h => by
    simp only [madeIn, Bool.or_eq_true] at h
    rcases h with h | h
    · split at h
      · rename_i c x hq
        simp only [Bool.and_eq_true] at h
        have := Nat.eq_of_beq_eq_true h.1
        subst this
        exact ⟨q, List.mem_cons_self, x, hq, h.2⟩
      · cases h
    · obtain ⟨p, hp, x, h1, h2⟩ := madeIn_spec h
      exact ⟨p, List.mem_cons_of_mem _ hp, x, h1, h2⟩

theorem OR.whole {C : Ctx} {N0 : Nat} {β : BM} {w : World} {i : BI} {b : Nat} {x : AObj} {ex full : List Pend} (h : OR C N0 β w i (Abs.pobj b x ex)) (he : insOf b ex = insOf b full)
    (hx : insOf b full ≠ [] → x = .map [] 0 true) : OR C N0 β w i (whole b x full) := by
  unfold Abs.whole
  split
  · rename_i hn
    rw [hn] at he
    unfold Abs.pobj at h
    split at h
    · rw [he] at h
      obtain ⟨es', h1, h2, ⟨es1, hp, _, her⟩, hbo⟩ := h
      have := hp.eq_nil
      subst this
      have hnil : es' = #[] := by
        apply Array.ext'
        cases hl : es'.toList with
        | nil => rfl
        | cons a l => rw [hl] at her; cases her
      subst hnil
      exact ⟨#[], h1, h2, ⟨[], .refl _, fun _ => rfl, .nil⟩, BornOk.nil _⟩
    · exact h
  · rename_i e es hn
    have hx' := hx (by rw [hn]; simp)
    subst hx'
    simp only [Abs.pobj, he, hn] at h
    exact h

theorem pblocks_cons {p : Pend} {ps : List Pend} (h : (pblocks (p :: ps)).Nodup) : (pblocks ps).Nodup ∧ ∀ b x, p.obj = some (b, x) → b ∉ pblocks ps := by
  unfold pblocks at h ⊢
  rw [List.filterMap_cons] at h
  split at h
  · rename_i hn
    exact ⟨h, fun b x hx => by rw [hx] at hn; simp at hn⟩
  · rename_i c hc
    rw [List.nodup_cons] at h
    refine ⟨h.2, fun b x hx => ?_⟩
    rw [hx] at hc
    simp at hc
    rw [hc]; exact h.1

theorem mem_pblocks_tail {p : Pend} {ps : List Pend} {b : Nat} (h : b ∉ pblocks (p :: ps)) : b ∉ pblocks ps := fun h' => h (by
  unfold pblocks at h' ⊢
  rw [List.filterMap_cons]
  split
  · exact h'
  · exact List.mem_cons_of_mem _ h')

theorem unlock_go {C : Ctx} {N0 : Nat} {w0 : World} {β : BM} {nx : Nat} {w : World} (hnx : nx < LIMIT) {mask : Nat} {D : Nat → Bool} (hm : ∀ i, mask.testBit i = true → D i = true) {full : List Pend}
    (hfull : (pblocks full).Nodup) (hins : ∀ p ∈ full, ∀ b k v, p.ins = some (b, k, v) → ∃ q ∈ full, q.obj = some (b, .map [] 0 true)) :
    ∀ (ps : List Pend), (∀ p ∈ ps, p ∈ full) → (pblocks ps).Nodup → ∀ (H1 Hs1 : AHeap), HR C N0 w0 β Hs1 nx w → Sub H1 Hs1 →
      (∀ p ∈ ps, ∀ b x, p.obj = some (b, x) → b < nx ∧ H1.get b = none ∧ (D p.i = true → Hs1.get b = some (pobj b x (full.filter fun p => D p.i)))) →
      ∀ (ps' : List Pend) (H' : AHeap), unlock mask full ps H1 = some (ps', H') →
      ∃ Hs', HR C N0 w0 β Hs' nx w ∧ Sub H' Hs' ∧ ps' = (ps.filter fun p => !(mask.testBit p.i)) ∧ (∀ b, b ∉ pblocks ps → H'.get b = H1.get b ∧ Hs'.get b = Hs1.get b) ∧ Sub H1 H' ∧
        (∀ p ∈ ps, mask.testBit p.i = false → ∀ b x, p.obj = some (b, x) → H'.get b = none ∧ Hs'.get b = Hs1.get b) ∧
        (∀ p ∈ ps, mask.testBit p.i = true → (∀ b x, p.obj = some (b, x) → insIn mask b full = true) ∧ (∀ b k v, p.obj = none → p.ins = some (b, k, v) → madeIn mask b full = true))
  | [], _, _, H1, Hs1, hr, hs, _, ps', H', hu => by
    simp only [unlock, Option.some.injEq, Prod.mk.injEq] at hu
    obtain ⟨rfl, rfl⟩ := hu
    exact ⟨Hs1, hr, hs, rfl, fun _ _ => ⟨rfl, rfl⟩, fun _ _ h => h, fun p hp => by (cases hp), fun p hp => by cases hp⟩
  | p :: ps, hsub, hnd, H1, Hs1, hr, hs, hb, ps', H', hu => by
    obtain ⟨hnd', hout⟩ := pblocks_cons hnd
    have hsub' : ∀ q ∈ ps, q ∈ full := fun q hq => hsub q (List.mem_cons_of_mem _ hq)
    have hpf := hsub p List.mem_cons_self
    have hb' := fun q hq => hb q (List.mem_cons_of_mem _ hq)
    unfold unlock at hu
    cases hbit : mask.testBit p.i with
    | false =>
      simp only [hbit] at hu
      split at hu
      · rename_i ps2 H2 hu2
        simp only [Option.some.injEq, Prod.mk.injEq] at hu
        obtain ⟨rfl, rfl⟩ := hu
        obtain ⟨Hs', k1, k2, k3, k4, k5, k6, k7⟩ := unlock_go hnx hm hfull hins ps hsub' hnd' H1 Hs1 hr hs hb' _ _ hu2
        refine ⟨Hs', k1, k2, ?_, fun b hbn => k4 b (mem_pblocks_tail hbn), k5, fun q hq hqb b x hx => ?_, fun q hq hqb => ?_⟩
        · rw [List.filter_cons, hbit, k3]; simp
        · rcases List.mem_cons.1 hq with rfl | hq
          · obtain ⟨m1, m2⟩ := k4 b (hout b x hx)
            exact ⟨m1.trans (hb q List.mem_cons_self b x hx).2.1, m2⟩
          · exact k6 q hq hqb b x hx
        · rcases List.mem_cons.1 hq with rfl | hq
          · rw [hbit] at hqb; cases hqb
          · exact k7 q hq hqb
      · cases hu
    | true =>
      simp only [hbit] at hu
      have hf : (p :: ps).filter (fun p => !(mask.testBit p.i)) = ps.filter fun p => !(mask.testBit p.i) := by rw [List.filter_cons, hbit]; simp
      split at hu
      · rename_i b x hobj
        split at hu
        · rename_i hin
          obtain ⟨m1, m2, m3⟩ := hb p List.mem_cons_self b x hobj
          have hD := hm _ hbit
          have hg := m3 hD
          obtain ⟨i, hi, hor⟩ := hr.obj _ _ hg
          have hbl : b < LIMIT := by omega
          have hex : insOf b (full.filter fun p => D p.i) = insOf b full := by
            have := insOf_filter (b := b) (D := fun _ => true) (D' := D) (L := full) fun r hr => by
              cases hrD : D r.i with
              | true => exact .inl rfl
              | false =>
                refine .inr fun k v hrv => ?_
                have := hm _ (insIn_spec hin r hr k v hrv)
                rw [hrD] at this; cases this
            rw [this, List.filter_eq_self.2 (fun _ _ => rfl)]
          have hwh := hor.whole hex (fun hne => by
            cases he : insOf b full with
            | nil => exact absurd he hne
            | cons e es =>
              obtain ⟨r, hr1, hr2⟩ := insOf_mem (b := b) (L := full) (e := e) (by rw [he]; exact List.mem_cons_self)
              obtain ⟨q, hq1, hq2⟩ := hins r hr1 b _ _ hr2
              have := block_eq hfull hq1 hpf hq2 hobj
              subst this
              rw [hobj] at hq2
              cases hq2; rfl)
          have hr2 := hr.update hnx hg hi rfl (fun _ _ => rfl) (RowKit.Below.refl _ _) hwh
          have hs2 : Sub (hput H1 b (whole b x full)) (hput Hs1 b (whole b x full)) := fun c y hc => by
            by_cases e : b = c
            · subst e; rw [hput_same hbl] at hc ⊢; exact hc
            · rw [hput_ne e] at hc ⊢; exact hs c y hc
          have hbo := hout b x hobj
          obtain ⟨Hs', k1, k2, k3, k4, k5, k6, k7⟩ := unlock_go hnx hm hfull hins ps hsub' hnd' _ _ hr2 hs2 (fun q hq c y hy => by
            have hne : b ≠ c := fun e => hbo (by subst e; exact mem_pblocks hq hy)
            obtain ⟨n1, n2, n3⟩ := hb' q hq c y hy
            exact ⟨n1, by rw [hput_ne hne]; exact n2, fun h => by rw [hput_ne hne]; exact n3 h⟩) _ _ hu
          refine ⟨Hs', k1, k2, by rw [hf]; exact k3, fun c hc => ?_, fun c y hc => ?_, fun q hq hqb c y hy => ?_, fun q hq hqb => ?_⟩
          · have hne : b ≠ c := fun e => hc (by subst e; exact mem_pblocks List.mem_cons_self hobj)
            obtain ⟨n1, n2⟩ := k4 c (mem_pblocks_tail hc)
            exact ⟨by rw [n1, hput_ne hne], by rw [n2, hput_ne hne]⟩
          · refine k5 c y ?_
            rw [hput_ne (fun e => by subst e; rw [m2] at hc; cases hc)]
            exact hc
          · rcases List.mem_cons.1 hq with rfl | hq
            · rw [hbit] at hqb; cases hqb
            · have hne : b ≠ c := fun e => hbo (by subst e; exact mem_pblocks hq hy)
              obtain ⟨n1, n2⟩ := k6 q hq hqb c y hy
              exact ⟨n1, by rw [n2, hput_ne hne]⟩
          · rcases List.mem_cons.1 hq with rfl | hq
            · exact ⟨fun c y hy => by rw [hobj] at hy; cases hy; exact hin, fun c k v hn => by rw [hobj] at hn; cases hn⟩
            · exact k7 q hq hqb
        · cases hu
      · rename_i hobj
        have rec' : unlock mask full ps H1 = some (ps', H') → (∀ b k v, p.ins = some (b, k, v) → madeIn mask b full = true) →
            ∃ Hs', HR C N0 w0 β Hs' nx w ∧ Sub H' Hs' ∧ ps' = ((p :: ps).filter fun p => !(mask.testBit p.i)) ∧ (∀ b, b ∉ pblocks (p :: ps) → H'.get b = H1.get b ∧ Hs'.get b = Hs1.get b) ∧ Sub H1 H' ∧
              (∀ q ∈ p :: ps, mask.testBit q.i = false → ∀ b x, q.obj = some (b, x) → H'.get b = none ∧ Hs'.get b = Hs1.get b) ∧
              (∀ q ∈ p :: ps, mask.testBit q.i = true → (∀ b x, q.obj = some (b, x) → insIn mask b full = true) ∧ (∀ b k v, q.obj = none → q.ins = some (b, k, v) → madeIn mask b full = true)) := by
          intro hu2 hmade
          obtain ⟨Hs', k1, k2, k3, k4, k5, k6, k7⟩ := unlock_go hnx hm hfull hins ps hsub' hnd' H1 Hs1 hr hs hb' _ _ hu2
          refine ⟨Hs', k1, k2, by rw [hf]; exact k3, fun b hbn => k4 b (mem_pblocks_tail hbn), k5, fun q hq hqb b x hx => ?_, fun q hq hqb => ?_⟩
          · rcases List.mem_cons.1 hq with rfl | hq
            · rw [hbit] at hqb; cases hqb
            · exact k6 q hq hqb b x hx
          · rcases List.mem_cons.1 hq with rfl | hq
            · exact ⟨fun c y hy => by (rw [hobj] at hy; cases hy), fun c k v _ hi => hmade c k v hi⟩
            · exact k7 q hq hqb
        split at hu
        · rename_i hn
          exact rec' hu (fun b k v hi => by rw [hn] at hi; cases hi)
        · rename_i b k v hi0
          split at hu
          · rename_i hmade
            exact rec' hu (fun b2 k2 v2 hi => by rw [hi0] at hi; cases hi; exact hmade)
          · cases hu

theorem unlock_sound {C : Ctx} {ng : Nat} {N0 : Nat} {w0 : World} {β : BM} {H Hs : AHeap} {nx : Nat} {w : World} (hr : HR C N0 w0 β Hs nx w) (hnx : nx < LIMIT) (hs : Sub H Hs)
    {ops : Array Oper} {done : Nat} {pend : List Pend} {D : Nat → Bool} {tm : List Value} {tm' : Array Value}
    (hi : DInv C ng β ops done pend D tm tm') (hb : BInv β H Hs nx pend pend D) (hh : HInv C H ops pend D tm) (hnd : (pblocks pend).Nodup)
    {mask : Nat} (hm : ∀ i, mask.testBit i = true → D i = true) {pend' : List Pend} {H' : AHeap} (hu : unlock mask pend pend H = some (pend', H')) :
    ∃ Hs', HR C N0 w0 β Hs' nx w ∧ Sub H' Hs' ∧ (∀ b, b ∉ pblocks pend → H'.get b = H.get b ∧ Hs'.get b = Hs.get b) ∧ (∀ p ∈ pend', p ∈ pend ∧ mask.testBit p.i = false) ∧ (pblocks pend').Nodup ∧
      (∀ b, b ∈ pblocks pend' → b ∈ pblocks pend) ∧
      DInv C ng β ops done pend' D tm tm' ∧ BInv β H' Hs' nx pend' pend' D ∧ HInv C H' ops pend' D tm := by
  obtain ⟨Hs', k1, k2, k3, k4, k5, k6, k7⟩ := unlock_go hnx hm hnd (fun p hp b k v hv => let ⟨q, h1, h2, _⟩ := hi.ins p hp b k v hv; ⟨q, h1, h2⟩) pend (fun _ h => h) hnd H Hs hr hs
    (fun p hp b x hx => let ⟨h1, h2, _, h4⟩ := hb p hp b x hx; ⟨h1, h2, h4⟩) _ _ hu
  have hmem : ∀ p, p ∈ pend' ↔ p ∈ pend ∧ mask.testBit p.i = false := fun p => by rw [k3, List.mem_filter]; simp
  have hsl : pend'.Sublist pend := by rw [k3]; exact List.filter_sublist
  refine ⟨Hs', k1, k2, k4, fun p hp => (hmem p).1 hp, (hsl.filterMap _).nodup hnd, fun b hbm => (hsl.filterMap _).subset hbm, ?_, ?_, ?_⟩
  · refine ⟨hi.len, fun t => ?_, hi.sub, fun i hlt hd => ?_, fun p hp => hi.mem p ((hmem p).1 hp).1, (hsl.map _).nodup hi.nodup, fun p hp => hi.pok p ((hmem p).1 hp).1,
      fun p hp => hi.rng p ((hmem p).1 hp).1, fun p hp q hq => hi.pair p ((hmem p).1 hp).1 q ((hmem q).1 hq).1, fun p hp b k v hv => ?_, fun p hp q hq => hi.keys p ((hmem p).1 hp).1 q ((hmem q).1 hq).1⟩
    · rcases hi.slot t with h | ⟨p, hp, hD, ho⟩
      · exact .inl h
      · refine .inr ⟨p, (hmem p).2 ⟨hp, ?_⟩, hD, ho⟩
        cases hbit : mask.testBit p.i with
        | false => rfl
        | true => rw [hm _ hbit] at hD; cases hD
    · rcases hi.sup i hlt hd with h | ⟨p, hp, e⟩
      · exact .inl h
      · cases hbit : mask.testBit p.i with
        | false => exact .inr ⟨p, (hmem p).2 ⟨hp, hbit⟩, e⟩
        | true => exact .inl (e ▸ hm _ hbit)
    · obtain ⟨hp1, hp2⟩ := (hmem p).1 hp
      obtain ⟨q, hq, hqo, hqb⟩ := hi.ins p hp1 b k v hv
      refine ⟨q, (hmem q).2 ⟨hq, ?_⟩, hqo, hqb⟩
      cases hbit : mask.testBit q.i with
      | false => rfl
      | true =>
        have := insIn_spec ((k7 q hq hbit).1 b _ hqo) p hp1 k v hv
        rw [hp2] at this; cases this
  · intro q hq b x hx
    obtain ⟨hq1, hq2⟩ := (hmem q).1 hq
    obtain ⟨h1, h2, h3, h4⟩ := hb q hq1 b x hx
    obtain ⟨n1, n2⟩ := k6 q hq1 hq2 b x hx
    refine ⟨h1, n1, fun hD => ⟨(h3 hD).1, fun x0 e => by rw [n2]; exact (h3 hD).2 x0 e⟩, fun hD => ?_⟩
    rw [n2, h4 hD]
    congr 1
    have hf : insOf b (pend.filter fun p => D p.i) = insOf b (pend'.filter fun p => D p.i) := by
      rw [k3, List.filter_filter]
      refine (insOf_filter (D := D) (D' := fun i => D i && !(mask.testBit i)) fun r hr => ?_).symm
      cases hbit : mask.testBit r.i with
      | false => exact .inl (by simp)
      | true =>
        refine .inr fun k v hv => ?_
        have hro : r.obj = none := (hi.rng r hr).2 (by rw [hv]; simp)
        obtain ⟨q0, hq0, y, hy, hqb⟩ := madeIn_spec ((k7 r hr hbit).2 b k v hro hv)
        have e := block_eq hnd hq0 hq1 hy hx
        subst e
        rw [hq2] at hqb; cases hqb
    unfold pobj
    rw [hf]
  · intro p hp hD o ho hw h1 h2 nx'
    exact quiet_sub k5 (hh p ((hmem p).1 hp).1 hD o ho hw h1 h2 nx')
end Go.Abs
