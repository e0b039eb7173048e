/-
  THE ABSTRACT MACHINE: the steps of a region that draws its order.
-/
import Derived.Test.YtahpijfhoopilaaGreatDoorAbsSim2
set_option linter.unusedSectionVars false
set_option linter.unusedVariables false
set_option linter.unusedSimpArgs false
namespace Go.Abs
open Go
variable [Ops]

theorem HR.more {C : Ctx} {N0 : Nat} {w0 : World} {β : BM} {H : AHeap} {nx nx' : Nat} {w : World} (h : HR C N0 w0 β H nx w) (hn : nx ≤ nx') : HR C N0 w0 β H nx' w :=
  { h with fresh := fun b hb => h.fresh b (by omega) }

theorem insOf_mem_of {b : Nat} {k v : Value} : ∀ {L : List Pend} {p : Pend}, p ∈ L → p.ins = some (b, k, v) → (k, v, 0) ∈ insOf b L
  | [], _, h, _ => by cases h
  | q :: L, p, h, hi => by
    unfold insOf
    rcases List.mem_cons.1 h with rfl | h
    · rw [hi]; simp only [Nat.beq_refl]; exact List.mem_cons_self
    · have := insOf_mem_of h hi
      split
      · split
        · exact List.mem_cons_of_mem _ this
        · exact this
      · exact this

theorem insOk_spec {m b : Nat} {k : Value} {pend : List Pend} (h : insOk m b k pend = true) :
    (∃ q ∈ pend, q.obj = some (b, .map [] 0 true) ∧ m.testBit q.i = true) ∧ (∀ q ∈ pend, ∀ k' v', q.ins = some (b, k', v') → sameKey k k' = some false) := by
  simp only [insOk, Bool.and_eq_true] at h
  constructor
  · obtain ⟨q, hq, h1⟩ := List.any_eq_true.1 h.1
    split at h1
    · rename_i c hc
      simp only [Bool.and_eq_true] at h1
      have := Nat.eq_of_beq_eq_true h1.1
      subst this
      exact ⟨q, hq, hc, h1.2⟩
    · cases h1
  · intro q hq k' v' hi
    have := List.all_eq_true.1 h.2 _ (insOf_mem_of hq hi)
    split at this
    · rename_i hs; exact hs
    · cases this

theorem insP_insert {C : Ctx} {ρ : Operand → Value} {o : Oper} {e : Nat × Value × Value} (h : insP C ρ o = some e) : ∃ t m k x, o.op = .insert t m k x := by
  unfold insP at h
  split at h
  · exact ⟨_, _, _, _, by assumption⟩
  · cases h

section
variable {E : Env} (ok : E.Ok) {N0 : Nat} {w0 : World} {base : List Frame} {β : BM} {Hs : AHeap} {s s' : AState} {fr : Frame} {cs : List Frame} {w : World}

theorem lnth_bf {C : Ctx} {ng : Nat} {H : AHeap} {nx : Nat} {wait : Bool} {ops : Array Oper} {bef : List Nat} {done cur : Nat} {pend : List Pend} {chk : Bool} {l : Array Bool} {rest : List Nat} {tm : List Value} {tm' : Array Value}
    (hd : Dreg C ng β H Hs nx wait ops bef done cur pend chk l rest tm tm') (i : Nat) : lnth bef i = bf ops i := by rw [hd.bef]; rfl

/-- the frame on top is in a region that draws its order -/
structure InD (E : Env) (β : BM) (Hs : AHeap) (wait : Bool) (s : AState) (fr : Frame) (k : List AItem) (k' : List Item) (ops : Array Oper) (bef : List Nat) (done cur : Nat) (pend : List Pend) (chk : Bool) (l : Array Bool) (rest : List Nat) : Prop where
  todo : s.top.todo = .dreg ops bef done cur pend chk :: k
  todo' : fr.todo = .inRegion ops rest :: k'
  ret : s.top.ret = false
  d : Dreg E.toCtx E.ng β s.heap Hs s.next wait ops bef done cur pend chk l rest s.top.tmps fr.tmps
  k : TR β k k'

theorem SR.inD (h : SR E N0 w0 base false β Hs s fr cs w) {k : List AItem} {ops : Array Oper} {bef : List Nat} {done cur : Nat} {pend : List Pend} {chk : Bool} (ht : s.top.todo = .dreg ops bef done cur pend chk :: k) :
    ∃ k' l rest, InD E β Hs false s fr k k' ops bef done cur pend chk l rest := by
  have h1 := h.top.todo
  rw [ht] at h1
  generalize hq : fr.todo = q at h1
  cases h1 with
  | norm _ h2 => cases h2 with | cons h _ => cases h
  | dreg hr hd hk => exact ⟨_, _, _, ht, hq, hr, hd, hk⟩

theorem fblocks_dreg {k : List AItem} {ops : Array Oper} {bef : List Nat} {done cur : Nat} {pend : List Pend} {chk : Bool} {top : AFrame} (ht : top.todo = .dreg ops bef done cur pend chk :: k) : fblocks top = pblocks pend := by
  unfold fblocks; rw [ht]

include ok in
theorem early_sound (h : SR E N0 w0 base false β Hs s fr cs w) (hnx : s.next < LIMIT) {k : List AItem} {k' : List Item} {ops : Array Oper} {bef : List Nat} {done cur : Nat} {pend : List Pend} {l : Array Bool} {rest : List Nat}
    (hd : InD E β Hs false s fr k k' ops bef done cur pend false l rest) {i : Nat} {o : Oper} (ho : ops[i]? = some o) (he : isEarly o = true) (hn : done.testBit i = false) (hc : constsOk E.ng o = true)
    (hself : selfOk ops.toList o = true ∧ guardOk ops.toList s.top.tmps o = true) (hap : apart ops.toList (bf ops i) o pend = true) (hx : early E s k ops bef done i pend o = some s') : Reaches E N0 w0 base β fr cs w s' := by
  have hlt : ∀ b ∈ fblocks s.top ++ s.callers.flatMap fblocks, b < s.next := fun b hb => by
    rcases List.mem_append.1 hb with hb | hb
    · exact (h.top.lt b hb).1
    · exact (h.rest.lt b hb).1
  have hnd := h.nd
  have hfb := fblocks_dreg hd.todo
  -- the new frame
  have build : ∀ (p : Pend), p.i = i → ∀ (nx' : Nat), s.next ≤ nx' → 
      Dreg E.toCtx E.ng β s.heap Hs nx' false ops bef (Nat.lor done (2 ^ p.i)) 0 (p :: pend) false l rest (putDst s.top.tmps o.dst p.v) fr.tmps →
      (∀ b x, p.obj = some (b, x) → b = s.next) →
      Reaches E N0 w0 base β fr cs w { s with top := { s.top with tmps := putDst s.top.tmps o.dst p.v, todo := .dreg ops bef (Nat.lor done (2 ^ p.i)) 0 (p :: pend) false :: k }, next := nx' } := by
    intro p hpi nx' hle hdr hob
    refine ⟨β, Hs, fr, cs, w, .refl _ _, BM.le_refl _, h.hr.more hle, h.sub, h.glob, ⟨⟨h.top.base.fn, h.top.base.kind, h.top.base.mode, h.top.base.round, h.top.base.defers⟩, ?_⟩,
      h.rest.keep (BM.le_refl _) hle (fun _ _ hn => ⟨hn, rfl, rfl⟩), ?_⟩
    · show FT _ _ _ _ _ _ _ s.top.ret _ _ fr.tmps fr.todo
      rw [hd.todo']
      exact .dreg hd.ret hdr hd.k
    · show (pblocks (p :: pend) ++ s.callers.flatMap fblocks).Nodup
      rw [hfb] at hnd hlt
      unfold pblocks
      rw [List.filterMap_cons]
      split
      · exact hnd
      · rename_i b hb
        cases hpo : p.obj with
        | none => simp [hpo] at hb
        | some y =>
          obtain ⟨c, x⟩ := y
          simp [hpo] at hb
          subst hb
          have := hob _ _ hpo
          subst this
          rw [List.cons_append, List.nodup_cons]
          exact ⟨fun hm => by have := hlt _ hm; omega, hnd⟩
  have noblk : ∀ (p : Pend), p.obj = none → ∀ {P : Nat → AObj → Prop} b x, p.obj = some (b, x) → P b x := fun p hp P b x hx => by rw [hp] at hx; cases hx
  unfold early at hx
  split at hx
  · rename_i hw
    cases hx
    exact build ⟨i, undef, none, none, none⟩ rfl s.next (Nat.le_refl _)
      (hd.d.early (p := ⟨i, undef, none, none, none⟩) ho (.inl he) hn hc hself hap (.inl ⟨hw, rfl, rfl, rfl⟩) (fun _ _ _ h => by cases h) (fun _ _ h => by cases h) (fun _ h => by rw [hw] at h; cases h) (Nat.le_refl _)) (fun _ _ h => by cases h)
  · rename_i hw
    split at hx
    · rename_i b k0 v0 hip
      split at hx
      · rename_i hok
        cases hx
        rw [lnth_bf hd.d] at hok
        refine build ⟨i, undef, none, some (b, k0, v0), none⟩ rfl s.next (Nat.le_refl _)
          (hd.d.early (p := ⟨i, undef, none, some (b, k0, v0), none⟩) ho (.inl he) hn hc hself hap (.inr ⟨hw, .inl ⟨_, hip, rfl, rfl, rfl⟩⟩) (fun b2 k2 v2 h2 => by cases h2; exact insOk_spec hok) (fun _ _ h => by cases h) (fun _ _ _ h => by cases h) (Nat.le_refl _))
          (fun _ _ h => by cases h)
      · cases hx
    · rename_i hip
      split at hx
      · rename_i v hq
        cases hx
        exact build ⟨i, v, none, none, none⟩ rfl s.next (Nat.le_refl _)
          (hd.d.early (p := ⟨i, v, none, none, none⟩) ho (.inl he) hn hc hself hap (.inr ⟨hw, .inr (.inr (.inl ⟨hip, rfl, rfl, fun hr H nx => by rw [quiet_static (H' := s.heap) hr]; exact quiet_nx hq⟩))⟩) (fun _ _ _ h => by cases h) (fun _ _ h => by cases h)
            (fun _ _ _ _ nx => quiet_nx hq) (Nat.le_refl _)) (fun _ _ h => by cases h)
      · rename_i v x hq
        split at hx
        · rename_i hr
          cases hx
          have hnone : s.heap.get s.next = none := by
            cases hg : s.heap.get s.next with
            | none => rfl
            | some y =>
              obtain ⟨bi, hb, _⟩ := h.hr.obj _ _ (h.sub _ _ hg)
              rw [h.hr.fresh _ (Nat.le_refl _)] at hb; cases hb
          exact build ⟨i, v, some (s.next, x), none, none⟩ rfl (s.next + 1) (Nat.le_succ _)
            (hd.d.early (p := ⟨i, v, some (s.next, x), none, none⟩) ho (.inl he) hn hc hself hap (.inr ⟨hw, .inr (.inl ⟨hip, rfl, rfl, _, _, rfl, hr, fun H => by rw [quiet_static (H' := s.heap) hr]; exact hq⟩)⟩) (fun _ _ _ h => by cases h)
              (fun b y h2 => by cases h2; exact ⟨Nat.lt_succ_self _, hnone, fun _ => h.hr.fresh _ (Nat.le_refl _), fun _ h => by cases h⟩)
              (fun _ _ h _ => by cases h) (Nat.le_succ _)) (fun b y h2 => by cases h2; rfl)
        · cases hx
      · cases hx

theorem Sub.del {H Hs : AHeap} (hs : Sub H Hs) {b : Nat} (hb : b < LIMIT) : Sub (hdel H b) Hs := fun c y hc => by
  by_cases e : b = c
  · subst e; rw [hdel_same hb] at hc; cases hc
  · rw [hdel_ne e] at hc; exact hs c y hc

/-- a store that may not have been carried out as yet -/
theorem hold_sound (h : SR E N0 w0 base false β Hs s fr cs w) (hnx : s.next < LIMIT) {k : List AItem} {k' : List Item} {ops : Array Oper} {bef : List Nat} {done cur : Nat} {pend : List Pend} {l : Array Bool} {rest : List Nat}
    (hd : InD E β Hs false s fr k k' ops bef done cur pend false l rest) {i : Nat} {o : Oper} (ho : ops[i]? = some o) (hn : done.testBit i = false) (hx : hold E s k ops bef done i pend o = some s') : Reaches E N0 w0 base β fr cs w s' := by
  have hnd := h.nd
  have hfb := fblocks_dreg hd.todo
  rw [hfb] at hnd
  unfold hold at hx
  split at hx
  · rename_i hc
    simp only [Bool.and_eq_true] at hc
    obtain ⟨⟨hc, hself⟩, hap, hw⟩ := hc
    rw [lnth_bf hd.d] at hap
    split at hx
    · rename_i t a x hop
      split at hx
      · rename_i b f ea
        split at hx
        · rename_i x0 hg
          split at hx
          · rename_i b2 x1 hst
            cases hx
            have hb2 : b2 = b := by
              unfold stV at hst
              split at hst
              · rename_i b3 f3 n e3 _
                cases e3
                split at hst
                · split at hst
                  · cases hst; rfl
                  · cases hst
                · cases hst
              · cases hst
            subst hb2
            obtain ⟨bi, hbi, _⟩ := h.hr.obj _ _ (h.sub _ _ hg)
            have hbn : b2 < s.next := h.hr.lt_nx hbi
            have hbl : b2 < LIMIT := by omega
            have hleft : ∀ bs : List Nat, Left bs β β s.heap (hdel s.heap b2) Hs Hs := fun bs c _ hc => by
              refine ⟨?_, rfl, rfl⟩
              rw [hdel_ne (fun e => by subst e; rw [hg] at hc; cases hc)]
              exact hc
            have hd0 : Dreg E.toCtx E.ng β (hdel s.heap b2) Hs s.next false ops bef done cur pend true l rest s.top.tmps fr.tmps :=
              { hd.d with blk := hd.d.blk.keep (Nat.le_refl _) (hleft _), heap := fun h => by cases h }
            have hd1 := hd0.early (p := ⟨i, undef, some (b2, x1), none, some x0⟩) ho (.inr (by simp [isStore, hop])) hn hc hself hap
              (.inr ⟨hw, .inr (.inr (.inr ⟨rfl, rfl, t, a, x, b2, x0, x1, hop, rfl, rfl, by rw [ea]; exact hst⟩))⟩) (fun _ _ _ h => by cases h)
              (fun c y h2 => by cases h2; exact ⟨hbn, hdel_same hbl, fun h => (by cases h), fun y0 e => by cases e; exact h.sub _ _ hg⟩) (fun h => by cases h) (Nat.le_refl _)
            refine ⟨β, Hs, fr, cs, w, .refl _ _, BM.le_refl _, h.hr, h.sub.del hbl, h.glob, ⟨⟨h.top.base.fn, h.top.base.kind, h.top.base.mode, h.top.base.round, h.top.base.defers⟩, ?_⟩,
              h.rest.keep (BM.le_refl _) (Nat.le_refl _) (fun c hc hcn => hleft _ c hc hcn), ?_⟩
            · show FT _ _ _ _ _ _ _ s.top.ret _ _ fr.tmps fr.todo
              rw [hd.todo']
              exact .dreg hd.ret hd1 hd.k
            · show (b2 :: pblocks pend ++ s.callers.flatMap fblocks).Nodup
              rw [List.cons_append, List.nodup_cons]
              refine ⟨fun hm => ?_, hnd⟩
              rcases List.mem_append.1 hm with hm | hm
              · obtain ⟨q, hq, hqb⟩ := List.mem_filterMap.1 hm
                cases hqo : q.obj with
                | none => simp [hqo] at hqb
                | some y =>
                  obtain ⟨c, y⟩ := y
                  simp [hqo] at hqb
                  subst hqb
                  have := (hd.d.blk q hq _ _ hqo).2.1
                  rw [hg] at this; cases this
              · have := (h.rest.lt _ hm).2
                rw [hg] at this; cases this
          · cases hx
        · cases hx
      · cases hx
    · cases hx
  · cases hx

include ok in
/-- the model's machine carries out what was done early, until there is another one or none -/
theorem run_until (hnx : s.next < LIMIT) {k : List AItem} {ops : Array Oper} {bef : List Nat} {done cur : Nat} {pend : List Pend} (ht : s.top.todo = .dreg ops bef done cur pend false :: k)
    (hnone : pickOne true ops.toList bef done 0 = none) (k' : List Item) :
    ∀ (n : Nat) (β : BM) (Hs : AHeap) (fr : Frame) (w : World) (l : Array Bool) (rest : List Nat), rest.length ≤ n → SR E N0 w0 base false β Hs s fr cs w → InD E β Hs false s fr k k' ops bef done cur pend false l rest →
    ∃ β' Hs' fr' w' l' rest', Steps E.P (lone fr cs w) (lone fr' cs w') ∧ β.le β' ∧ SR E N0 w0 base false β' Hs' s fr' cs w' ∧ InD E β' Hs' false s fr' k k' ops bef done cur pend false l' rest' ∧
      (rest' = [] ∨ ∃ j r o, rest' = j :: r ∧ ops[j]? = some o ∧ isEarly o = false ∧ done.testBit j = false)
  | n, β, Hs, fr, w, l, [], _, h, hd => ⟨β, Hs, fr, w, l, [], .refl _ _, BM.le_refl _, h, hd, .inl rfl⟩
  | 0, β, Hs, fr, w, l, j :: rest, hn, h, hd => by simp at hn
  | n + 1, β, Hs, fr, w, l, j :: rest, hn, h, hd => by
    have hord := hd.d.ord
    cases hord with
    | cons hready hord =>
      obtain ⟨hdn, o, ho, hedges, hbefore⟩ := ready_spec hd.d.ec hd.d.size hready
      cases hdone : done.testBit j with
      | false =>
        refine ⟨β, Hs, fr, w, l, j :: rest, .refl _ _, BM.le_refl _, h, hd, .inr ⟨j, rest, o, rfl, ho, ?_, hdone⟩⟩
        cases he : isEarly o with
        | false => rfl
        | true =>
          have hlen : bef.length = ops.toList.length := by rw [hd.d.bef, befs_length]; simp
          have := pickOne_none hlen hnone j o (by simpa using ho) he (subset_of fun i hi => hd.d.inv.sub i (hbefore i (by rw [← hd.d.bef]; exact hi)))
          simp [hdone] at this
      | true =>
        have hfb := fblocks_dreg ht
        have hnd := h.nd
        rw [hfb] at hnd
        have hm : fr.mode = .run := by have := h.top.base.mode; rw [hd.ret] at this; simpa using this
        obtain ⟨w', v', β', Hs', hst, hle, hout, hr', hs', hd'⟩ := exec_pend ok.ctx h.glob h.hr hnx h.sub hd.d (List.nodup_append.1 hnd).1 hm hd.todo' ho hdone cs
        have hfin : fr.finish v' = { fr with tmps := putA fr.tmps o.dst v', todo := .inRegion ops rest :: k' } := by
          unfold Frame.finish
          rw [hd.todo']
          simp only [ho, Option.bind_some]
          cases o.dst <;> rfl
        rw [hfin] at hst
        have hdis : ∀ b ∈ s.callers.flatMap fblocks, b ∉ pblocks pend := fun b hb hb' => (List.nodup_append.1 hnd).2.2 b hb' b hb rfl
        have hSR : SR E N0 w0 base false β' Hs' s { fr with tmps := putA fr.tmps o.dst v', todo := .inRegion ops rest :: k' } cs w' := by
          refine ⟨hr', hs', h.glob.mono hle, ⟨h.top.base.mono hle |> fun b => ⟨b.fn, b.kind, b.mode, b.round, b.defers⟩, ?_⟩, h.rest.keep hle (Nat.le_refl _) (fun b hb hn => ?_), h.nd⟩
          · rw [ht]; exact .dreg hd.ret hd' (hd.k.mono hle)
          · obtain ⟨h1, h2⟩ := hout b (hdis b hb)
            exact ⟨hn, h2, h1⟩
        obtain ⟨β2, Hs2, fr2, w2, l2, rest2, k1, k1b, k2, k3, k4⟩ := run_until hnx ht hnone k' n β' Hs' _ w' _ rest (by simpa using hn) hSR ⟨ht, rfl, hd.ret, hd', hd.k.mono hle⟩
        exact ⟨β2, Hs2, fr2, w2, l2, rest2, .head hst k1, BM.le_trans hle k1b, k2, k3, k4⟩
end
end Go.Abs
