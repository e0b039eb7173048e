/-
  THE ABSTRACT MACHINE: loops over maps, whole.
-/
import Derived.Test.YtahpijfhoopilaaGreatDoorAbsLoop2
set_option linter.unusedSectionVars false
set_option linter.unusedVariables false
set_option linter.unusedSimpArgs false
namespace Go.Abs
open Go
variable [Ops]

theorem born_inj {es : List MapEntry} (h : (es.map (·.born)).Nodup) {a b : Nat} {x y : MapEntry} (ha : es[a]? = some x) (hb : es[b]? = some y) (e : x.born = y.born) : a = b := by
  have ha' : (es.map (·.born))[a]? = some x.born := by simp [ha]
  have hb' : (es.map (·.born))[b]? = some y.born := by simp [hb]
  have hla : a < (es.map (·.born)).length := (List.getElem?_eq_some_iff.1 ha').1
  have hlb : b < (es.map (·.born)).length := (List.getElem?_eq_some_iff.1 hb').1
  have e1 := (List.getElem?_eq_some_iff.1 ha').2
  have e2 := (List.getElem?_eq_some_iff.1 hb').2
  exact (List.getElem_inj h (h₀ := hla) (h₁ := hlb)).1 (by rw [e1, e2, e])

theorem find_born {es : Array MapEntry} (h : (es.toList.map (·.born)).Nodup) {e : MapEntry} (he : e ∈ es) : es.find? (fun x => MapEntry.born x == e.born) = some e := by
  rw [← Array.find?_toList]
  cases hf : es.toList.find? (fun x => MapEntry.born x == e.born) with
  | none => exact absurd (List.find?_eq_none.1 hf e (Array.mem_toList_iff.2 he)) (by simp)
  | some x =>
    have hx := List.find?_some hf
    have hm := List.mem_of_find?_eq_some hf
    obtain ⟨a, ha⟩ := List.getElem?_of_mem hm
    obtain ⟨b, hb⟩ := List.getElem?_of_mem (Array.mem_toList_iff.2 he)
    have := born_inj h ha hb (by simpa using hx)
    subst this
    rw [ha] at hb
    exact hb

theorem fewer {es : List MapEntry} {seen : Array Nat} {x : MapEntry} (hx : x ∈ es) (hn : x.born ∉ seen) :
    (es.filter fun e => !(seen.push x.born).contains e.born).length < (es.filter fun e => !seen.contains e.born).length := by
  have hsub : (es.filter fun e => !(seen.push x.born).contains e.born) = (es.filter fun e => !seen.contains e.born).filter fun e => !(e.born == x.born) := by
    rw [List.filter_filter]
    congr 1
    funext e
    simp [Array.contains_push, Bool.and_comm]
    cases h1 : decide (e.born ∈ seen) <;> cases h2 : e.born == x.born <;> simp_all
  rw [hsub]
  refine List.length_filter_lt_length_iff_exists.2 ⟨x, ?_, ?_⟩
  · rw [List.mem_filter]; exact ⟨hx, by simp [hn]⟩
  · simp

section
variable {E : Env} (ok : E.Ok) {N0 : Nat} {w0 : World} {base : List Frame}

include ok in
theorem loop_core {β : BM} {Hs : AHeap} {s s' : AState} (hnx1 : s.next + 1 < LIMIT) (hret : s.top.ret = false) {ops rest : List Oper} {o : Oper} {k : List AItem} (ht : s.top.todo = .inRegion ops (o :: rest) :: k)
    {t : Tmp} (hop : o.op = .next (.tmp t) false) (hgd : o.guard = none) {r m since : Nat} (hev : ev s.top.tmps (.tmp t) = .pointer (some ⟨r, 0, none⟩)) (hr : s.heap.get r = some (.miterU m since))
    {es : List (Value × Value × Nat)} (hpl : plainF s.top = true) {F : Nat} {W : List Nat} {bad : List (Value × Value × Nat)} {obls : List Obl} (hsift : sift E F W s r es = (bad, obls)) (ho : ∀ x ∈ obls, x.a = x.b)
    (hA : bad = [] → ∃ top, finish s.top (.tuple ⟨[.bool false]⟩) = some top ∧ s' = { s with top })
    (hB : ∀ e0, bad = [e0] → ∃ top, finish s.top (.tuple ⟨[.bool true, e0.1, e0.2.1]⟩) = some top ∧ (s' = stampS (badS E s r e0 top) r m since es e0.1 ∨ s' = badS E s r e0 top))
    {i j : BI} (hi : β r = some i) (hj : β m = some j) {es' : Array MapEntry} {es1 : List (Value × Value × Nat)} {ex : Bool} (hmg : s.heap.get m = some (.map es since ex)) (hperm : es1.Perm es) (her : ER β ex es1 es'.toList) (hbo : BornOk since es'.toList) :
    ∀ (n : Nat) (fr : Frame) (cs : List Frame) (w : World) (seen : Array Nat) (stepped : Nat), SR E N0 w0 base false β Hs s fr cs w → w.heap[i.blk]? = some (.mapIter (some j.blk) since seen stepped) →
      w.heap[j.blk]? = some (.map es' since) → since ≤ stepped → (es'.toList.filter fun e => !seen.contains e.born).length ≤ n →
      (bad = [] ∨ ∃ (e0 : Value × Value × Nat) (n0 : Nat) (e0' : MapEntry), bad = [e0] ∧ es1[n0]? = some e0 ∧ es'.toList[n0]? = some e0' ∧ MapEntry.born e0' ∉ seen) → Reaches E N0 w0 base β fr cs w s' := by
  have hnx : s.next < LIMIT := by omega
  have hrm : r ≠ m := fun e => by rw [e] at hr; rw [hr] at hmg; cases hmg
  obtain ⟨d1, d2, d3, d4⟩ := plainF_spec hpl
  obtain ⟨hbadN, hgood⟩ := sift_spec hsift
  intro n
  induction n using Nat.strongRecOn with
  | ind n ih =>
    intro fr cs w seen stepped h h1 h2 h3 hn hbad
    have hnn := h.inN (by rw [ht]; intro _ _ _ _ _ _ _ h; cases h)
    obtain ⟨aops, i0, rr, k', hat, haops⟩ := inRegion_at h hnn hret ht
    have hm : fr.mode = .run := by rw [hnn.mode, hret]; rfl
    have hw : Region.wanted o (yielded aops fr.tmps) = true := by simp [Region.wanted, hgd]
    have hnd : ∀ c, fr.roundOf ≠ none → o.op ≠ .defer c := fun c _ e => by rw [hop] at e; cases e
    have hvr := ev_tmp hat.len (hat.va t (looks_operand (by rw [hop]; simp [Op.operands])))
    rw [hev] at hvr
    obtain ⟨i2, hi2, hval⟩ := hvr.ptr_inv
    rw [hi] at hi2
    cases hi2
    obtain ⟨j2, hj2, jm, seen2, stepped2, g1, g2, g3, g4, g5⟩ := h.hr.obj _ _ (h.sub _ _ hr)
    rw [hi] at hj2
    cases hj2
    have hfe : fr.eval (.tmp t) = .pointer (some ⟨i.blk, 0, none⟩) := by
      show fr.tmps.getD t undef = _
      rw [hval, g4]
    have hexec : ∀ {v : Value} {w1 : World}, (Instr.next (.pointer (some ⟨i.blk, 0, none⟩)) false o.type).run E.P w = .ok v w1 → (execOp fr.eval o).run E.P w = .ok (.value v) w1 := fun {v w1} hx => by
      simp only [execOp, hop, hfe, Sem.run_bind, hx, Result.andThen]
      rfl
    have hgr : ∃ y, s.heap.get r = some y := ⟨_, hr⟩
    have hij : i.blk ≠ j.blk := fun e => by
      rw [e] at h1
      rw [h1] at h2
      cases h2
    have hwait : SR E N0 w0 base true β Hs s fr cs w := h.wait_of_norm hnn
    have hfin : ∀ {v v' : Value} {top : AFrame} {w1 : World}, finish s.top v = some top → VR β v v' → HR E.toCtx N0 w0 β Hs s.next w1 → (execOp fr.eval o).run E.P w = .ok (.value v') w1 →
        Steps E.P (lone fr cs w) (lone (fr.finish v') cs w1) ∧ SR E N0 w0 base false β Hs { s with top } (fr.finish v') cs w1 := fun {v v' top w1} hf hv hr1 hx => by
      obtain ⟨hf1, hf2⟩ := hwait.top.finish hf hv
      refine ⟨.one (step_value hm hat.todo hat.op hw hnd hx (.inl rfl)), hr1, h.sub, h.glob, hf1, h.rest, ?_⟩
      show (fblocks top ++ _).Nodup
      rw [hf2]; exact h.nd
    rcases next_run E.P o.type h1 h2 (fun e he => hbo.1 e (Array.mem_toList_iff.2 he)) h3 with ⟨e', hmem, hns, w1, hw1, hrun⟩ | ⟨hall, hrun⟩
    · -- an entry
      obtain ⟨n1, hn1⟩ := List.getElem?_of_mem (Array.mem_toList_iff.2 hmem)
      obtain ⟨e, he1, hkey, hka, hve⟩ := (ER.at her (n := n1)).1 e' hn1
      have hees : e ∈ es := hperm.mem_iff.1 (List.mem_of_getElem? he1)
      have hr0 : HR E.toCtx N0 w0 β Hs s.next w1 := by
        rcases hw1 with rfl | rfl
        · exact h.hr
        · exact h.hr.drew
      have hh1 : w1.heap = w.heap := by rcases hw1 with rfl | rfl <;> rfl
      have hr1 : HR E.toCtx N0 w0 β Hs s.next { w1 with heap := w1.heap.setIfInBounds i.blk (.mapIter (some j.blk) since (seen.push e'.born) since) } :=
        hr0.setAt hnx (h.sub _ _ hr) hi g2 _ (fun w' hw' => by
          have hjj : jm = j := by rw [hj] at g3; cases g3; rfl
          subst hjj
          exact ⟨jm, seen.push e'.born, since, hw', g2, g3, g4, Nat.le_refl _⟩)
      have hvt : VR β (.tuple ⟨[.bool true, e.1, e.2.1]⟩) (.tuple #[.bool true, e'.key, e'.val]) :=
        .tuple (.cons (.atom rfl) (.cons (by rw [hkey]; exact .atom (by cases he : e.1 <;> rw [he] at hka <;> simp [keyAtom] at hka <;> rfl)) (.cons hve .nil)))
      have hib : i.blk < w.heap.size := h.hr.lt _ _ hi
      have hjb : j.blk < w.heap.size := h.hr.lt _ _ hj
      have hOR : OR E.toCtx ({ w1 with heap := w1.heap.setIfInBounds i.blk (.mapIter (some j.blk) since (seen.push e'.born) since) } : World).heap.size β { w1 with heap := w1.heap.setIfInBounds i.blk (.mapIter (some j.blk) since (seen.push e'.born) since) } i (.miterC e.1 e.2.1) :=
        ⟨j.blk, since, seen.push e'.born, since, es', e'.born, e', by simp [hh1, hib], by simp [hh1, hib], by
          show (w1.heap.setIfInBounds i.blk _)[j.blk]? = _
          rw [Array.getElem?_setIfInBounds, if_neg hij, hh1]; exact h2, by simp [hh1]; exact hjb, by simp, find_born hbo.2 hmem, hkey, hka, hve, g4⟩
      have hplt : ∀ {top : AFrame}, finish s.top (.tuple ⟨[.bool true, e.1, e.2.1]⟩) = some top → top.todo.all plainI = true := fun {top} hf => by
        unfold Abs.finish at hf
        rw [ht] at hf
        simp only [Option.some.injEq] at hf
        subst hf
        rw [ht] at d4
        simpa [plainI] using d4
      have hstamp : ∀ {sB : AState} {frB : Frame} {wB : World}, SR E N0 w0 base false β Hs sB frB cs wB → sB.heap = s.heap → sB.next = s.next → sB.top.todo.all plainI = true → wB.heap[i.blk]? = some (.mapIter (some j.blk) since (seen.push e'.born) since) →
          wB.heap[j.blk]? = some (.map es' since) → ∃ β' Hs', β.le β' ∧ SR E N0 w0 base false β' Hs' (stampS sB r m since es e.1) frB cs wB := fun {sB frB wB} hS hh hn hp q1 q2 => by
        unfold stampS
        split
        · rename_i p0 hpos
          exact hS.stamp (by rw [hn]; exact hnx1) hp (by rw [hh]; exact hr) hi (by rw [hh]; exact hmg) hj hrm q1 g2 g4 (Nat.le_refl _) q2 hmem (by simp) hkey hpos
        · exact ⟨β, Hs, BM.le_refl _, hS⟩
      have hw1i : ({ w1 with heap := w1.heap.setIfInBounds i.blk (.mapIter (some j.blk) since (seen.push e'.born) since) } : World).heap[i.blk]? = some (.mapIter (some j.blk) since (seen.push e'.born) since) := by simp [hh1, hib]
      have hw1j : ({ w1 with heap := w1.heap.setIfInBounds i.blk (.mapIter (some j.blk) since (seen.push e'.born) since) } : World).heap[j.blk]? = some (.map es' since) := by
        show (w1.heap.setIfInBounds i.blk _)[j.blk]? = _
        rw [Array.getElem?_setIfInBounds, if_neg hij, hh1]; exact h2
      by_cases hb : e ∈ bad
      · rcases hbad with hb0 | ⟨e0, n0, e0', hb0, _⟩
        · rw [hb0] at hb; cases hb
        · rw [hb0] at hb
          have : e = e0 := List.mem_singleton.1 hb
          subst this
          obtain ⟨top, hf, hs'⟩ := hB e hb0
          rcases hs' with rfl | rfl
          rotate_left
          · obtain ⟨k1, k2⟩ := hfin hf hvt hr1 (hexec hrun)
            unfold badS
            split
            · rename_i s2 hrt
              split
              · rename_i hcal hcond
                simp only [Bool.and_eq_true, Bool.not_eq_true'] at hcond
                have hfz := k2.freezeC hnx (hplt hf) (r := r) hr hi hOR
                obtain ⟨β2, Hs2, fr2, cs2, w2, q1, q2, q3⟩ := runEn_sound ok 60 hfz hrt
                obtain ⟨rfl, hS⟩ := k2.unfreezeC q2 q3 hcal hcond.2.1 (hplt hf) hcond.1.1 hve (ut := .tuple ⟨[e'.key, e'.val]⟩) (.tuple (.cons (by rw [hkey]; exact .atom (by cases he : e.1 <;> rw [he] at hka <;> simp [keyAtom] at hka <;> rfl)) (.cons hve .nil))) hcond.2.2
                exact ⟨β, Hs, fr2, _, w2, k1.trans q1, BM.le_refl _, hS⟩
              · exact ⟨β, Hs, _, cs, _, k1, BM.le_refl _, k2⟩
            · exact ⟨β, Hs, _, cs, _, k1, BM.le_refl _, k2⟩
          obtain ⟨k1, k2⟩ := hfin hf hvt hr1 (hexec hrun)
          unfold badS
          split
          · rename_i s2 hrt
            split
            · rename_i hcal hcond
              simp only [Bool.and_eq_true, Bool.not_eq_true'] at hcond
              have hfz := k2.freezeC hnx (hplt hf) (r := r) hr hi hOR
              obtain ⟨β2, Hs2, fr2, cs2, w2, q1, q2, q3⟩ := runEn_sound ok 60 hfz hrt
              obtain ⟨rfl, hS⟩ := k2.unfreezeC q2 q3 hcal hcond.2.1 (hplt hf) hcond.1.1 hve (ut := .tuple ⟨[e'.key, e'.val]⟩) (.tuple (.cons (by rw [hkey]; exact .atom (by cases he : e.1 <;> rw [he] at hka <;> simp [keyAtom] at hka <;> rfl)) (.cons hve .nil))) hcond.2.2
              have hbl := q3.hr.below
              obtain ⟨β', Hs', p1, p2⟩ := hstamp hS rfl rfl (plainF_spec hcond.1.1).2.2.2 (by rw [hbl.block _ (by simp [hh1, hib])]; exact hw1i) (by rw [hbl.block _ (by simp [hh1, hjb])]; exact hw1j)
              exact ⟨β', Hs', fr2, _, w2, k1.trans q1, p1, p2⟩
            · obtain ⟨β', Hs', p1, p2⟩ := hstamp k2 rfl rfl (hplt hf) hw1i hw1j
              exact ⟨β', Hs', _, cs, _, k1, p1, p2⟩
          · obtain ⟨β', Hs', p1, p2⟩ := hstamp k2 rfl rfl (hplt hf) hw1i hw1j
            exact ⟨β', Hs', _, cs, _, k1, p1, p2⟩
      · rcases hgood e hees with hb2 | ⟨s2, hs2, hobl⟩
        · exact absurd hb2 hb
        · unfold neutral at hs2
          split at hs2
          · rename_i top hf
            split at hs2
            · rename_i s3 hrt
              split at hs2
              · rename_i hcond
                cases hs2
                simp only [Bool.and_eq_true] at hcond
                have hfn2 := Nat.eq_of_beq_eq_true hcond.2
                have hob := ho _ hobl
                simp only [Prod.mk.injEq] at hob
                obtain ⟨ho1, ho2⟩ := hob
                obtain ⟨k1, k2⟩ := hfin hf hvt hr1 (hexec hrun)
                have hfz := k2.freezeC hnx (hplt hf) (r := r) hr hi hOR
                obtain ⟨⟨β2, Hs2, fr2, cs2, w2, q1, q2, q3⟩, q4⟩ := runTo_sound ok F hfz hrt
                have hcal : s2.callers = [] ∧ s2.top.ret = false := by
                  unfold atNext at q4
                  split at q4
                  · rename_i c1 c2 c3; exact ⟨c1, c2⟩
                  · cases q4
                obtain ⟨rfl, hS⟩ := h.unfreeze hr1 q2 q3 hcal.1 hret hcal.2 hpl hcond.1 hfn2 ho1 ho2
                have hbl := q3.hr.below
                have hsz : ∀ b, b < w.heap.size → w2.heap[b]? = (w1.heap.setIfInBounds i.blk (.mapIter (some j.blk) since (seen.push e'.born) since))[b]? := fun b hb =>
                  hbl.block b (by show b < (w1.heap.setIfInBounds i.blk _).size; rw [Array.size_setIfInBounds, hh1]; exact hb)
                have hlen := fewer (Array.mem_toList_iff.2 hmem) hns
                obtain ⟨β3, Hs3, fr3, cs3, w3, p1, p2, p3⟩ := ih ((es'.toList.filter fun e => !(seen.push e'.born).contains e.born).length) (by omega) fr2 cs2 w2 (seen.push e'.born) since hS
                  (by rw [hsz _ hib]; simp [hh1, hib]) (by rw [hsz _ hjb, Array.getElem?_setIfInBounds, if_neg hij, hh1]; exact h2) (Nat.le_refl _) (Nat.le_refl _) (by
                    rcases hbad with hb0 | ⟨e0, n0, e0', hb0, c1, c2, c3⟩
                    · exact .inl hb0
                    · refine .inr ⟨e0, n0, e0', hb0, c1, c2, fun hc => ?_⟩
                      rcases Array.mem_push.1 hc with hc | hc
                      · exact c3 hc
                      · have := born_inj hbo.2 c2 hn1 hc
                        subst this
                        rw [he1] at c1
                        cases c1
                        exact hb (by rw [hb0]; exact List.mem_singleton.2 rfl))
                exact ⟨β3, Hs3, fr3, cs3, w3, k1.trans (q1.trans p1), p2, p3⟩
              · cases hs2
            · cases hs2
          · cases hs2
    · -- none is left
      rcases hbad with hb0 | ⟨e0, n0, e0', hb0, c1, c2, c3⟩
      · obtain ⟨top, hf, rfl⟩ := hA hb0
        obtain ⟨k1, k2⟩ := hfin (v' := .tuple #[.bool false]) hf (.tuple (.cons (.atom rfl) .nil)) h.hr (hexec hrun)
        exact ⟨β, Hs, _, cs, _, k1, BM.le_refl _, k2⟩
      · exact absurd (hall e0' (Array.mem_toList_iff.1 (List.mem_of_getElem? c2))) c3

theorem lerase_mem {α : Type} : ∀ {l : List α} {p q : Nat} {x : α}, l[p]? = some x → p ≠ q → x ∈ lerase l q
  | [], p, q, x, h, _ => by simp at h
  | y :: ys, 0, q, x, h, hne => by
    simp only [List.getElem?_cons_zero, Option.some.injEq] at h
    subst h
    cases q with
    | zero => exact absurd rfl hne
    | succ q => simp [lerase]
  | y :: ys, p + 1, q, x, h, hne => by
    cases q with
    | zero => simp only [lerase]; exact List.mem_of_getElem? (by simpa using h)
    | succ q => simp only [lerase]; exact List.mem_cons_of_mem _ (lerase_mem (by simpa using h) (by omega))

include ok in
theorem loop_coreS {β : BM} {Hs : AHeap} {s s' : AState} (hnx : s.next < LIMIT) (hret : s.top.ret = false) {ops rest : List Oper} {o : Oper} {k : List AItem} (ht : s.top.todo = .inRegion ops (o :: rest) :: k)
    {t : Tmp} (hop : o.op = .next (.tmp t) false) (hgd : o.guard = none) {r m since p0 : Nat} (hev : ev s.top.tmps (.tmp t) = .pointer (some ⟨r, 0, none⟩)) (hr : s.heap.get r = some (.miterS m since p0))
    {es : List (Value × Value × Nat)} (hpl : plainF s.top = true) {F : Nat} {W : List Nat} {obls : List Obl} (hsift : sift E F W s r (lerase es p0) = ([], obls)) (ho : ∀ x ∈ obls, x.a = x.b)
    (hA : ∃ top, finish s.top (.tuple ⟨[.bool false]⟩) = some top ∧ s' = { s with top })
    {i j : BI} (hi : β r = some i) (hj : β m = some j) {es' : Array MapEntry} (hrel : SRel β j es es'.toList) (hbo : BornOk since es'.toList) :
    ∀ (n : Nat) (fr : Frame) (cs : List Frame) (w : World) (seen : Array Nat) (stepped : Nat), SR E N0 w0 base false β Hs s fr cs w → w.heap[i.blk]? = some (.mapIter (some j.blk) since seen stepped) →
      w.heap[j.blk]? = some (.map es' since) → since ≤ stepped → (es'.toList.filter fun e => !seen.contains e.born).length ≤ n → j.st p0 ∈ seen → Reaches E N0 w0 base β fr cs w s' := by
  obtain ⟨d1, d2, d3, d4⟩ := plainF_spec hpl
  obtain ⟨hbadN, hgood⟩ := sift_spec hsift
  intro n
  induction n using Nat.strongRecOn with
  | ind n ih =>
    intro fr cs w seen stepped h h1 h2 h3 hn hsn
    have hnn := h.inN (by rw [ht]; intro _ _ _ _ _ _ _ h; cases h)
    obtain ⟨aops, i0, rr, k', hat, haops⟩ := inRegion_at h hnn hret ht
    have hm : fr.mode = .run := by rw [hnn.mode, hret]; rfl
    have hw : Region.wanted o (yielded aops fr.tmps) = true := by simp [Region.wanted, hgd]
    have hnd : ∀ c, fr.roundOf ≠ none → o.op ≠ .defer c := fun c _ e => by rw [hop] at e; cases e
    have hvr := ev_tmp hat.len (hat.va t (looks_operand (by rw [hop]; simp [Op.operands])))
    rw [hev] at hvr
    obtain ⟨i2, hi2, hval⟩ := hvr.ptr_inv
    rw [hi] at hi2
    cases hi2
    obtain ⟨j2, hj2, jm, seen2, stepped2, g1, g2, g3, g4, g5, _⟩ := h.hr.obj _ _ (h.sub _ _ hr)
    rw [hi] at hj2
    cases hj2
    have hfe : fr.eval (.tmp t) = .pointer (some ⟨i.blk, 0, none⟩) := by
      show fr.tmps.getD t undef = _
      rw [hval, g4]
    have hexec : ∀ {v : Value} {w1 : World}, (Instr.next (.pointer (some ⟨i.blk, 0, none⟩)) false o.type).run E.P w = .ok v w1 → (execOp fr.eval o).run E.P w = .ok (.value v) w1 := fun {v w1} hx => by
      simp only [execOp, hop, hfe, Sem.run_bind, hx, Result.andThen]
      rfl
    have hgr : ∃ y, s.heap.get r = some y := ⟨_, hr⟩
    have hij : i.blk ≠ j.blk := fun e => by
      rw [e] at h1
      rw [h1] at h2
      cases h2
    have hwait : SR E N0 w0 base true β Hs s fr cs w := h.wait_of_norm hnn
    have hfin : ∀ {v v' : Value} {top : AFrame} {w1 : World}, finish s.top v = some top → VR β v v' → HR E.toCtx N0 w0 β Hs s.next w1 → (execOp fr.eval o).run E.P w = .ok (.value v') w1 →
        Steps E.P (lone fr cs w) (lone (fr.finish v') cs w1) ∧ SR E N0 w0 base false β Hs { s with top } (fr.finish v') cs w1 := fun {v v' top w1} hf hv hr1 hx => by
      obtain ⟨hf1, hf2⟩ := hwait.top.finish hf hv
      refine ⟨.one (step_value hm hat.todo hat.op hw hnd hx (.inl rfl)), hr1, h.sub, h.glob, hf1, h.rest, ?_⟩
      show (fblocks top ++ _).Nodup
      rw [hf2]; exact h.nd
    rcases next_run E.P o.type h1 h2 (fun e he => hbo.1 e (Array.mem_toList_iff.2 he)) h3 with ⟨e', hmem, hns, w1, hw1, hrun⟩ | ⟨hall, hrun⟩
    · -- an entry
      obtain ⟨p, e, he1, hborn, hkey, hka, hve⟩ := hrel e' (Array.mem_toList_iff.2 hmem)
      have hpp : p ≠ p0 := fun e => by subst e; rw [hborn] at hns; exact hns hsn
      have hees : e ∈ lerase es p0 := lerase_mem he1 hpp
      have hr0 : HR E.toCtx N0 w0 β Hs s.next w1 := by
        rcases hw1 with rfl | rfl
        · exact h.hr
        · exact h.hr.drew
      have hh1 : w1.heap = w.heap := by rcases hw1 with rfl | rfl <;> rfl
      have hr1 : HR E.toCtx N0 w0 β Hs s.next { w1 with heap := w1.heap.setIfInBounds i.blk (.mapIter (some j.blk) since (seen.push e'.born) since) } :=
        hr0.setAt hnx (h.sub _ _ hr) hi g2 _ (fun w' hw' => by
          have hjj : jm = j := by rw [hj] at g3; cases g3; rfl
          subst hjj
          exact ⟨jm, seen.push e'.born, since, hw', g2, g3, g4, Nat.le_refl _, by simp [hsn]⟩)
      have hvt : VR β (.tuple ⟨[.bool true, e.1, e.2.1]⟩) (.tuple #[.bool true, e'.key, e'.val]) :=
        .tuple (.cons (.atom rfl) (.cons (by rw [hkey]; exact .atom (by cases he : e.1 <;> rw [he] at hka <;> simp [keyAtom] at hka <;> rfl)) (.cons hve .nil)))
      have hib : i.blk < w.heap.size := h.hr.lt _ _ hi
      have hjb : j.blk < w.heap.size := h.hr.lt _ _ hj
      have hOR : OR E.toCtx ({ w1 with heap := w1.heap.setIfInBounds i.blk (.mapIter (some j.blk) since (seen.push e'.born) since) } : World).heap.size β { w1 with heap := w1.heap.setIfInBounds i.blk (.mapIter (some j.blk) since (seen.push e'.born) since) } i (.miterC e.1 e.2.1) :=
        ⟨j.blk, since, seen.push e'.born, since, es', e'.born, e', by simp [hh1, hib], by simp [hh1, hib], by
          show (w1.heap.setIfInBounds i.blk _)[j.blk]? = _
          rw [Array.getElem?_setIfInBounds, if_neg hij, hh1]; exact h2, by simp [hh1]; exact hjb, by simp, find_born hbo.2 hmem, hkey, hka, hve, g4⟩
      have hplt : ∀ {top : AFrame}, finish s.top (.tuple ⟨[.bool true, e.1, e.2.1]⟩) = some top → top.todo.all plainI = true := fun {top} hf => by
        unfold Abs.finish at hf
        rw [ht] at hf
        simp only [Option.some.injEq] at hf
        subst hf
        rw [ht] at d4
        simpa [plainI] using d4
      · rcases hgood e hees with hb2 | ⟨s2, hs2, hobl⟩
        · cases hb2
        · unfold neutral at hs2
          split at hs2
          · rename_i top hf
            split at hs2
            · rename_i s3 hrt
              split at hs2
              · rename_i hcond
                cases hs2
                simp only [Bool.and_eq_true] at hcond
                have hfn2 := Nat.eq_of_beq_eq_true hcond.2
                have hob := ho _ hobl
                simp only [Prod.mk.injEq] at hob
                obtain ⟨ho1, ho2⟩ := hob
                obtain ⟨k1, k2⟩ := hfin hf hvt hr1 (hexec hrun)
                have hfz := k2.freezeC hnx (hplt hf) (r := r) hr hi hOR
                obtain ⟨⟨β2, Hs2, fr2, cs2, w2, q1, q2, q3⟩, q4⟩ := runTo_sound ok F hfz hrt
                have hcal : s2.callers = [] ∧ s2.top.ret = false := by
                  unfold atNext at q4
                  split at q4
                  · rename_i c1 c2 c3; exact ⟨c1, c2⟩
                  · cases q4
                obtain ⟨rfl, hS⟩ := h.unfreeze hr1 q2 q3 hcal.1 hret hcal.2 hpl hcond.1 hfn2 ho1 ho2
                have hbl := q3.hr.below
                have hsz : ∀ b, b < w.heap.size → w2.heap[b]? = (w1.heap.setIfInBounds i.blk (.mapIter (some j.blk) since (seen.push e'.born) since))[b]? := fun b hb =>
                  hbl.block b (by show b < (w1.heap.setIfInBounds i.blk _).size; rw [Array.size_setIfInBounds, hh1]; exact hb)
                have hlen := fewer (Array.mem_toList_iff.2 hmem) hns
                obtain ⟨β3, Hs3, fr3, cs3, w3, p1, p2, p3⟩ := ih ((es'.toList.filter fun e => !(seen.push e'.born).contains e.born).length) (by omega) fr2 cs2 w2 (seen.push e'.born) since hS
                  (by rw [hsz _ hib]; simp [hh1, hib]) (by rw [hsz _ hjb, Array.getElem?_setIfInBounds, if_neg hij, hh1]; exact h2) (Nat.le_refl _) (Nat.le_refl _) (by simp [hsn])
                exact ⟨β3, Hs3, fr3, cs3, w3, k1.trans (q1.trans p1), p2, p3⟩
              · cases hs2
            · cases hs2
          · cases hs2
    · -- none is left
      obtain ⟨top, hf, rfl⟩ := hA
      obtain ⟨k1, k2⟩ := hfin (v' := .tuple #[.bool false]) hf (.tuple (.cons (.atom rfl) .nil)) h.hr (hexec hrun)
      exact ⟨β, Hs, _, cs, _, k1, BM.le_refl _, k2⟩
end
end Go.Abs
