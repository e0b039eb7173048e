/-
  THE ABSTRACT MACHINE: a frame goes on with a value.
-/
import Derived.Test.YtbnlcffnmlgomaaGreatDoorAbsFrame
set_option linter.unusedSectionVars false
set_option linter.unusedVariables false
set_option linter.unusedSimpArgs false
namespace Go.Abs
open Go
variable [Ops]

theorem putDst_eq (tm : List Value) (d : Option Tmp) (v : Value) : putDst tm d v = match d with | some t => tm.set t v | none => tm := by
  unfold putDst
  cases d with
  | none => rfl
  | some t => simp [lset_eq]

theorem putDst_len (tm : List Value) (d : Option Tmp) (v : Value) : (putDst tm d v).length = tm.length := by
  rw [putDst_eq]; cases d <;> simp

theorem putDst_ne {tm : List Value} {d : Option Tmp} {v : Value} {t : Nat} (h : d ≠ some t) : (putDst tm d v)[t]? = tm[t]? := by
  rw [putDst_eq]
  cases d with
  | none => rfl
  | some e => exact List.getElem?_set_ne (fun h' => h (by rw [h']))

theorem putDst_same {tm : List Value} {v : Value} {t : Nat} (h : t < tm.length) : (putDst tm (some t) v)[t]? = some v := by
  rw [putDst_eq]; simp [h]

/-- what Frame.finish makes of the slots -/
def putA (tm' : Array Value) (d : Option Tmp) (v : Value) : Array Value :=
  match d with
  | some t => tm'.setIfInBounds t v
  | none => tm'
theorem putA_size (tm' : Array Value) (d : Option Tmp) (v : Value) : (putA tm' d v).size = tm'.size := by cases d <;> simp [putA]
theorem putA_toList (tm' : Array Value) (d : Option Tmp) (v : Value) : (putA tm' d v).toList = match d with | some t => tm'.toList.set t v | none => tm'.toList := by
  cases d <;> simp [putA]
theorem putA_ne {tm' : Array Value} {d : Option Tmp} {v : Value} {t : Nat} (h : d ≠ some t) : (putA tm' d v)[t]? = tm'[t]? := by
  cases d with
  | none => rfl
  | some e => exact Array.getElem?_setIfInBounds_ne (fun h' => h (by rw [h']))
theorem putA_same {tm' : Array Value} {v : Value} {t : Nat} (h : t < tm'.size) : (putA tm' (some t) v)[t]? = some v := by simp [putA, h]

theorem LR.put {β : BM} {tm : List Value} {tm' : Array Value} (h : LR β tm tm'.toList) (d : Option Tmp) {v v' : Value} (hv : VR β v v') : LR β (putDst tm d v) (putA tm' d v').toList := by
  rw [putDst_eq, putA_toList]
  cases d with
  | none => exact h
  | some t => exact h.set hv t

theorem VA.put {β : BM} {tm : List Value} {tm' : Array Value} (hl : tm.length = tm'.size) (d : Option Tmp) {v v' : Value} (hv : VR β v v') {t : Nat} (h : d = some t ∨ VA β tm tm' t) :
    VA β (putDst tm d v) (putA tm' d v') t := by
  intro u hu
  by_cases e : d = some t
  · subst e
    have hlt : t < tm.length := by
      rcases Nat.lt_or_ge t tm.length with h' | h'
      · exact h'
      · rw [List.getElem?_eq_none (by rw [putDst_len]; exact h')] at hu; cases hu
    rw [putDst_same hlt] at hu
    cases hu
    exact ⟨v', putA_same (by omega), hv⟩
  · rw [putDst_ne e] at hu
    rw [putA_ne e]
    rcases h with h | h
    · exact absurd h e
    · exact h u hu

theorem ev_put {ops : List Oper} {o : Oper} {tm : List Value} {d : Option Tmp} {v : Value} (h : ∀ t, d = some t → t ∉ looks ops o) :
    ∀ x ∈ o.op.operands, ev (putDst tm d v) x = ev tm x := by
  intro x hx
  cases x with
  | tmp t =>
    have : d ≠ some t := fun e => h t e (looks_operand (Array.mem_def.1 hx))
    simp only [ev, lget_eq, putDst_ne this]
  | _ => rfl

theorem wantedL_put {ops : List Oper} {o : Oper} {tm : List Value} {d : Option Tmp} {v : Value} (h : ∀ t, d = some t → t ∉ looks ops o) :
    wantedL ops (putDst tm d v) o = wantedL ops tm o := by
  unfold wantedL
  split
  · rfl
  · rename_i g want hg
    rw [lget_eq]
    split
    · rename_i x hx
      split
      · rename_i e he
        have : d ≠ some e := fun e' => h e e' (looks_guard hg hx he)
        rw [lget_eq, lget_eq, putDst_ne this]
      · rfl
    · rfl

theorem guardOk_put {ops : List Oper} {o : Oper} {tm : List Value} {d : Option Tmp} {v : Value} (h : ∀ t, d = some t → t ∉ looks ops o) :
    guardOk ops (putDst tm d v) o = guardOk ops tm o := by
  unfold guardOk
  split
  · rfl
  · rename_i g want hg
    rw [lget_eq]
    split
    · rename_i x hx
      split
      · rename_i e he
        have : d ≠ some e := fun e' => h e e' (looks_guard hg hx he)
        rw [lget_eq, lget_eq, putDst_ne this]
      · rfl
    · rfl

theorem POk.put {C : Ctx} {ng : Nat} {ops : Array Oper} {tm : List Value} {p : Pend} {o : Oper} (h : POk C ng ops tm p o) (d : Option Tmp) (v : Value)
    (hd : ∀ t, d = some t → t ∉ looks ops.toList o ∧ o.dst ≠ some t) : POk C ng ops (putDst tm d v) p o := by
  have hd1 : ∀ t, d = some t → t ∉ looks ops.toList o := fun t e => (hd t e).1
  refine { h with guard := (guardOk_put hd1).trans h.guard, slot := fun e he hlt => ?_, val := ?_ }
  · rw [putDst_ne (fun e' => (hd e e').2 he)]
    exact h.slot e he (by rw [putDst_len] at hlt; exact hlt)
  · rw [wantedL_put hd1, insP_congr (ev_put hd1)]
    simp only [quiet_congr (ev_put hd1)]
    exact h.val

theorem HInv.put {C : Ctx} {H : AHeap} {ops : Array Oper} {pend : List Pend} {D : Nat → Bool} {tm : List Value} (h : HInv C H ops pend D tm) (d : Option Tmp) (v : Value)
    (hd : ∀ p ∈ pend, ∀ o, ops[p.i]? = some o → ∀ t, d = some t → t ∉ looks ops.toList o) : HInv C H ops pend D (putDst tm d v) := by
  intro p hp hD o ho hw h1 h2 nx
  rw [wantedL_put (hd p hp o ho)] at hw
  rw [quiet_congr (ev_put (hd p hp o ho))]
  exact h p hp hD o ho hw h1 h2 nx

theorem apart_spec {ops : List Oper} {m : Nat} {o : Oper} : ∀ {pend : List Pend}, apart ops m o pend = true → ∀ p ∈ pend, ∀ q, ops[p.i]? = some q →
    (∀ d, q.dst = some d → d ∈ looks ops o → m.testBit p.i = true) ∧ (∀ d, o.dst = some d → d ∉ looks ops q ∧ q.dst ≠ some d)
  | [], _, p, hp, _, _ => by cases hp
  | x :: xs, h, p, hp, q, hq => by
    unfold apart at h
    rw [lget_eq] at h
    rcases List.mem_cons.1 hp with rfl | hp
    · rw [hq] at h
      simp only [Bool.and_eq_true] at h
      refine ⟨fun d hd hl => ?_, fun d hd => ?_⟩
      · have h1 := h.1.1
        rw [hd] at h1
        simp only [Bool.or_eq_true, Bool.not_eq_true'] at h1
        rcases h1 with h1 | h1
        · exact h1
        · rw [memN_iff.2 hl] at h1; cases h1
      · have h1 := h.1.2
        rw [hd] at h1
        simp only [Bool.and_eq_true, Bool.not_eq_true'] at h1
        refine ⟨fun hm => ?_, fun he => ?_⟩
        · rw [memN_iff.2 hm] at h1; cases h1.1
        · rw [he] at h1; simp [Nat.beq_refl] at h1
    · split at h
      · simp only [Bool.and_eq_true] at h
        exact apart_spec h.2 p hp q hq
      · cases h

theorem bor_beq {D : Nat → Bool} {c j : Nat} : (Nat.beq j c || D j) = false ↔ j ≠ c ∧ D j = false := by
  simp only [Bool.or_eq_false_iff]
  constructor
  · rintro ⟨h1, h2⟩; exact ⟨fun e => by (subst e; rw [Nat.beq_refl] at h1; cases h1), h2⟩
  · rintro ⟨h1, h2⟩
    refine ⟨?_, h2⟩
    cases hb : Nat.beq j c with
    | false => rfl
    | true => exact absurd (Nat.eq_of_beq_eq_true hb) h1
theorem bor_true {D : Nat → Bool} {c j : Nat} : (Nat.beq j c || D j) = true ↔ j = c ∨ D j = true := by
  simp only [Bool.or_eq_true]
  constructor
  · rintro (h | h)
    · exact .inl (Nat.eq_of_beq_eq_true h)
    · exact .inr h
  · rintro (h | h)
    · subst h; exact .inl (Nat.beq_refl _)
    · exact .inr h

theorem testBit_done {done i j : Nat} : (Nat.lor done (2 ^ i)).testBit j = (done.testBit j || decide (i = j)) := by
  rw [testBit_lor, Nat.testBit_two_pow]

/-- the late one has been carried out -/
theorem DInv.late {C : Ctx} {ng : Nat} {β : BM} {ops : Array Oper} {done : Nat} {pend : List Pend} {D : Nat → Bool} {tm : List Value} {tm' : Array Value}
    (h : DInv C ng β ops done pend D tm tm') {cur m : Nat} {o : Oper} (ho : ops[cur]? = some o) (hn : done.testBit cur = false) (ha : apart ops.toList m o pend = true)
    {v v' : Value} (hv : VR β v v') :
    DInv C ng β ops (Nat.lor done (2 ^ cur)) pend (fun j => Nat.beq j cur || D j) (putDst tm o.dst v) (putA tm' o.dst v') := by
  have hne : ∀ p ∈ pend, p.i ≠ cur := fun p hp e => by
    have := h.mem p hp
    rw [e, hn] at this; cases this
  have hap : ∀ p ∈ pend, ∀ q, ops[p.i]? = some q → ∀ t, o.dst = some t → t ∉ looks ops.toList q ∧ q.dst ≠ some t := fun p hp q hq t ht =>
    (apart_spec ha p hp q (by simpa using hq)).2 t ht
  refine ⟨?_, fun t => ?_, fun i hi => ?_, fun i hlt hi => ?_, fun p hp => ?_, h.nodup, fun p hp hD => ?_, h.rng, h.pair, h.ins, h.keys⟩
  · rw [putDst_len, putA_size]; exact h.len
  · rcases h.slot t with hs | ⟨p, hp, hD, q, hq, hqd⟩
    · exact .inl (VA.put h.len _ hv (.inr hs))
    · exact .inr ⟨p, hp, bor_beq.2 ⟨hne p hp, hD⟩, q, hq, hqd⟩
  · rw [testBit_done]
    rcases bor_true.1 hi with rfl | hi
    · simp
    · simp [h.sub i hi]
  · rw [testBit_done] at hi
    simp only [Bool.or_eq_true, decide_eq_true_eq] at hi
    rcases hi with hi | hi
    · rcases h.sup i hlt hi with hd | hp
      · exact .inl (bor_true.2 (.inr hd))
      · exact .inr hp
    · exact .inl (bor_true.2 (.inl hi.symm))
  · rw [testBit_done, h.mem p hp]; rfl
  · obtain ⟨q, hq⟩ := h.pok p hp (bor_beq.1 hD).2
    exact ⟨q, hq.put _ _ (hap p hp q hq.op)⟩

theorem BInv.same {β : BM} {H Hs : AHeap} {nx : Nat} {full pend : List Pend} {D D' : Nat → Bool} (h : BInv β H Hs nx full pend D) (h1 : ∀ p ∈ full, D' p.i = D p.i) (h2 : ∀ p ∈ pend, D' p.i = D p.i) :
    BInv β H Hs nx full pend D' := by
  have hf : (full.filter fun p => D' p.i) = full.filter fun p => D p.i := List.filter_congr fun p hp => h1 p hp
  intro p hp b x hx
  rw [hf, h2 p hp]
  exact h p hp b x hx

theorem range_drop {n k : Nat} {i : Nat} {r : List Nat} (h : (List.range n).drop k = i :: r) : i = k ∧ k < n ∧ r = (List.range n).drop (k + 1) := by
  have hlt : k < n := by
    rcases Nat.lt_or_ge k n with h' | h'
    · exact h'
    · rw [List.drop_eq_nil_of_le (by simpa using h')] at h; cases h
  have := List.drop_eq_getElem_cons (l := List.range n) (i := k) (by simpa using hlt)
  rw [this] at h
  simp at h
  exact ⟨h.1.symm, hlt, h.2.symm⟩

theorem finish_keeps (fr : Frame) (v : Value) : (fr.finish v).fn = fr.fn ∧ (fr.finish v).kind = fr.kind ∧ (fr.finish v).mode = fr.mode ∧ (fr.finish v).roundOf = fr.roundOf ∧ (fr.finish v).defers = fr.defers := by
  unfold Frame.finish
  split <;> exact ⟨rfl, rfl, rfl, rfl, rfl⟩

theorem FB.finish {β : BM} {fr fr2 : AFrame} {fr' : Frame} (h : FB β fr fr') (v : Value) (h1 : fr2.fn = fr.fn) (h2 : fr2.kind = fr.kind) (h3 : fr2.ret = fr.ret) (h4 : fr2.roundOf = fr.roundOf)
    (h5 : fr2.defers = fr.defers) : FB β fr2 (fr'.finish v) := by
  obtain ⟨k1, k2, k3, k4, k5⟩ := finish_keeps fr' v
  exact ⟨by rw [k1, h1]; exact h.fn, by rw [k2, h2]; exact h.kind, by rw [k3, h3]; exact h.mode, by rw [k4, h4]; exact h.round, by rw [k5, h5]; exact h.defers⟩

theorem FR.finish {C : Ctx} {ng : Nat} {β : BM} {H Hs : AHeap} {nx : Nat} {fr fr2 : AFrame} {fr' : Frame} (h : FR C ng β H Hs nx true fr fr') {v v' : Value}
    (hf : finish fr v = some fr2) (hv : VR β v v') : FR C ng β H Hs nx false fr2 (fr'.finish v') ∧ fblocks fr2 = fblocks fr := by
  obtain ⟨hb, ht⟩ := h
  obtain ⟨fn, tmps, todo, defers, ret, kind, round⟩ := fr
  obtain ⟨fn', tmps', todo', defers', mode', kind', round'⟩ := fr'
  simp only at ht
  cases ht with
  | norm h1 h2 =>
    cases h2 with
    | nil => simp [Abs.finish] at hf
    | cons hi hk =>
      cases hi with
      | inRegion k0 =>
        rename_i aops
        simp only [Abs.finish] at hf
        cases hd : aops.toList.drop k0 with
        | nil => rw [hd] at hf; simp at hf
        | cons o rest =>
          rw [hd] at hf
          simp only [Option.some.injEq] at hf
          subst hf
          have hlt : k0 < aops.size := by
            rcases Nat.lt_or_ge k0 aops.size with h' | h'
            · exact h'
            · rw [List.drop_eq_nil_of_le (by simpa using h')] at hd; cases hd
          have hd2 := List.drop_eq_getElem_cons (l := aops.toList) (i := k0) (by simpa using hlt)
          rw [hd2] at hd
          simp only [List.cons.injEq] at hd
          have hr := List.drop_eq_getElem_cons (l := List.range aops.size) (i := k0) (by simpa using hlt)
          simp only [List.getElem_range] at hr
          have ho : aops[k0]? = some o := by rw [Array.getElem?_eq_getElem hlt]; rw [← hd.1]; simp
          refine ⟨⟨hb.finish v' rfl rfl rfl rfl rfl, ?_⟩, by simp [fblocks]⟩
          rw [hr]
          simp only [Frame.finish, ho, Option.bind_some]
          have := LR.put h1 o.dst hv
          refine .norm ?_ (.cons ?_ hk)
          · cases hod : o.dst <;> (rw [hod] at this; simpa [putA] using this)
          · rw [← hd.2]; exact .inRegion (k0 + 1)
      | inRange hl =>
        simp only [Abs.finish, Option.some.injEq] at hf
        subst hf
        exact ⟨⟨hb.finish v' rfl rfl rfl rfl rfl, .norm h1 (.cons (.endRange hl) hk)⟩, by simp [fblocks]⟩
      | _ => simp [Abs.finish] at hf
  | dreg hr hd hk =>
    rename_i ops bef done cur pend chk l rest
    obtain ⟨rest', o, rfl, ho, hlate, hap⟩ := (hd.wait rfl).ex
    have hdn := (hd.wait rfl).done
    simp only [Abs.finish, lget_eq, Array.getElem?_toList, ho, Option.some.injEq] at hf
    subst hf
    refine ⟨⟨hb.finish v' rfl rfl rfl rfl rfl, ?_⟩, by simp [fblocks]⟩
    simp only [Frame.finish, ho, Option.bind_some]
    cases hd.ord with
    | cons hready hord =>
      obtain ⟨_, _, _, _, _⟩ := ready_spec hd.ec hd.size hready
      have hcl : cur < l.size := by rw [hd.size]; exact (Array.getElem?_eq_some_iff.1 ho).1
      have hD : dn (l.setIfInBounds cur true) = fun j => Nat.beq j cur || dn l j := funext fun j => dn_set hcl j
      have hne : ∀ p ∈ pend, p.i ≠ cur := fun p hp e => by
        have := hd.inv.mem p hp
        rw [e, hdn] at this; cases this
      have hsame : ∀ p ∈ pend, (Nat.beq p.i cur || dn l p.i) = dn l p.i := fun p hp => by
        have : Nat.beq p.i cur = false := by
          cases hb : Nat.beq p.i cur with
          | false => rfl
          | true => exact absurd (Nat.eq_of_beq_eq_true hb) (hne p hp)
        rw [this]; rfl
      have hinv := hd.inv.late ho hdn hap hv
      refine .dreg hr ⟨hd.bef, hd.back, by simpa using hd.size, ec_set hd.ec hd.size hready, hord, ?_, ?_, fun h => by (cases h), fun h => by cases h⟩ hk
      · rw [hD]
        cases hod : o.dst <;> (rw [hod] at hinv; simpa [putA] using hinv)
      · rw [hD]; exact hd.blk.same hsame hsame
end Go.Abs
