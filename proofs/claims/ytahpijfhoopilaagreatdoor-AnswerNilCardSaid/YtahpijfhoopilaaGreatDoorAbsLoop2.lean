/-
  THE ABSTRACT MACHINE: loops over maps: sound.
-/
import Derived.Test.YtahpijfhoopilaaGreatDoorAbsLoop
set_option linter.unusedSectionVars false
set_option linter.unusedVariables false
set_option linter.unusedSimpArgs false
namespace Go.Abs
open Go
variable [Ops]

theorem sift_spec {E : Env} {F : Nat} {W : List Nat} {s : AState} {r : Nat} : ∀ {es bad : List (Value × Value × Nat)} {obls : List Obl}, sift E F W s r es = (bad, obls) →
    (∀ e ∈ bad, neutral E F s r e = none) ∧ ∀ e ∈ es, e ∈ bad ∨ ∃ s2, neutral E F s r e = some s2 ∧ ⟨(s2.top.todo, maskT W s2.top.tmps 0), (s.top.todo, s.top.tmps)⟩ ∈ obls
  | [], bad, obls, h => by
    simp only [sift, Prod.mk.injEq] at h
    obtain ⟨rfl, rfl⟩ := h
    exact ⟨fun e he => (by cases he), fun e he => (by cases he)⟩
  | e :: es, bad, obls, h => by
    unfold sift at h
    generalize hr : sift E F W s r es = q at h
    obtain ⟨b1, o1⟩ := q
    simp only at h
    obtain ⟨h1, h2⟩ := sift_spec hr
    split at h
    · rename_i s2 hn
      simp only [Prod.mk.injEq] at h
      obtain ⟨rfl, rfl⟩ := h
      refine ⟨h1, fun e' he => ?_⟩
      rcases List.mem_cons.1 he with rfl | he
      · exact .inr ⟨s2, hn, List.mem_cons_self⟩
      · exact (h2 e' he).imp id fun ⟨s3, h3, h4⟩ => ⟨s3, h3, List.mem_cons_of_mem _ h4⟩
    · rename_i hn
      simp only [Prod.mk.injEq] at h
      obtain ⟨rfl, rfl⟩ := h
      refine ⟨fun e' he => ?_, fun e' he => ?_⟩
      · rcases List.mem_cons.1 he with rfl | he
        · exact hn
        · exact h1 e' he
      · rcases List.mem_cons.1 he with rfl | he
        · exact .inl List.mem_cons_self
        · exact (h2 e' he).imp (List.mem_cons_of_mem _) id

theorem plainF_spec {fr : AFrame} (h : plainF fr = true) : fr.defers = [] ∧ fr.roundOf = none ∧ fr.kind = .normal ∧ fr.todo.all plainI = true := by
  unfold plainF at h
  split at h
  · rename_i h1 h2 h3
    exact ⟨h1, h2, h3, h⟩
  · cases h

theorem fblocks_plain {fr : AFrame} (h : fr.todo.all plainI = true) : fblocks fr = [] := by
  unfold fblocks
  split
  · rename_i hq
    rw [hq] at h
    simp [plainI] at h
  · rfl

/-- one entry and its like -/
theorem ER.at {β : BM} {ex : Bool} {es : List (Value × Value × Nat)} {es' : List MapEntry} (h : ER β ex es es') {n : Nat} :
    (∀ e', es'[n]? = some e' → ∃ e, es[n]? = some e ∧ e'.key = e.1 ∧ keyAtom e.1 = true ∧ VR β e.2.1 e'.val) ∧ (∀ e, es[n]? = some e → ∃ e', es'[n]? = some e') := by
  induction h generalizing n with
  | nil => exact ⟨fun e' h => by simp at h, fun e h => by simp at h⟩
  | @cons k v v' m m' l l' hk hv hn _ ih =>
    cases n with
    | zero => exact ⟨fun e' h => by simp at h; subst h; exact ⟨(k, v, m), by simp, rfl, hk, hv⟩, fun e h => ⟨⟨k, v', m'⟩, by simp⟩⟩
    | succ n => simpa using ih (n := n)

section
variable {E : Env} (ok : E.Ok) {N0 : Nat} {w0 : World} {base : List Frame}

include ok in
theorem runTo_sound : ∀ (n : Nat) {β : BM} {Hs : AHeap} {s s' : AState} {fr : Frame} {cs : List Frame} {w : World}, SR E N0 w0 base false β Hs s fr cs w → runTo E n s = some s' →
    Reaches E N0 w0 base β fr cs w s' ∧ atNext s' = true
  | 0, β, Hs, s, s', fr, cs, w, h, hx => by simp [runTo] at hx
  | n + 1, β, Hs, s, s', fr, cs, w, h, hx => by
    unfold runTo at hx
    split at hx
    · rename_i hat
      cases hx
      exact ⟨⟨β, Hs, fr, cs, w, .refl _ _, BM.le_refl _, h⟩, hat⟩
    · split at hx
      · rename_i hlt
        split at hx
        · rename_i s1 hs1
          obtain ⟨β1, Hs1, fr1, cs1, w1, k1, k1b, k2⟩ := astep_sound ok h (by have := Nat.le_of_ble_eq_true hlt; omega) hs1
          obtain ⟨⟨β2, Hs2, fr2, cs2, w2, k3, k3b, k4⟩, k5⟩ := runTo_sound n k2 hx
          exact ⟨⟨β2, Hs2, fr2, cs2, w2, k1.trans k3, BM.le_trans k1b k3b, k4⟩, k5⟩
        · cases hx
      · cases hx

include ok in
theorem runEn_sound : ∀ (n : Nat) {β : BM} {Hs : AHeap} {s s' : AState} {fr : Frame} {cs : List Frame} {w : World}, SR E N0 w0 base false β Hs s fr cs w → runEn E n s = some s' → Reaches E N0 w0 base β fr cs w s'
  | 0, β, Hs, s, s', fr, cs, w, h, hx => by simp [runEn] at hx
  | n + 1, β, Hs, s, s', fr, cs, w, h, hx => by
    unfold runEn at hx
    split at hx
    · rename_i hlt
      split at hx
      · rename_i s1 hs1
        obtain ⟨β1, Hs1, fr1, cs1, w1, k1, k1b, k2⟩ := astep_sound ok h (by have := Nat.le_of_ble_eq_true hlt; omega) hs1
        split at hx
        · cases hx
          exact ⟨β1, Hs1, fr1, cs1, w1, k1, k1b, k2⟩
        · obtain ⟨β2, Hs2, fr2, cs2, w2, k3, k3b, k4⟩ := runEn_sound n k2 hx
          exact ⟨β2, Hs2, fr2, cs2, w2, k1.trans k3, BM.le_trans k1b k3b, k4⟩
      · cases hx
    · cases hx

/-- a frame alone, over a heap that is not written -/
theorem SR.freeze {β : BM} {Hs : AHeap} {s : AState} {fr : Frame} {cs : List Frame} {w : World} (h : SR E N0 w0 base false β Hs s fr cs w) (hp : s.top.todo.all plainI = true) :
    SR E w.heap.size w cs false β (freezeH Hs) { top := s.top, callers := [], heap := freezeH s.heap, next := s.next } fr cs w := by
  have fz : ∀ {H : AHeap} {b : Nat} {x : AObj}, (freezeH H).get b = some x → ∃ l et kind, H.get b = some (.cells l et kind) ∧ x = .cells l et 2 := fun {H b x} hx => by
    rw [freezeH_get] at hx
    cases hg : H.get b with
    | none => rw [hg] at hx; cases hx
    | some y =>
      rw [hg] at hx
      cases y with
      | cells l et kind => cases hx; exact ⟨l, et, kind, rfl, rfl⟩
      | _ => cases hx
  refine ⟨⟨fun b x hx => ?_, fun b b' x x' i i' hx hx' hi hi' e => ?_, h.hr.lt, h.hr.fresh, RowKit.Below.refl _ _, Nat.le_refl _⟩, fun b x hx => ?_, h.glob, ⟨h.top.base, ?_⟩, .nil, ?_⟩
  · obtain ⟨l, et, kind, hg, rfl⟩ := fz hx
    obtain ⟨i, hi, c, fz', h1, h2, h3⟩ := h.hr.obj _ _ hg
    exact ⟨i, hi, c, fz', h1, ⟨h2.size, h2.get, fun h => absurd h (by decide), fun h => absurd h (by decide), fun h => by cases h⟩, fun h => by cases h⟩
  · obtain ⟨l, et, kind, hg, _⟩ := fz hx
    obtain ⟨l', et', kind', hg', _⟩ := fz hx'
    exact h.hr.inj b b' _ _ i i' hg hg' hi hi' e
  · show (freezeH Hs).get b = some x
    obtain ⟨l, et, kind, hg, rfl⟩ := fz hx
    rw [freezeH_get, h.sub _ _ hg]; rfl
  · have ht := h.top.todo
    show FT _ _ _ _ _ _ _ s.top.ret s.top.tmps s.top.todo fr.tmps fr.todo
    generalize hq : s.top.todo = q at ht hp ⊢
    generalize hq' : fr.todo = q' at ht ⊢
    cases ht with
    | norm h1 h2 => exact .norm h1 h2
    | dreg _ _ _ => simp [plainI] at hp
  · show (fblocks s.top ++ [].flatMap fblocks).Nodup
    rw [fblocks_plain hp]; simp

/-- the same, with an iterator of which the present entry is known -/
theorem SR.freezeC {β : BM} {Hs : AHeap} {s : AState} {fr : Frame} {cs : List Frame} {w : World} (h : SR E N0 w0 base false β Hs s fr cs w) (hnx : s.next < LIMIT) (hp : s.top.todo.all plainI = true) {r : Nat} {y : AObj} {i : BI} {k v : Value}
    (hr : s.heap.get r = some y) (hi : β r = some i) (ho : OR E.toCtx w.heap.size β w i (.miterC k v)) :
    SR E w.heap.size w cs false β (hput (freezeH Hs) r (.miterC k v)) { top := s.top, callers := [], heap := hput (freezeH s.heap) r (.miterC k v), next := s.next } fr cs w := by
  have h0 := h.freeze hp
  have hlt : r < LIMIT := Nat.lt_trans (h.hr.lt_nx hi) hnx
  have live : ∀ {b : Nat} {x : AObj}, (hput (freezeH Hs) r (.miterC k v)).get b = some x → ∃ z, Hs.get b = some z := fun {b x} hx => by
    by_cases e : r = b
    · subst e; exact ⟨_, h.sub _ _ hr⟩
    · rw [hput_ne e, freezeH_get] at hx
      cases hg : Hs.get b with
      | none => rw [hg] at hx; cases hx
      | some z => exact ⟨z, rfl⟩
  refine ⟨⟨fun b x hx => ?_, fun b b' x x' j j' hx hx' hj hj' e => ?_, h.hr.lt, h.hr.fresh, RowKit.Below.refl _ _, Nat.le_refl _⟩, fun b x hx => ?_, h.glob, ⟨h.top.base, ?_⟩, .nil, ?_⟩
  · by_cases e : r = b
    · subst e
      rw [hput_same hlt] at hx
      cases hx
      exact ⟨i, hi, ho⟩
    · rw [hput_ne e] at hx
      exact h0.hr.obj b x hx
  · obtain ⟨z, hz⟩ := live hx
    obtain ⟨z', hz'⟩ := live hx'
    exact h.hr.inj b b' _ _ j j' hz hz' hj hj' e
  · show (hput (freezeH Hs) r (.miterC k v)).get b = some x
    by_cases e : r = b
    · subst e
      have hx' : (hput (freezeH s.heap) r (.miterC k v)).get r = some x := hx
      rw [hput_same hlt] at hx' ⊢; exact hx'
    · have hx' : (hput (freezeH s.heap) r (.miterC k v)).get b = some x := hx
      rw [hput_ne e] at hx' ⊢; exact h0.sub b x hx'
  · have ht := h.top.todo
    show FT _ _ _ _ _ _ _ s.top.ret s.top.tmps s.top.todo fr.tmps fr.todo
    generalize hq : s.top.todo = q at ht hp ⊢
    generalize hq' : fr.todo = q' at ht ⊢
    cases ht with
    | norm h1 h2 => exact .norm h1 h2
    | dreg _ _ _ => simp [plainI] at hp
  · show (fblocks s.top ++ [].flatMap fblocks).Nodup
    rw [fblocks_plain hp]; simp

theorem okSlots_sound {β β2 : BM} (hle : β.le β2) {t v u ut : Value} (hv : VR β v u) (ht : VR β t ut) : ∀ {as bs bs' cs : List Value}, okSlots t v as bs = true → LR β bs bs' → LR β2 as cs → LR β as cs
  | [], [], _, _, _, _, .nil => .nil
  | [], _ :: _, _, _, h, _, _ => by simp [okSlots] at h
  | _ :: _, [], _, _, h, _, _ => by simp [okSlots] at h
  | a :: as, b :: bs, _, _, h, .cons hb hbs, .cons ha has => by
    simp only [okSlots, Bool.and_eq_true, Bool.or_eq_true] at h
    refine .cons ?_ (okSlots_sound hle hv ht h.2 hbs has)
    rcases h.1 with h1 | h1 | h1 | h1 | h1
    · unfold isAny at h1
      split at h1
      · exact .opq (c := none) trivial
      · cases h1
    · rw [ha.af_eq h1]; exact .of_af h1
    · rw [eqv_eq _ _ _ h1] at ha ⊢; exact .back hle hb ha
    · rw [eqv_eq _ _ _ h1] at ha ⊢; exact .back hle hv ha
    · rw [eqv_eq _ _ _ h1] at ha ⊢; exact .back hle ht ha

theorem SR.norm {wait : Bool} {β : BM} {Hs : AHeap} {s : AState} {fr : Frame} {cs : List Frame} {w : World} (h : SR E N0 w0 base wait β Hs s fr cs w) (hp : s.top.todo.all plainI = true) : LR β s.top.tmps fr.tmps.toList ∧ TR β s.top.todo fr.todo := by
  have ht := h.top.todo
  generalize hq : s.top.todo = q at ht hp ⊢
  generalize hq' : fr.todo = q' at ht ⊢
  cases ht with
  | norm h1 h2 => exact ⟨h1, h2⟩
  | dreg _ _ _ => simp [plainI] at hp

/-- back at the loop's head -/
theorem SR.unfreeze {β β2 : BM} {Hs Hs2 : AHeap} {s s2 : AState} {fr fr2 : Frame} {cs cs2 : List Frame} {w w1 w2 : World} {W : List Nat} (h : SR E N0 w0 base false β Hs s fr cs w) (hr1 : HR E.toCtx N0 w0 β Hs s.next w1)
    (hle : β.le β2) (h2 : SR E w1.heap.size w1 cs false β2 Hs2 s2 fr2 cs2 w2) (hc : s2.callers = []) (hret : s.top.ret = false) (hret2 : s2.top.ret = false) (hp : plainF s.top = true) (hp2 : plainF s2.top = true) (hfn : s2.top.fn = s.top.fn)
    (htodo : s2.top.todo = s.top.todo) (htm : maskT W s2.top.tmps 0 = s.top.tmps) : cs2 = cs ∧ SR E N0 w0 base false β Hs s fr2 cs w2 := by
  obtain ⟨d1, d2, d3, d4⟩ := plainF_spec hp
  obtain ⟨e1, e2, e3, e4⟩ := plainF_spec hp2
  have hrest := h2.rest
  rw [hc] at hrest
  generalize hcs : cs2 = c2 at hrest
  cases hrest
  obtain ⟨l1, l2⟩ := h.norm d4
  obtain ⟨m1, m2⟩ := h2.norm e4
  have hb2 := h2.top.base
  refine ⟨rfl, hr1.below_step h2.hr.below, h.sub, h.glob, ⟨⟨hb2.fn.trans hfn, by rw [hb2.kind, e3, d3], by rw [hb2.mode, hret, hret2], ?_, ?_⟩, .norm ?_ ?_⟩, h.rest, h.nd⟩
  · have := hb2.round
    rw [e2] at this
    rw [d2]
    cases hx : fr2.roundOf with
    | none => trivial
    | some _ => rw [hx] at this; exact this.elim
  · have := hb2.defers
    rw [e1] at this
    rw [d1]
    generalize fr2.defers = q at this
    cases this
    exact .nil
  · refine LR.back hle l1 ?_
    rw [← htm]
    exact m1.mask W 0
  · rw [htodo] at m2
    exact TR.back d4 m2

/-- behind the reading of an entry -/
theorem SR.unfreezeC {β β2 : BM} {Hs Hs2 : AHeap} {s s2 : AState} {fr fr2 : Frame} {cs cs2 : List Frame} {w w2 : World} (h : SR E N0 w0 base false β Hs s fr cs w)
    (hle : β.le β2) (h2 : SR E w.heap.size w cs false β2 Hs2 s2 fr2 cs2 w2) (hc : s2.callers = []) (hret2 : s2.top.ret = false) (hp : s.top.todo.all plainI = true) (hp2 : plainF s2.top = true)
    {t v u ut : Value} (hv : VR β v u) (ht : VR β t ut) (hok : okSlots t v s2.top.tmps s.top.tmps = true) : cs2 = cs ∧ SR E N0 w0 base false β Hs { s with top := s2.top } fr2 cs w2 := by
  obtain ⟨e1, e2, e3, e4⟩ := plainF_spec hp2
  have hrest := h2.rest
  rw [hc] at hrest
  generalize hcs : cs2 = c2 at hrest
  cases hrest
  obtain ⟨l1, l2⟩ := h.norm hp
  obtain ⟨m1, m2⟩ := h2.norm e4
  have hb2 := h2.top.base
  refine ⟨rfl, h.hr.below_step h2.hr.below, h.sub, h.glob, ⟨⟨hb2.fn, hb2.kind, hb2.mode, ?_, ?_⟩, .norm (okSlots_sound hle hv ht hok l1 m1) (TR.back e4 m2)⟩, h.rest, ?_⟩
  · have := hb2.round
    rw [e2] at this ⊢
    cases hx : fr2.roundOf with
    | none => trivial
    | some _ => rw [hx] at this; exact this.elim
  · have := hb2.defers
    rw [e1] at this ⊢
    generalize fr2.defers = q at this
    cases this
    exact .nil
  · have hnd := h.nd
    rw [fblocks_plain hp] at hnd
    show (fblocks s2.top ++ _).Nodup
    rw [fblocks_plain e4]; exact hnd

theorem sameKey_false {k k' : Value} (h : sameKey k k' = some false) : k ≠ k' := by
  intro e
  subst e
  unfold sameKey at h
  split at h
  · simp at h
  · rw [ba_refl] at h; cases h
  · simp at h
  · cases h

theorem absentK_spec {k : Value} : ∀ {es : List (Value × Value × Nat)}, absentK k es = true → ∀ e ∈ es, e.1 ≠ k
  | [], _, e, he => by cases he
  | (k', v, n) :: es, h, e, he => by
    simp only [absentK] at h
    split at h
    · rename_i hs
      rcases List.mem_cons.1 he with rfl | he
      · exact fun e => sameKey_false hs e.symm
      · exact absentK_spec h e he
    · cases h
theorem posK_spec {k : Value} : ∀ {es : List (Value × Value × Nat)} {i p : Nat}, posK k es i = some p → ∀ q e, es[q]? = some e → e.1 = k → p = i + q
  | [], i, p, h, q, e, he, hk => by simp at he
  | (k', v, n) :: es, i, p, h, q, e, he, hk => by
    simp only [posK] at h
    split at h
    · split at h
      · rename_i hs ha
        cases h
        cases q with
        | zero => rfl
        | succ q =>
          simp only [List.getElem?_cons_succ] at he
          exact absurd hk (absentK_spec ha e (List.mem_of_getElem? he))
      · cases h
    · rename_i hs
      cases q with
      | zero =>
        simp only [List.getElem?_cons_zero, Option.some.injEq] at he
        subst he
        exact absurd hk.symm (sameKey_false hs)
      | succ q =>
        have := posK_spec h q e (by simpa using he) hk
        omega
    · cases h

theorem ER.place {β : BM} {ex : Bool} : ∀ {es : List (Value × Value × Nat)} {es' : List MapEntry}, ER β ex es es' → ∀ {p : Nat} {e' : MapEntry}, es'[p]? = some e' → ∃ e, es[p]? = some e ∧ e'.key = e.1 ∧ keyAtom e.1 = true ∧ VR β e.2.1 e'.val
  | _, _, .nil, p, e', h => by simp at h
  | _, _, .cons hk hv hn hs, 0, e', h => by
    simp only [List.getElem?_cons_zero, Option.some.injEq] at h
    subst h
    exact ⟨_, rfl, rfl, hk, hv⟩
  | _, _, .cons hk hv hn hs, p + 1, e', h => by
    simpa using ER.place hs (p := p) (by simpa using h)

/-- an entry was seen: that is kept -/
theorem SR.stamp {β : BM} {Hs : AHeap} {s : AState} {fr : Frame} {cs : List Frame} {w : World} (h : SR E N0 w0 base false β Hs s fr cs w) (hnx : s.next + 1 < LIMIT) (hp : s.top.todo.all plainI = true) {r m since p0 : Nat} {y : AObj}
    {es : List (Value × Value × Nat)} {ex : Bool} {i j : BI} {k : Value} (hr : s.heap.get r = some y) (hi : β r = some i) (hm : s.heap.get m = some (.map es since ex)) (hj : β m = some j) (hrm : r ≠ m) {seen : Array Nat} {stepped : Nat}
    (h1 : w.heap[i.blk]? = some (.mapIter (some j.blk) since seen stepped)) (hN : N0 ≤ i.blk) (hb : i.base = 0) (hst : since ≤ stepped) {es' : Array MapEntry} (h2 : w.heap[j.blk]? = some (.map es' since)) {e' : MapEntry} (he : e' ∈ es') (hsn : e'.born ∈ seen) (hk : e'.key = k) (hpos : posK k es 0 = some p0) :
    ∃ β' Hs', β.le β' ∧ SR E N0 w0 base false β' Hs' { s with heap := hput (hput (hdel s.heap m) s.next (.mapS es since)) r (.miterS s.next since p0), next := s.next + 1 } fr cs w := by
  obtain ⟨j', hj', es1, m1, m2, ⟨es2, hperm, _, her⟩, hbo⟩ := h.hr.obj m _ (h.sub _ _ hm)
  rw [hj] at hj'; cases hj'
  rw [h2] at m1; cases m1
  obtain ⟨es3, hp3, her3⟩ := ER.perm hperm her
  obtain ⟨c, hc⟩ := stamps_code since (es3.map (·.born)) fun s hs => by
    obtain ⟨x, hx, rfl⟩ := List.mem_map.1 hs
    exact hbo.1 x (hp3.mem_iff.1 hx)
  have hst2 : ∀ p x, es3[p]? = some x → BI.st ⟨j.blk, 0, c, since⟩ p = x.born := fun p x hx => hc p x.born (by rw [List.getElem?_map, hx]; rfl)
  have hn := h.hr.fresh s.next (Nat.le_refl _)
  have hle := BM.le_set β (⟨j.blk, 0, c, since⟩ : BI) hn
  have hrlt := h.hr.lt_nx hi
  have hmlt := h.hr.lt_nx hj
  have hr1 := h.hr.move (by omega) (h.sub _ _ hm) hj (i' := ⟨j.blk, 0, c, since⟩) (x' := .mapS es since) (w' := w) rfl rfl (fun _ _ => rfl) (RowKit.Below.refl _ _) ⟨es', h2, m2, fun x hx => by
    obtain ⟨p, hpx⟩ := List.getElem?_of_mem (hp3.mem_iff.2 hx)
    obtain ⟨e, q1, q2, q3, q4⟩ := ER.place her3 hpx
    exact ⟨p, e, q1, (hst2 p x hpx).symm, q2, q3, q4.mono hle⟩, hbo⟩
  have hrn : (hput (hdel Hs m) s.next (.mapS es since)).get r = some y := by
    rw [hput_ne (by omega), hdel_ne (fun e => hrm e.symm)]; exact h.sub _ _ hr
  have hseen : BI.st ⟨j.blk, 0, c, since⟩ p0 ∈ seen := by
    obtain ⟨p, hpx⟩ := List.getElem?_of_mem (hp3.mem_iff.2 (Array.mem_toList_iff.2 he))
    obtain ⟨e, q1, q2, _, _⟩ := ER.place her3 hpx
    have := posK_spec hpos p e q1 (by rw [← q2, hk])
    rw [Nat.zero_add] at this
    subst this
    rw [hst2 _ _ hpx]; exact hsn
  have hr2 := hr1.update hnx hrn (hle _ _ hi) (x' := .miterS s.next since p0) (w' := w) rfl (fun _ _ => rfl) (RowKit.Below.refl _ _) ⟨⟨j.blk, 0, c, since⟩, seen, stepped, h1, hN, BM.set_same _ _ _, hb, hst, hseen⟩
  refine ⟨_, _, hle, hr2, fun b x hx => ?_, h.glob.mono hle, ⟨h.top.base.mono hle, ?_⟩, h.rest.keep hle (Nat.le_succ _) (fun b hbm hbn => ?_), ?_⟩
  · have hx' : (hput (hput (hdel s.heap m) s.next (.mapS es since)) r (.miterS s.next since p0)).get b = some x := hx
    by_cases e1 : r = b
    · subst e1
      rw [hput_same (by omega)] at hx' ⊢; exact hx'
    · rw [hput_ne e1] at hx' ⊢
      by_cases e2 : s.next = b
      · subst e2
        rw [hput_same (by omega)] at hx' ⊢; exact hx'
      · rw [hput_ne e2] at hx' ⊢
        by_cases e3 : m = b
        · subst e3
          rw [hdel_same (by omega)] at hx'; cases hx'
        · rw [hdel_ne e3] at hx' ⊢
          exact h.sub _ _ hx'
  · have ht := h.top.todo
    show FT _ _ _ _ _ _ _ s.top.ret s.top.tmps s.top.todo fr.tmps fr.todo
    obtain ⟨l1, l2⟩ := h.norm hp
    exact .norm (l1.mono hle) (l2.mono hle)
  · obtain ⟨q1, q2⟩ := h.rest.lt b hbm
    have e1 : r ≠ b := fun e => by subst e; rw [hr] at q2; cases q2
    have e3 : m ≠ b := fun e => by subst e; rw [hm] at q2; cases q2
    have e2 : s.next ≠ b := by omega
    refine ⟨?_, ?_, BM.set_ne _ _ (fun e => e2 e.symm)⟩
    · show (hput (hput (hdel s.heap m) s.next (.mapS es since)) r (.miterS s.next since p0)).get b = none
      rw [hput_ne e1, hput_ne e2, hdel_ne e3]; exact q2
    · rw [hput_ne e1, hput_ne e2, hdel_ne e3]
  · exact h.nd

/-- an object's like is another one -/
theorem HR.setAt {C : Ctx} {β : BM} {H : AHeap} {nx : Nat} {w : World} (h : HR C N0 w0 β H nx w) (hnx : nx < LIMIT) {b : Nat} {x : AObj} {i : BI} (hg : H.get b = some x) (hb : β b = some i) (hN : N0 ≤ i.blk) (ob' : Obj)
    (ho : ∀ w' : World, w'.heap[i.blk]? = some ob' → OR C N0 β w' i x) : HR C N0 w0 β H nx { w with heap := w.heap.setIfInBounds i.blk ob' } := by
  have hlt := h.lt _ _ hb
  have hu := h.update (x' := x) (w' := { w with heap := w.heap.setIfInBounds i.blk ob' }) hnx hg hb (by simp) (fun k hk => ?_) ⟨rfl, rfl, rfl, by simp, fun k hk => ?_⟩ (ho _ ?_)
  · have hbl : b < LIMIT := Nat.lt_trans (h.lt_nx hb) hnx
    have same : ∀ c, (hput H b x).get c = H.get c := fun c => by
      by_cases e : b = c
      · subst e; rw [hput_same hbl, hg]
      · exact hput_ne e
    exact ⟨fun c y hc => hu.obj c y (by rw [same]; exact hc), fun c d y y' j j' hc hd => hu.inj c d y y' j j' (by rw [same]; exact hc) (by rw [same]; exact hd), hu.lt, hu.fresh, hu.below, hu.n0⟩
  · show (w.heap.setIfInBounds i.blk ob')[k]? = _
    rw [Array.getElem?_setIfInBounds]
    exact if_neg (fun e => hk e.symm)
  · show (w.heap.setIfInBounds i.blk ob')[k]? = _
    rw [Array.getElem?_setIfInBounds]
    exact if_neg (by omega)
  · show (w.heap.setIfInBounds i.blk ob')[i.blk]? = _
    simp [hlt]
end
end Go.Abs
