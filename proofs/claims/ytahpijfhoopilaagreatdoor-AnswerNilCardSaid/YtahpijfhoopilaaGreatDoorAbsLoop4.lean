/-
  THE ABSTRACT MACHINE: runs with loops over maps; what they tell of a call.
-/
import Derived.Test.YtahpijfhoopilaaGreatDoorAbsLoop3
set_option linter.unusedSectionVars false
set_option linter.unusedVariables false
set_option linter.unusedSimpArgs false
namespace Go.Abs
open Go
variable [Ops]

theorem sift_mem {E : Env} {F : Nat} {W : List Nat} {s : AState} {r : Nat} : ∀ {es bad : List (Value × Value × Nat)} {obls : List Obl}, sift E F W s r es = (bad, obls) → ∀ e ∈ bad, e ∈ es
  | [], bad, obls, h => by
    simp only [sift, Prod.mk.injEq] at h
    obtain ⟨rfl, rfl⟩ := h
    exact fun e he => he
  | e :: es, bad, obls, h => by
    unfold sift at h
    generalize hr : sift E F W s r es = q at h
    obtain ⟨b1, o1⟩ := q
    simp only at h
    have h1 := sift_mem hr
    split at h
    · simp only [Prod.mk.injEq] at h
      obtain ⟨rfl, rfl⟩ := h
      exact fun e he => List.mem_cons_of_mem _ (h1 e he)
    · simp only [Prod.mk.injEq] at h
      obtain ⟨rfl, rfl⟩ := h
      exact fun e' he => (List.mem_cons.1 he).elim (fun h => h ▸ List.mem_cons_self) fun h => List.mem_cons_of_mem _ (h1 e' h)

theorem runL_mono {E : Env} (hints : BT (List Nat)) : ∀ (n : Nat) {s s' : AState} {os os' : List Obl}, runL E hints n s os = some (s', os') → ∀ x ∈ os, x ∈ os'
  | 0, s, s', os, os', hx => by
    simp only [runL, Option.some.injEq, Prod.mk.injEq] at hx
    obtain ⟨rfl, rfl⟩ := hx
    exact fun _ h => h
  | n + 1, s, s', os, os', hx => by
    unfold runL at hx
    split at hx
    · cases hx; exact fun _ h => h
    · split at hx
      · split at hx
        · split at hx
          · exact runL_mono hints n hx
          · cases hx
        · split at hx
          · exact fun x hm => runL_mono hints n hx x (List.mem_append_right _ hm)
          · cases hx
      · cases hx

section
variable {E : Env} (ok : E.Ok) {N0 : Nat} {w0 : World} {base : List Frame} {β : BM} {Hs : AHeap} {s s' : AState} {fr : Frame} {cs : List Frame} {w : World}

/-- an object as less is known of it -/
theorem SR.forget (h : SR E N0 w0 base false β Hs s fr cs w) (hnx : s.next < LIMIT) (hp : plainF s.top = true) (W : List Nat) {r : Nat} {x x' : AObj} {i : BI} (hg : s.heap.get r = some x) (hi : β r = some i) (ho : OR E.toCtx N0 β w i x') :
    SR E N0 w0 base false β (hput Hs r x') { s with top := { s.top with tmps := maskT W s.top.tmps 0 }, heap := hput s.heap r x' } fr cs w := by
  obtain ⟨d1, d2, d3, d4⟩ := plainF_spec hp
  obtain ⟨l1, l2⟩ := h.norm d4
  have hlt : r < LIMIT := Nat.lt_trans (h.hr.lt_nx hi) hnx
  have hr2 := h.hr.update (x' := x') (w' := w) hnx (h.sub _ _ hg) hi rfl (fun _ _ => rfl) (RowKit.Below.refl _ _) ho
  refine ⟨hr2, fun c y hc => ?_, h.glob, ⟨⟨h.top.base.fn, h.top.base.kind, h.top.base.mode, h.top.base.round, h.top.base.defers⟩, .norm (l1.mask W 0) l2⟩,
    h.rest.keep (BM.le_refl _) (Nat.le_refl _) (fun b hb hn => ?_), ?_⟩
  · by_cases e : r = c
    · subst e
      have hc' : (hput s.heap r x').get r = some y := hc
      rw [hput_same hlt] at hc' ⊢; exact hc'
    · have hc' : (hput s.heap r x').get c = some y := hc
      rw [hput_ne e] at hc' ⊢; exact h.sub c y hc'
  · have e : r ≠ b := fun e => by subst e; rw [hg] at hn; cases hn
    exact ⟨by show (hput s.heap r x').get b = none; rw [hput_ne e]; exact hn, hput_ne e, rfl⟩
  · have := h.nd
    rw [fblocks_plain d4] at this
    show (fblocks { s.top with tmps := maskT W s.top.tmps 0 } ++ _).Nodup
    rw [fblocks_plain (fr := { s.top with tmps := maskT W s.top.tmps 0 }) d4]
    exact this

include ok in
theorem loopStep_sound (h : SR E N0 w0 base false β Hs s fr cs w) (hnx1 : s.next + 1 < LIMIT) {p : Pt} (hp : ptOf s = some p) {F : Nat} {W : List Nat} {obls : List Obl} (hx : loopStep E F W s p = some (s', obls)) (ho : ∀ x ∈ obls, x.a = x.b) :
    Reaches E N0 w0 base β fr cs w s' := by
  have hnx : s.next < LIMIT := by omega
  unfold ptOf at hp
  split at hp
  · rename_i ops o rest k hret ht
    split at hp
    · rename_i t hop hgd
      split at hp
      · rename_i r hev
        have main : ∀ (m since : Nat) (fresh : Bool) (es : List (Value × Value × Nat)) (ex : Bool) (x : AObj), p = ⟨o, r, m, since, fresh, es, none⟩ → s.heap.get r = some x → s.heap.get m = some (.map es since ex) →
            (∀ i, β r = some i → ∃ j seen stepped, w.heap[i.blk]? = some (.mapIter (some (BI.blk j)) since seen stepped) ∧ N0 ≤ i.blk ∧ β m = some j ∧ i.base = 0 ∧ since ≤ stepped ∧ (fresh = true → seen = #[])) → r ≠ m →
            Reaches E N0 w0 base β fr cs w s' := by
          intro m since fresh es ex x hpe hgr hgm hit hrm
          subst hpe
          obtain ⟨i, hi, _⟩ := h.hr.obj _ _ (h.sub _ _ hgr)
          obtain ⟨j, seen, stepped, g1, g2, g3, g4, g5, g6⟩ := hit i hi
          obtain ⟨j', hj', es', m1, m2, ⟨es1, hperm, _, her⟩, hbo⟩ := h.hr.obj _ _ (h.sub _ _ hgm)
          rw [g3] at hj'
          cases hj'
          unfold loopStep at hx
          simp only at hx
          split at hx
          · cases hx
          · rename_i hcond
            simp only [Bool.and_eq_true] at hcond
            obtain ⟨hpl, hhold⟩ := hcond
            have hS := h.forget hnx hpl W hgr hi (x' := .miterU m since) ⟨j, seen, stepped, g1, g2, g3, g4, g5⟩
            have hev0 : ev (maskT W s.top.tmps 0) (.tmp t) = .pointer (some ⟨r, 0, none⟩) := by
              unfold holds at hhold
              rw [hop] at hhold
              simp only at hhold
              split at hhold
              · rename_i r' he
                have := Nat.eq_of_beq_eq_true hhold
                subst this
                exact he
              · cases hhold
            have hlt : r < LIMIT := Nat.lt_trans (h.hr.lt_nx hi) hnx
            have core := fun {bad : List (Value × Value × Nat)} {s1 : AState} (hsift : sift E F W _ r es = (bad, obls)) hA hB hbad =>
              loop_core ok (s := { s with top := { s.top with tmps := maskT W s.top.tmps 0 }, heap := hput s.heap r (.miterU m since) }) (s' := s1) hnx1 hret ht hop hgd hev0 (hput_same hlt) (es := es) (bad := bad) hpl hsift ho hA hB hi g3 (by show (hput s.heap r (.miterU m since)).get m = _; rw [hput_ne hrm]; exact hgm) hperm her hbo
                _ fr cs w seen stepped hS g1 m1 g5 (Nat.le_refl _) hbad
            split at hx
            · rename_i obls' hsift
              split at hx
              · rename_i _ top hf
                cases hx
                exact core hsift (fun _ => ⟨top, hf, rfl⟩) (fun e0 he => by cases he) (.inl rfl)
              · cases hx
            · rename_i e obls' hsift
              split at hx
              · rename_i _ top hf
                have hmem : e ∈ es := sift_mem hsift e (List.mem_singleton.2 rfl)
                have hm1 : e ∈ es1 := hperm.mem_iff.2 hmem
                obtain ⟨n0, hn0⟩ := List.getElem?_of_mem hm1
                obtain ⟨e0', he0'⟩ := (ER.at her (n := n0)).2 e hn0
                have hbad : ([e] : List (Value × Value × Nat)) = [] ∨ ∃ (e0 : Value × Value × Nat) (n0 : Nat) (e0' : MapEntry), [e] = [e0] ∧ es1[n0]? = some e0 ∧ es'.toList[n0]? = some e0' ∧ MapEntry.born e0' ∉ seen := .inr ⟨e, n0, e0', rfl, hn0, he0', by rw [g6 rfl]; simp⟩
                split at hx
                · cases hx
                  exact core hsift (fun he => by cases he) (fun e0 he => by cases he; exact ⟨top, hf, .inr rfl⟩) hbad
                · cases hx
                  exact core hsift (fun he => by cases he) (fun e0 he => by cases he; exact ⟨top, hf, .inl rfl⟩) hbad
              · cases hx
            · cases hx
        split at hp
        · rename_i m since stepped hgr
          split at hp
          · rename_i es clock ex hgm
            split at hp
            · rename_i hc
              simp only [Bool.and_eq_true] at hc
              have hc1 : since ≤ stepped := Nat.le_of_ble_eq_true hc.1
              have hc2 := Nat.eq_of_beq_eq_true hc.2
              subst hc2
              cases hp
              refine main m _ true es ex _ rfl hgr hgm (fun i hi => ?_) (fun e => by subst e; rw [hgr] at hgm; cases hgm)
              obtain ⟨i', hi', m', k1, k2, k3, k4⟩ := h.hr.obj _ _ (h.sub _ _ hgr)
              rw [hi] at hi'
              cases hi'
              cases m' with
              | none => exact k3.elim
              | some mb =>
                obtain ⟨jm, hjm, rfl⟩ := k3
                exact ⟨jm, _, _, k1, k2, hjm, k4, hc1, fun _ => rfl⟩
            · cases hp
          · cases hp
        · rename_i m since hgr
          split at hp
          · rename_i es clock ex hgm
            split at hp
            · rename_i hc
              have hc2 := Nat.eq_of_beq_eq_true hc
              subst hc2
              cases hp
              refine main m _ false es ex _ rfl hgr hgm (fun i hi => ?_) (fun e => by subst e; rw [hgr] at hgm; cases hgm)
              obtain ⟨i', hi', j, seen, stp, k1, k2, k3, k4, k5⟩ := h.hr.obj _ _ (h.sub _ _ hgr)
              rw [hi] at hi'
              cases hi'
              exact ⟨j, seen, stp, k1, k2, k3, k4, k5, fun h => by cases h⟩
            · cases hp
          · cases hp
        · rename_i m since p0 hgr
          split at hp
          · rename_i es clock hgm
            split at hp
            · rename_i hc
              have hc2 := Nat.eq_of_beq_eq_true hc
              subst hc2
              cases hp
              unfold loopStep at hx
              simp only at hx
              split at hx
              · cases hx
              · rename_i hcond
                simp only [Bool.and_eq_true] at hcond
                obtain ⟨hpl, hhold⟩ := hcond
                split at hx
                · rename_i obls' hsift
                  split at hx
                  · rename_i top hf
                    cases hx
                    obtain ⟨i, hi, j, seen, stp, k1, k2, k3, k4, k5, k6⟩ := h.hr.obj _ _ (h.sub _ _ hgr)
                    obtain ⟨j', hj', es', m1, m2, m3, m4⟩ := h.hr.obj _ _ (h.sub _ _ hgm)
                    rw [k3] at hj'
                    cases hj'
                    obtain ⟨e1, e2, e3, e4⟩ := plainF_spec hpl
                    obtain ⟨l1, l2⟩ := h.norm e4
                    have hev0 : ev (maskT W s.top.tmps 0) (.tmp t) = .pointer (some ⟨r, 0, none⟩) := by
                      unfold holds at hhold
                      rw [hop] at hhold
                      simp only at hhold
                      split at hhold
                      · rename_i r' he
                        have := Nat.eq_of_beq_eq_true hhold
                        subst this
                        exact he
                      · cases hhold
                    have hS : SR E N0 w0 base false β Hs { s with top := { s.top with tmps := maskT W s.top.tmps 0 } } fr cs w := by
                      refine ⟨h.hr, h.sub, h.glob, ⟨⟨h.top.base.fn, h.top.base.kind, h.top.base.mode, h.top.base.round, h.top.base.defers⟩, .norm (l1.mask W 0) l2⟩, h.rest, ?_⟩
                      have := h.nd
                      rw [fblocks_plain e4] at this
                      show (fblocks { s.top with tmps := maskT W s.top.tmps 0 } ++ _).Nodup
                      rw [fblocks_plain (fr := { s.top with tmps := maskT W s.top.tmps 0 }) e4]
                      exact this
                    exact loop_coreS ok (s := { s with top := { s.top with tmps := maskT W s.top.tmps 0 } }) hnx hret ht hop hgd hev0 hgr hpl hsift ho ⟨top, hf, rfl⟩ hi k3 m3 m4 _ fr cs w seen stp hS k1 m1 k5 (Nat.le_refl _) k6
                  · cases hx
                · cases hx
            · cases hp
          · cases hp
        · cases hp
      · cases hp
    · cases hp
  · cases hp

theorem wantsLoop_spec {p : Pt} (h : wantsLoop s = some p) : ptOf s = some p := by
  unfold wantsLoop at h
  split at h
  · split at h
    · split at h
      · rename_i hp
        split at h
        · cases h; exact hp
        · cases h; exact hp
        · cases h; exact hp
        · cases h
      · cases h
    · cases h
  · cases h

include ok in
theorem runL_sound (hints : BT (List Nat)) : ∀ (n : Nat) {β : BM} {Hs : AHeap} {s s' : AState} {fr : Frame} {cs : List Frame} {w : World} {os os' : List Obl}, SR E N0 w0 base false β Hs s fr cs w → runL E hints n s os = some (s', os') →
    (∀ x ∈ os', x.a = x.b) → Reaches E N0 w0 base β fr cs w s' ∧ ∀ x ∈ os, x ∈ os'
  | 0, β, Hs, s, s', fr, cs, w, os, os', h, hx, ho => by
    simp only [runL, Option.some.injEq, Prod.mk.injEq] at hx
    obtain ⟨rfl, rfl⟩ := hx
    exact ⟨⟨β, Hs, fr, cs, w, .refl _ _, BM.le_refl _, h⟩, fun _ h => h⟩
  | n + 1, β, Hs, s, s', fr, cs, w, os, os', h, hx, ho => by
    unfold runL at hx
    split at hx
    · cases hx
      exact ⟨⟨β, Hs, fr, cs, w, .refl _ _, BM.le_refl _, h⟩, fun _ h => h⟩
    · split at hx
      · rename_i hlt
        have hlt : s.next < 490000 := Nat.le_of_ble_eq_true hlt
        split at hx
        · split at hx
          · rename_i s1 hs1
            obtain ⟨β1, Hs1, fr1, cs1, w1, k1, k1b, k2⟩ := astep_sound ok h hlt hs1
            obtain ⟨⟨β2, Hs2, fr2, cs2, w2, k3, k3b, k4⟩, k5⟩ := runL_sound hints n k2 hx ho
            exact ⟨⟨β2, Hs2, fr2, cs2, w2, k1.trans k3, BM.le_trans k1b k3b, k4⟩, k5⟩
          · cases hx
        · rename_i p hp
          split at hx
          · rename_i s1 o2 hs1
            have hsub : ∀ x ∈ o2, x ∈ os' := fun x hm => runL_mono hints n hx x (List.mem_append_left _ hm)
            obtain ⟨β1, Hs1, fr1, cs1, w1, k1, k1b, k2⟩ := loopStep_sound ok h (by unfold LIMIT; omega) (wantsLoop_spec hp) hs1 (fun x hm => ho x (hsub x hm))
            obtain ⟨⟨β2, Hs2, fr2, cs2, w2, k3, k3b, k4⟩, k5⟩ := runL_sound hints n k2 hx ho
            exact ⟨⟨β2, Hs2, fr2, cs2, w2, k1.trans k3, BM.le_trans k1b k3b, k4⟩, fun x hm => k5 x (List.mem_append_right _ hm)⟩
          · cases hx
      · cases hx
end
end Go.Abs
