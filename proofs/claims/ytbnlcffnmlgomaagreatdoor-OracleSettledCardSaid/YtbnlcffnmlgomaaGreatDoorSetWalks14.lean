/-
  The document's SameEntries.
-/
import Derived.Test.YtbnlcffnmlgomaaGreatDoorSetWalks13
set_option linter.unusedSectionVars false
set_option linter.unusedVariables false
set_option linter.unusedSimpArgs false
namespace Go.Proofs.YtbnlcffnmlgomaaGreatDoor
open Go.RowKit Go.Lib

set_option maxRecDepth 100000 in
set_option maxHeartbeats 4000000 in
theorem same13 (l l' : ML) (w : World) (p p' : Option Addr) (c c' : Nat) (hs : HeadM w l p) (hs' : HeadM w l' p') :
    Calls Tryz.prog 13 #[.slice p l.len c, .slice p' l'.len c'] w fun e w' => e = .returned (.bool (sameM l l')) ∧ Below w.heap.size w w' := by
  have m1 := hs.1
  have m2 := hs'.1
  unfold maxLen at m1 m2
  have HS := Lib.hid hs
  have HS' := Lib.hid hs'
  clear hs hs'
  by_cases hlen : l.len = l'.len
  · have HL := Lib.hid hlen
    have hl1 : decide (l.len = l'.len) = true := by simpa using hlen
    have hl2 : (l.len == l'.len) = true := by simpa using hlen
    have hl3 : (l.len != l'.len) = false := by simpa [bne] using hlen
    have hl4 : ((l.len : Int) != (l'.len : Int)) = false := by rw [hlen]; simp
    have hl5 : ((l.len : Int) == (l'.len : Int)) = true := by rw [hlen]; simp
    clear hlen
    go_enter Tryz.func13, Tryz.ntmps13
    go_wp2
    go_loopw [5] (fun i u => Below w.heap.size w u ∧ ∃ k : Nat, k ≤ l.len ∧ i = .int .i64 k ∧ sameM l l' = sameM (l.drop k) (l'.drop k)) (fun i _ => l.len - (intOf i).toNat)
    case atStart => exact ⟨Below.refl _ _, 0, Nat.zero_le _, rfl, by rw [ML.drop_zero, ML.drop_zero]⟩
    case round =>
      obtain ⟨hu, k, hka, rfl, hc⟩ := hrel
      have HC : Hid (sameM l l' = sameM (l.drop k) (l'.drop k)) := Lib.hid hc
      have HU := Lib.hid hu
      clear hc hu
      by_cases h1 : k < l.len
      · have h2 : k < l'.len := by have := HL.out; omega
        obtain ⟨⟨ky, x⟩, hv⟩ := ML.get_some h1
        obtain ⟨b, f, rfl, hlt, hks, hkc, cl, co, hat, hrv⟩ := HS.out.2 k (ky, x) hv
        replace hkc := (HU.out.cell (p := ⟨b, f + k * 7, none⟩) hlt).trans hkc
        simp only at hat hrv hkc hks
        obtain ⟨q5, n5, c5, q6, n6, c6, rfl, rfl⟩ := hrv.slices
        obtain ⟨a0, a1, a2, a3, a4, a5⟩ := hat.mono HU.out hlt
        replace a1 : wr.cell? ⟨b, f + k * 7 + 2, none⟩ = _ := a1
        replace a2 : wr.cell? ⟨b, f + k * 7 + 3, none⟩ = _ := a2
        replace a3 : wr.cell? ⟨b, f + k * 7 + 4, none⟩ = _ := a3
        replace a4 : wr.cell? ⟨b, f + k * 7 + 5, none⟩ = _ := a4
        replace a5 : wr.cell? ⟨b, f + k * 7 + 6, none⟩ = _ := a5
        obtain ⟨⟨ky', x'⟩, hv'⟩ := ML.get_some h2
        obtain ⟨b', f', rfl, hlt', hks', hkc', cl', co', hat', hrv'⟩ := HS'.out.2 k (ky', x') hv'
        replace hkc' := (HU.out.cell (p := ⟨b', f' + k * 7, none⟩) hlt').trans hkc'
        simp only at hat' hrv' hkc' hks'
        obtain ⟨q7, n7, c7, q8, n8, c8, rfl, rfl⟩ := hrv'.slices
        obtain ⟨b0, b1, b2, b3, b4, b5⟩ := hat'.mono HU.out hlt'
        replace b1 : wr.cell? ⟨b', f' + k * 7 + 2, none⟩ = _ := b1
        replace b2 : wr.cell? ⟨b', f' + k * 7 + 3, none⟩ = _ := b2
        replace b3 : wr.cell? ⟨b', f' + k * 7 + 4, none⟩ = _ := b3
        replace b4 : wr.cell? ⟨b', f' + k * 7 + 5, none⟩ = _ := b4
        replace b5 : wr.cell? ⟨b', f' + k * 7 + 6, none⟩ = _ := b5
        have HS2 : Hid (sameM l l' = (eqKV (ky, x) (ky', x') && sameM (l.drop (k + 1)) (l'.drop (k + 1)))) := Lib.hid (HC.out.trans (sameM_step hv hv'))
        have HR := Lib.hid hrv
        have HR' := Lib.hid hrv'
        have g0 := Nat.lt_of_lt_of_le hlt HU.out.size
        have g1 := Nat.lt_of_lt_of_le hlt' HU.out.size
        clear hv hv' hrv hrv' hat hat'
        cases hk : (ky.toList == ky'.toList) with
        | true =>
          by_cases hz : cmpV x x' = 0
          · have hz1 : (cmpV x x' != 0) = false := by simpa [bne] using hz
            have HQ : Hid (eqKV (ky, x) (ky', x') = true) := Lib.hid (by unfold eqKV sameV; simp only [hk, Bool.true_and]; simpa using hz)
            clear hz
            go_wp2
            go_region_held3 (fun w' => w'.cell? ⟨b, f + k * 7, none⟩ = some (.string ky) ∧ w'.cell? ⟨b, f + k * 7 + 1, none⟩ = some (.int .i64 x.k) ∧ w'.cell? ⟨b, f + k * 7 + 2, none⟩ = some (.bool x.b) ∧ w'.cell? ⟨b, f + k * 7 + 3, none⟩ = some (.int .i64 x.n) ∧ w'.cell? ⟨b, f + k * 7 + 4, none⟩ = some (.string x.t) ∧ w'.cell? ⟨b, f + k * 7 + 5, none⟩ = some (.slice q5 n5 c5) ∧ w'.cell? ⟨b, f + k * 7 + 6, none⟩ = some (.slice q6 n6 c6) ∧ w'.cell? ⟨b', f' + k * 7, none⟩ = some (.string ky') ∧ w'.cell? ⟨b', f' + k * 7 + 1, none⟩ = some (.int .i64 x'.k) ∧ w'.cell? ⟨b', f' + k * 7 + 2, none⟩ = some (.bool x'.b) ∧ w'.cell? ⟨b', f' + k * 7 + 3, none⟩ = some (.int .i64 x'.n) ∧ w'.cell? ⟨b', f' + k * 7 + 4, none⟩ = some (.string x'.t) ∧ w'.cell? ⟨b', f' + k * 7 + 5, none⟩ = some (.slice q7 n7 c7) ∧ w'.cell? ⟨b', f' + k * 7 + 6, none⟩ = some (.slice q8 n8 c8)) (go_keep)
              (first | (go_at_call 37; refine (ref_all x x' _ _ _ _ _ (RV.mono (by first | exact HU.out.drew | exact HU.out) HR.out) (RV.mono (by first | exact HU.out.drew | exact HU.out) HR'.out)).mono ?_; rintro e w3 ⟨rfl, hb3⟩; have y0 := hb3.cell (p := ⟨b, f + k * 7, none⟩) (by first | (simp; omega) | omega); have y1 := hb3.cell (p := ⟨b, f + k * 7 + 1, none⟩) (by first | (simp; omega) | omega); have y2 := hb3.cell (p := ⟨b, f + k * 7 + 2, none⟩) (by first | (simp; omega) | omega); have y3 := hb3.cell (p := ⟨b, f + k * 7 + 3, none⟩) (by first | (simp; omega) | omega); have y4 := hb3.cell (p := ⟨b, f + k * 7 + 4, none⟩) (by first | (simp; omega) | omega); have y5 := hb3.cell (p := ⟨b, f + k * 7 + 5, none⟩) (by first | (simp; omega) | omega); have y6 := hb3.cell (p := ⟨b, f + k * 7 + 6, none⟩) (by first | (simp; omega) | omega); have y7 := hb3.cell (p := ⟨b', f' + k * 7, none⟩) (by first | (simp; omega) | omega); have y8 := hb3.cell (p := ⟨b', f' + k * 7 + 1, none⟩) (by first | (simp; omega) | omega); have y9 := hb3.cell (p := ⟨b', f' + k * 7 + 2, none⟩) (by first | (simp; omega) | omega); have y10 := hb3.cell (p := ⟨b', f' + k * 7 + 3, none⟩) (by first | (simp; omega) | omega); have y11 := hb3.cell (p := ⟨b', f' + k * 7 + 4, none⟩) (by first | (simp; omega) | omega); have y12 := hb3.cell (p := ⟨b', f' + k * 7 + 5, none⟩) (by first | (simp; omega) | omega); have y13 := hb3.cell (p := ⟨b', f' + k * 7 + 6, none⟩) (by first | (simp; omega) | omega); have HBW3 : Hid (Below w.heap.size w w3) := Lib.hid (HU.out.trans (by first | exact hb3.mono HU.out.size | (refine Below.trans (Below.drew (Below.refl _ _)) (hb3.mono ?_); simpa using HU.out.size))); clear hb3))
            go_wp2
            go_roundw
            case rel => exact ⟨HBW3.out, k + 1, by omega, by go_num, by rw [HS2.out, HQ.out]; rfl⟩
            case measure => simp [intOf]; omega
          · have hz1 : (cmpV x x' != 0) = true := by simpa [bne] using hz
            have HQ : Hid (eqKV (ky, x) (ky', x') = false) := Lib.hid (by unfold eqKV sameV; simp only [hk, Bool.true_and]; simpa using hz)
            clear hz
            go_wp2
            go_region_held3 (fun w' => w'.cell? ⟨b, f + k * 7, none⟩ = some (.string ky) ∧ w'.cell? ⟨b, f + k * 7 + 1, none⟩ = some (.int .i64 x.k) ∧ w'.cell? ⟨b, f + k * 7 + 2, none⟩ = some (.bool x.b) ∧ w'.cell? ⟨b, f + k * 7 + 3, none⟩ = some (.int .i64 x.n) ∧ w'.cell? ⟨b, f + k * 7 + 4, none⟩ = some (.string x.t) ∧ w'.cell? ⟨b, f + k * 7 + 5, none⟩ = some (.slice q5 n5 c5) ∧ w'.cell? ⟨b, f + k * 7 + 6, none⟩ = some (.slice q6 n6 c6) ∧ w'.cell? ⟨b', f' + k * 7, none⟩ = some (.string ky') ∧ w'.cell? ⟨b', f' + k * 7 + 1, none⟩ = some (.int .i64 x'.k) ∧ w'.cell? ⟨b', f' + k * 7 + 2, none⟩ = some (.bool x'.b) ∧ w'.cell? ⟨b', f' + k * 7 + 3, none⟩ = some (.int .i64 x'.n) ∧ w'.cell? ⟨b', f' + k * 7 + 4, none⟩ = some (.string x'.t) ∧ w'.cell? ⟨b', f' + k * 7 + 5, none⟩ = some (.slice q7 n7 c7) ∧ w'.cell? ⟨b', f' + k * 7 + 6, none⟩ = some (.slice q8 n8 c8)) (go_keep)
              (first | (go_at_call 37; refine (ref_all x x' _ _ _ _ _ (RV.mono (by first | exact HU.out.drew | exact HU.out) HR.out) (RV.mono (by first | exact HU.out.drew | exact HU.out) HR'.out)).mono ?_; rintro e w3 ⟨rfl, hb3⟩; have y0 := hb3.cell (p := ⟨b, f + k * 7, none⟩) (by first | (simp; omega) | omega); have y1 := hb3.cell (p := ⟨b, f + k * 7 + 1, none⟩) (by first | (simp; omega) | omega); have y2 := hb3.cell (p := ⟨b, f + k * 7 + 2, none⟩) (by first | (simp; omega) | omega); have y3 := hb3.cell (p := ⟨b, f + k * 7 + 3, none⟩) (by first | (simp; omega) | omega); have y4 := hb3.cell (p := ⟨b, f + k * 7 + 4, none⟩) (by first | (simp; omega) | omega); have y5 := hb3.cell (p := ⟨b, f + k * 7 + 5, none⟩) (by first | (simp; omega) | omega); have y6 := hb3.cell (p := ⟨b, f + k * 7 + 6, none⟩) (by first | (simp; omega) | omega); have y7 := hb3.cell (p := ⟨b', f' + k * 7, none⟩) (by first | (simp; omega) | omega); have y8 := hb3.cell (p := ⟨b', f' + k * 7 + 1, none⟩) (by first | (simp; omega) | omega); have y9 := hb3.cell (p := ⟨b', f' + k * 7 + 2, none⟩) (by first | (simp; omega) | omega); have y10 := hb3.cell (p := ⟨b', f' + k * 7 + 3, none⟩) (by first | (simp; omega) | omega); have y11 := hb3.cell (p := ⟨b', f' + k * 7 + 4, none⟩) (by first | (simp; omega) | omega); have y12 := hb3.cell (p := ⟨b', f' + k * 7 + 5, none⟩) (by first | (simp; omega) | omega); have y13 := hb3.cell (p := ⟨b', f' + k * 7 + 6, none⟩) (by first | (simp; omega) | omega); have HBW3 : Hid (Below w.heap.size w w3) := Lib.hid (HU.out.trans (by first | exact hb3.mono HU.out.size | (refine Below.trans (Below.drew (Below.refl _ _)) (hb3.mono ?_); simpa using HU.out.size))); clear hb3))
            go_wp2
            go_ret
            exact ⟨by rw [HS2.out, HQ.out]; rfl, HBW3.out⟩
        | false =>
          have HQ : Hid (eqKV (ky, x) (ky', x') = false) := Lib.hid (by unfold eqKV; simp only [hk, Bool.false_and])
          go_wp2
          go_quiet (fail)
          go_wp2
          go_ret
          exact ⟨by rw [HS2.out, HQ.out]; rfl, HU.out.trans ((below_drawn ⟨_, rfl⟩).mono HU.out.size)⟩
      · have HX : Hid (sameM l l' = true) := Lib.hid (by rw [HC.out, sameM_end (by omega) (by have := HL.out; omega)])
        go_wp2
        go_ret
        exact ⟨by rw [HX.out]; rfl, HU.out⟩
  · have HX : Hid (sameM l l' = false) := Lib.hid (sameM_len hlen)
    have hl1 : decide (l.len = l'.len) = false := by simpa using hlen
    have hl2 : (l.len == l'.len) = false := by simpa using hlen
    have hl3 : (l.len != l'.len) = true := by simpa [bne] using hlen
    have hl4 : ((l.len : Int) != (l'.len : Int)) = true := by simp [bne]; omega
    have hl5 : ((l.len : Int) == (l'.len : Int)) = false := by simp; omega
    go_enter Tryz.func13, Tryz.ntmps13
    go_wp2
    go_ret
    exact ⟨by rw [HX.out]; rfl, Below.refl _ _⟩
end Go.Proofs.YtbnlcffnmlgomaaGreatDoor

/-
  The document's Settled.
-/
namespace Go.Proofs.YtbnlcffnmlgomaaGreatDoor
open Go.RowKit Go.Lib

set_option maxRecDepth 100000 in
set_option maxHeartbeats 2000000 in
theorem settled16 (m : ML) (l : List VW) (w : World) (p : Option Addr) (c : Nat) (mp : Option Addr) (mc : Nat) (y0 y2 : Value) (hm : HeadM w m mp) (hl : HeadW w l p) :
    Calls Tryz.prog 16 #[.agg #[y0, .slice mp m.len mc, y2], .slice p l.length c] w fun e w' => e = .returned (.bool (!anyBad m l)) ∧ Below w.heap.size w w' := by
  have m1 := hl.1
  unfold maxLen at m1
  have HM := Lib.hid hm
  have HL := Lib.hid hl
  clear hm hl
  go_enter Tryz.func16, Tryz.ntmps16
  go_wp2
  go_loopw [5] (fun i u => Below w.heap.size w u ∧ w.heap.size + 1 ≤ u.heap.size ∧ u.cell? ⟨w.heap.size, 1, none⟩ = some (.slice mp m.len mc) ∧ ∃ k : Nat, k ≤ l.length ∧ i = .int .i64 k ∧ anyBad m l = (l.drop k).any (badW m)) (fun i _ => l.length - (intOf i).toNat)
  case atStart => exact ⟨(Below.refl _ _).alloc (Nat.le_refl _) _, by simp, by simp, 0, Nat.zero_le _, rfl, rfl⟩
  case round =>
    obtain ⟨hu, hsz, k4, k, hka, rfl, hc⟩ := hrel
    have HC : Hid (anyBad m l = (l.drop k).any (badW m)) := Lib.hid hc
    have HU := Lib.hid hu
    clear hc hu
    by_cases h1 : k < l.length
    · have hv : l[k]? = some l[k] := by simp [h1]
      have HC2 : Hid (anyBad m l = (badW m l[k] || (l.drop (k + 1)).any (badW m))) := Lib.hid (HC.out.trans (any_step hv))
      obtain ⟨hn, hh, b, f, rfl, hlt, c0, c1, c2, c3, c4, c5, c6, c7⟩ := (HL.out.mono HU.out).2 k l[k] hv
      unfold maxLen at hn
      have HH := Lib.hid hh
      clear hv hh c0 c1 c2 c3 c4 c7
      by_cases hnp : 0 < l[k].np
      · have HZ : Hid (badW m l[k] = true) := Lib.hid (by unfold badW; simp [hnp])
        go_wp2
        go_quiet (fail)
        go_wp2
        go_ret
        exact ⟨by rw [HC2.out, HZ.out]; rfl, HU.out.trans ((below_drawn ⟨_, rfl⟩).mono HU.out.size)⟩
      · have hnp0 : ¬ (0 : Int) < (l[k].np : Int) := by omega
        have HZ0 : Hid (badW m l[k] = !(sameM m l[k].hd)) := Lib.hid (by unfold badW; simp [hnp])
        cases hz : sameM m l[k].hd
        all_goals
          have HZ := Lib.hid hz
          go_wp2
          go_region_held3 (fun w' => w'.cell? ⟨w.heap.size, 1, none⟩ = some (.slice mp m.len mc) ∧ w'.cell? ⟨b, f + k * 8 + 5, none⟩ = some (.slice l[k].pp l[k].np l[k].cp) ∧ w'.cell? ⟨b, f + k * 8 + 6, none⟩ = some (.slice l[k].hp l[k].hd.len l[k].hc)) (go_keep)
            (first | (go_at_call 13; refine (same13 _ _ _ _ _ _ _ (HeadM.mono (by first | exact HU.out.drew | exact HU.out) HM.out) (HeadM.mono (by first | exact (Below.refl _ _).drew | exact Below.refl _ _) HH.out)).mono ?_; rintro e w3 ⟨rfl, hb3⟩; have hs3 : w.heap.size + 1 ≤ w3.heap.size := (by have := hb3.size; first | omega | (simp at this; omega)); have y0 := hb3.cell (p := ⟨w.heap.size, 1, none⟩) (by first | (simp; omega) | omega); have y1 := hb3.cell (p := ⟨b, f + k * 8 + 5, none⟩) (by first | (simp; omega) | omega); have y2 := hb3.cell (p := ⟨b, f + k * 8 + 6, none⟩) (by first | (simp; omega) | omega); have HBW3 : Hid (Below w.heap.size w w3) := Lib.hid (HU.out.trans (by first | exact hb3.mono HU.out.size | (refine Below.trans (Below.drew (Below.refl _ _)) (hb3.mono ?_); simpa using HU.out.size))); clear hb3))
          have hz3 := HZ.out
          go_wp2
        · go_ret
          exact ⟨by rw [HC2.out, HZ0.out, HZ.out]; rfl, HBW3.out⟩
        · go_roundw
          case rel => exact ⟨HBW3.out, hs3, by simp [*], k + 1, by omega, by go_num, by rw [HC2.out, HZ0.out, HZ.out]; rfl⟩
          case measure => simp [intOf]; omega
    · have HX : Hid (anyBad m l = false) := Lib.hid (by rw [HC.out, List.drop_eq_nil_of_le (by omega)]; rfl)
      go_wp2
      go_ret
      exact ⟨by rw [HX.out]; rfl, HU.out⟩
end Go.Proofs.YtbnlcffnmlgomaaGreatDoor
