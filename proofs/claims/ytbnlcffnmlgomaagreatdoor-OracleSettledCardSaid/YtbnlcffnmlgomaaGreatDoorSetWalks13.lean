/-
  The document's Compare: objects; and whole.
-/
import Derived.Test.YtbnlcffnmlgomaaGreatDoorSetWalks11
set_option linter.unusedSectionVars false
set_option linter.unusedVariables false
set_option linter.unusedSimpArgs false
namespace Go.Proofs.YtbnlcffnmlgomaaGreatDoor
open Go.RowKit Go.Lib

set_option maxRecDepth 100000 in
set_option maxHeartbeats 4000000 in
theorem ref_6 (v : V) (hE : ∀ i (u : ByteArray × V), v.o.get? i = some u → RefOk u.2) : RefOk1 (fun v v' => v.k = v'.k ∧ v.k = 6) v := by
  intro v' w cl co cl' co' hk _ _ hr hr'
  obtain ⟨p1, m1, rfl, hd⟩ := hr.headO
  obtain ⟨p2, m2, rfl, hd'⟩ := hr'.headO
  obtain ⟨q1, n1, c1, q2, n2, c2, rfl, -⟩ := hr.slices
  obtain ⟨q3, n3, c3, q4, n4, c4, rfl, -⟩ := hr'.slices
  have HV : Hid (cmpV v v' = cmpML v.o v'.o) := Lib.hid (by rw [cmpV_eq hk.1]; have := hk.2; rw [if_neg (by omega)]; rw [if_neg (by omega)]; rw [if_neg (by omega)]; rw [if_neg (by omega)]; rw [if_pos (by omega)])
  have hz2 : (v.k != v'.k) = false := by simpa [bne] using hk.1
  have e2 : (v.k == 2) = false := by rw [hk.2]; rfl
  have e3 : (v.k == 3) = false := by rw [hk.2]; rfl
  have e4 : (v.k == 4) = false := by rw [hk.2]; rfl
  have e5 : (v.k == 5) = false := by rw [hk.2]; rfl
  have e6 : (v.k == 6) = true := by rw [hk.2]; rfl
  have l1 := hd.1
  have l2 := hd'.1
  unfold maxLen at l1 l2
  have HE := hid' hE
  have HS := Lib.hid hd
  have HS' := Lib.hid hd'
  clear hr hr' hk hE hd hd'
  go_enter Tryz.func37, Tryz.ntmps37
  go_wp2
  go_loopw [7] (fun i u => Below w.heap.size w u ∧ w.heap.size + 2 ≤ u.heap.size ∧ u.cell? ⟨w.heap.size, 5, none⟩ = some (.slice p1 v.o.len m1) ∧ u.cell? ⟨w.heap.size + 1, 5, none⟩ = some (.slice p2 v'.o.len m2) ∧
      ∃ k : Nat, k ≤ v.o.len ∧ k ≤ v'.o.len ∧ i = .int .i64 k ∧ cmpML v.o v'.o = cmpML (v.o.drop k) (v'.o.drop k)) (fun i _ => v.o.len - (intOf i).toNat)
  case atStart => exact ⟨((Below.refl _ _).alloc (Nat.le_refl _) _).alloc (by simp) _, by simp, by simp, by simp, 0, Nat.zero_le _, Nat.zero_le _, rfl, by rw [ML.drop_zero, ML.drop_zero]⟩
  case round =>
    obtain ⟨hu, hsz, k4, k4', k, hka, hkb, rfl, hc⟩ := hrel
    have HC : Hid (cmpML v.o v'.o = cmpML (v.o.drop k) (v'.o.drop k)) := Lib.hid hc
    have HU := Lib.hid hu
    clear hc hu
    by_cases h1 : k < v.o.len
    · by_cases h2 : k < v'.o.len
      · obtain ⟨⟨ky, x⟩, hv⟩ := ML.get_some h1
        obtain ⟨b, f, rfl, hlt, hks, hkc, cl, co, hat, hrv⟩ := HS.out.2 k (ky, x) hv
        replace hkc := (HU.out.cell (p := ⟨b, f + k * 7, none⟩) hlt).trans hkc
        simp only at hat hrv hkc hks
        obtain ⟨q5, n5, c5, q6, n6, c6, rfl, rfl⟩ := hrv.slices
        obtain ⟨a0, a1, a2, a3, a4, a5⟩ := hat.mono HU.out hlt
        replace a1 : wr.cell? ⟨b, f + k * 7 + 2, none⟩ = _ := a1
        replace a2 : wr.cell? ⟨b, f + k * 7 + 3, none⟩ = _ := a2
        replace a3 : wr.cell? ⟨b, f + k * 7 + 4, none⟩ = _ := a3
        replace a4 : wr.cell? ⟨b, f + k * 7 + 5, none⟩ = _ := a4
        replace a5 : wr.cell? ⟨b, f + k * 7 + 6, none⟩ = _ := a5
        obtain ⟨⟨ky', x'⟩, hv'⟩ := ML.get_some h2
        obtain ⟨b', f', rfl, hlt', hks', hkc', cl', co', hat', hrv'⟩ := HS'.out.2 k (ky', x') hv'
        replace hkc' := (HU.out.cell (p := ⟨b', f' + k * 7, none⟩) hlt').trans hkc'
        simp only at hat' hrv' hkc' hks'
        obtain ⟨q7, n7, c7, q8, n8, c8, rfl, rfl⟩ := hrv'.slices
        obtain ⟨b0, b1, b2, b3, b4, b5⟩ := hat'.mono HU.out hlt'
        replace b1 : wr.cell? ⟨b', f' + k * 7 + 2, none⟩ = _ := b1
        replace b2 : wr.cell? ⟨b', f' + k * 7 + 3, none⟩ = _ := b2
        replace b3 : wr.cell? ⟨b', f' + k * 7 + 4, none⟩ = _ := b3
        replace b4 : wr.cell? ⟨b', f' + k * 7 + 5, none⟩ = _ := b4
        replace b5 : wr.cell? ⟨b', f' + k * 7 + 6, none⟩ = _ := b5
        have HS2 : Hid (cmpML v.o v'.o = if cmpB ky ky' = 0 then (if cmpV x x' = 0 then cmpML (v.o.drop (k + 1)) (v'.o.drop (k + 1)) else cmpV x x') else cmpB ky ky') := Lib.hid (HC.out.trans (cmpML_step hv hv'))
        have HX := hid' (HE k (ky, x) hv)
        have HR := Lib.hid hrv
        have HR' := Lib.hid hrv'
        have g0 := Nat.lt_of_lt_of_le hlt HU.out.size
        have g1 := Nat.lt_of_lt_of_le hlt' HU.out.size
        clear hv hv' hrv hrv' hat hat'
        by_cases hy : cmpB ky ky' = 0
        · have hy1 : (cmpB ky ky' != 0) = false := by simpa [bne] using hy
          have HY := Lib.hid hy
          clear hy
          by_cases hz : cmpV x x' = 0
          · have hz1 : (cmpV x x' != 0) = false := by simpa [bne] using hz
            have HZ := Lib.hid hz
            clear hz
            go_wp2
            go_region_held3 (fun w' => w'.cell? ⟨w.heap.size, 5, none⟩ = some (.slice (some ⟨b, f, none⟩) v.o.len m1) ∧ w'.cell? ⟨w.heap.size + 1, 5, none⟩ = some (.slice (some ⟨b', f', none⟩) v'.o.len m2) ∧ w'.cell? ⟨b, f + k * 7, none⟩ = some (.string ky) ∧ w'.cell? ⟨b, f + k * 7 + 1, none⟩ = some (.int .i64 x.k) ∧ w'.cell? ⟨b, f + k * 7 + 2, none⟩ = some (.bool x.b) ∧ w'.cell? ⟨b, f + k * 7 + 3, none⟩ = some (.int .i64 x.n) ∧ w'.cell? ⟨b, f + k * 7 + 4, none⟩ = some (.string x.t) ∧ w'.cell? ⟨b, f + k * 7 + 5, none⟩ = some (.slice q5 n5 c5) ∧ w'.cell? ⟨b, f + k * 7 + 6, none⟩ = some (.slice q6 n6 c6) ∧ w'.cell? ⟨b', f' + k * 7, none⟩ = some (.string ky') ∧ w'.cell? ⟨b', f' + k * 7 + 1, none⟩ = some (.int .i64 x'.k) ∧ w'.cell? ⟨b', f' + k * 7 + 2, none⟩ = some (.bool x'.b) ∧ w'.cell? ⟨b', f' + k * 7 + 3, none⟩ = some (.int .i64 x'.n) ∧ w'.cell? ⟨b', f' + k * 7 + 4, none⟩ = some (.string x'.t) ∧ w'.cell? ⟨b', f' + k * 7 + 5, none⟩ = some (.slice q7 n7 c7) ∧ w'.cell? ⟨b', f' + k * 7 + 6, none⟩ = some (.slice q8 n8 c8)) (go_keep)
              (first | (go_at_call 73; refine (texts_below _ _ _ hks hks').mono ?_; rintro e w2 ⟨rfl, hb2⟩; have hs2 : w.heap.size + 2 ≤ w2.heap.size := (by have := hb2.size; first | omega | (simp at this; omega)); have z0 := hb2.cell (p := ⟨w.heap.size, 5, none⟩) (by first | (simp; omega) | omega); have z1 := hb2.cell (p := ⟨w.heap.size + 1, 5, none⟩) (by first | (simp; omega) | omega); have z2 := hb2.cell (p := ⟨b, f + k * 7, none⟩) (by first | (simp; omega) | omega); have z3 := hb2.cell (p := ⟨b, f + k * 7 + 1, none⟩) (by first | (simp; omega) | omega); have z4 := hb2.cell (p := ⟨b, f + k * 7 + 2, none⟩) (by first | (simp; omega) | omega); have z5 := hb2.cell (p := ⟨b, f + k * 7 + 3, none⟩) (by first | (simp; omega) | omega); have z6 := hb2.cell (p := ⟨b, f + k * 7 + 4, none⟩) (by first | (simp; omega) | omega); have z7 := hb2.cell (p := ⟨b, f + k * 7 + 5, none⟩) (by first | (simp; omega) | omega); have z8 := hb2.cell (p := ⟨b, f + k * 7 + 6, none⟩) (by first | (simp; omega) | omega); have z9 := hb2.cell (p := ⟨b', f' + k * 7, none⟩) (by first | (simp; omega) | omega); have z10 := hb2.cell (p := ⟨b', f' + k * 7 + 1, none⟩) (by first | (simp; omega) | omega); have z11 := hb2.cell (p := ⟨b', f' + k * 7 + 2, none⟩) (by first | (simp; omega) | omega); have z12 := hb2.cell (p := ⟨b', f' + k * 7 + 3, none⟩) (by first | (simp; omega) | omega); have z13 := hb2.cell (p := ⟨b', f' + k * 7 + 4, none⟩) (by first | (simp; omega) | omega); have z14 := hb2.cell (p := ⟨b', f' + k * 7 + 5, none⟩) (by first | (simp; omega) | omega); have z15 := hb2.cell (p := ⟨b', f' + k * 7 + 6, none⟩) (by first | (simp; omega) | omega); have HBW : Hid (Below w.heap.size w w2) := Lib.hid (HU.out.trans (by first | exact hb2.mono HU.out.size | (refine Below.trans (Below.drew (Below.refl _ _)) (hb2.mono ?_); simpa using HU.out.size))); clear hb2))
            have g2 := Nat.lt_of_lt_of_le hlt HBW.out.size
            have g3 := Nat.lt_of_lt_of_le hlt' HBW.out.size
            go_wp2
            go_region_held3 (fun w' => w'.cell? ⟨w.heap.size, 5, none⟩ = some (.slice (some ⟨b, f, none⟩) v.o.len m1) ∧ w'.cell? ⟨w.heap.size + 1, 5, none⟩ = some (.slice (some ⟨b', f', none⟩) v'.o.len m2) ∧ w'.cell? ⟨b, f + k * 7, none⟩ = some (.string ky) ∧ w'.cell? ⟨b, f + k * 7 + 1, none⟩ = some (.int .i64 x.k) ∧ w'.cell? ⟨b, f + k * 7 + 2, none⟩ = some (.bool x.b) ∧ w'.cell? ⟨b, f + k * 7 + 3, none⟩ = some (.int .i64 x.n) ∧ w'.cell? ⟨b, f + k * 7 + 4, none⟩ = some (.string x.t) ∧ w'.cell? ⟨b, f + k * 7 + 5, none⟩ = some (.slice q5 n5 c5) ∧ w'.cell? ⟨b, f + k * 7 + 6, none⟩ = some (.slice q6 n6 c6) ∧ w'.cell? ⟨b', f' + k * 7, none⟩ = some (.string ky') ∧ w'.cell? ⟨b', f' + k * 7 + 1, none⟩ = some (.int .i64 x'.k) ∧ w'.cell? ⟨b', f' + k * 7 + 2, none⟩ = some (.bool x'.b) ∧ w'.cell? ⟨b', f' + k * 7 + 3, none⟩ = some (.int .i64 x'.n) ∧ w'.cell? ⟨b', f' + k * 7 + 4, none⟩ = some (.string x'.t) ∧ w'.cell? ⟨b', f' + k * 7 + 5, none⟩ = some (.slice q7 n7 c7) ∧ w'.cell? ⟨b', f' + k * 7 + 6, none⟩ = some (.slice q8 n8 c8)) (go_keep)
              (first | (go_at_call 37; refine ((unhid' HX) x' _ _ _ _ _ trivial HR.out.tsize HR'.out.tsize (RV.mono (by first | exact HBW.out.drew | exact HBW.out) HR.out) (RV.mono (by first | exact HBW.out.drew | exact HBW.out) HR'.out)).mono ?_; rintro e w3 ⟨rfl, hb3⟩; have hs3 : w.heap.size + 2 ≤ w3.heap.size := (by have := hb3.size; first | omega | (simp at this; omega)); have y0 := hb3.cell (p := ⟨w.heap.size, 5, none⟩) (by first | (simp; omega) | omega); have y1 := hb3.cell (p := ⟨w.heap.size + 1, 5, none⟩) (by first | (simp; omega) | omega); have y2 := hb3.cell (p := ⟨b, f + k * 7, none⟩) (by first | (simp; omega) | omega); have y3 := hb3.cell (p := ⟨b, f + k * 7 + 1, none⟩) (by first | (simp; omega) | omega); have y4 := hb3.cell (p := ⟨b, f + k * 7 + 2, none⟩) (by first | (simp; omega) | omega); have y5 := hb3.cell (p := ⟨b, f + k * 7 + 3, none⟩) (by first | (simp; omega) | omega); have y6 := hb3.cell (p := ⟨b, f + k * 7 + 4, none⟩) (by first | (simp; omega) | omega); have y7 := hb3.cell (p := ⟨b, f + k * 7 + 5, none⟩) (by first | (simp; omega) | omega); have y8 := hb3.cell (p := ⟨b, f + k * 7 + 6, none⟩) (by first | (simp; omega) | omega); have y9 := hb3.cell (p := ⟨b', f' + k * 7, none⟩) (by first | (simp; omega) | omega); have y10 := hb3.cell (p := ⟨b', f' + k * 7 + 1, none⟩) (by first | (simp; omega) | omega); have y11 := hb3.cell (p := ⟨b', f' + k * 7 + 2, none⟩) (by first | (simp; omega) | omega); have y12 := hb3.cell (p := ⟨b', f' + k * 7 + 3, none⟩) (by first | (simp; omega) | omega); have y13 := hb3.cell (p := ⟨b', f' + k * 7 + 4, none⟩) (by first | (simp; omega) | omega); have y14 := hb3.cell (p := ⟨b', f' + k * 7 + 5, none⟩) (by first | (simp; omega) | omega); have y15 := hb3.cell (p := ⟨b', f' + k * 7 + 6, none⟩) (by first | (simp; omega) | omega); have HBW3 : Hid (Below w.heap.size w w3) := Lib.hid (HBW.out.trans (by first | exact hb3.mono HBW.out.size | (refine Below.trans (Below.drew (Below.refl _ _)) (hb3.mono ?_); simpa using HBW.out.size))); clear hb3))
            go_wp2
            go_roundw
            case rel => exact ⟨HBW3.out, hs3, by simp [*], by simp [*], k + 1, by omega, by omega, by go_num, by rw [HS2.out, if_pos HY.out, if_pos HZ.out]⟩
            case measure => simp [intOf]; omega
          · have hz1 : (cmpV x x' != 0) = true := by simpa [bne] using hz
            have HZ : Hid (¬ cmpV x x' = 0) := Lib.hid hz
            clear hz
            go_wp2
            go_region_held3 (fun w' => w'.cell? ⟨w.heap.size, 5, none⟩ = some (.slice (some ⟨b, f, none⟩) v.o.len m1) ∧ w'.cell? ⟨w.heap.size + 1, 5, none⟩ = some (.slice (some ⟨b', f', none⟩) v'.o.len m2) ∧ w'.cell? ⟨b, f + k * 7, none⟩ = some (.string ky) ∧ w'.cell? ⟨b, f + k * 7 + 1, none⟩ = some (.int .i64 x.k) ∧ w'.cell? ⟨b, f + k * 7 + 2, none⟩ = some (.bool x.b) ∧ w'.cell? ⟨b, f + k * 7 + 3, none⟩ = some (.int .i64 x.n) ∧ w'.cell? ⟨b, f + k * 7 + 4, none⟩ = some (.string x.t) ∧ w'.cell? ⟨b, f + k * 7 + 5, none⟩ = some (.slice q5 n5 c5) ∧ w'.cell? ⟨b, f + k * 7 + 6, none⟩ = some (.slice q6 n6 c6) ∧ w'.cell? ⟨b', f' + k * 7, none⟩ = some (.string ky') ∧ w'.cell? ⟨b', f' + k * 7 + 1, none⟩ = some (.int .i64 x'.k) ∧ w'.cell? ⟨b', f' + k * 7 + 2, none⟩ = some (.bool x'.b) ∧ w'.cell? ⟨b', f' + k * 7 + 3, none⟩ = some (.int .i64 x'.n) ∧ w'.cell? ⟨b', f' + k * 7 + 4, none⟩ = some (.string x'.t) ∧ w'.cell? ⟨b', f' + k * 7 + 5, none⟩ = some (.slice q7 n7 c7) ∧ w'.cell? ⟨b', f' + k * 7 + 6, none⟩ = some (.slice q8 n8 c8)) (go_keep)
              (first | (go_at_call 73; refine (texts_below _ _ _ hks hks').mono ?_; rintro e w2 ⟨rfl, hb2⟩; have hs2 : w.heap.size + 2 ≤ w2.heap.size := (by have := hb2.size; first | omega | (simp at this; omega)); have z0 := hb2.cell (p := ⟨w.heap.size, 5, none⟩) (by first | (simp; omega) | omega); have z1 := hb2.cell (p := ⟨w.heap.size + 1, 5, none⟩) (by first | (simp; omega) | omega); have z2 := hb2.cell (p := ⟨b, f + k * 7, none⟩) (by first | (simp; omega) | omega); have z3 := hb2.cell (p := ⟨b, f + k * 7 + 1, none⟩) (by first | (simp; omega) | omega); have z4 := hb2.cell (p := ⟨b, f + k * 7 + 2, none⟩) (by first | (simp; omega) | omega); have z5 := hb2.cell (p := ⟨b, f + k * 7 + 3, none⟩) (by first | (simp; omega) | omega); have z6 := hb2.cell (p := ⟨b, f + k * 7 + 4, none⟩) (by first | (simp; omega) | omega); have z7 := hb2.cell (p := ⟨b, f + k * 7 + 5, none⟩) (by first | (simp; omega) | omega); have z8 := hb2.cell (p := ⟨b, f + k * 7 + 6, none⟩) (by first | (simp; omega) | omega); have z9 := hb2.cell (p := ⟨b', f' + k * 7, none⟩) (by first | (simp; omega) | omega); have z10 := hb2.cell (p := ⟨b', f' + k * 7 + 1, none⟩) (by first | (simp; omega) | omega); have z11 := hb2.cell (p := ⟨b', f' + k * 7 + 2, none⟩) (by first | (simp; omega) | omega); have z12 := hb2.cell (p := ⟨b', f' + k * 7 + 3, none⟩) (by first | (simp; omega) | omega); have z13 := hb2.cell (p := ⟨b', f' + k * 7 + 4, none⟩) (by first | (simp; omega) | omega); have z14 := hb2.cell (p := ⟨b', f' + k * 7 + 5, none⟩) (by first | (simp; omega) | omega); have z15 := hb2.cell (p := ⟨b', f' + k * 7 + 6, none⟩) (by first | (simp; omega) | omega); have HBW : Hid (Below w.heap.size w w2) := Lib.hid (HU.out.trans (by first | exact hb2.mono HU.out.size | (refine Below.trans (Below.drew (Below.refl _ _)) (hb2.mono ?_); simpa using HU.out.size))); clear hb2))
            have g2 := Nat.lt_of_lt_of_le hlt HBW.out.size
            have g3 := Nat.lt_of_lt_of_le hlt' HBW.out.size
            go_wp2
            go_region_held3 (fun w' => w'.cell? ⟨w.heap.size, 5, none⟩ = some (.slice (some ⟨b, f, none⟩) v.o.len m1) ∧ w'.cell? ⟨w.heap.size + 1, 5, none⟩ = some (.slice (some ⟨b', f', none⟩) v'.o.len m2) ∧ w'.cell? ⟨b, f + k * 7, none⟩ = some (.string ky) ∧ w'.cell? ⟨b, f + k * 7 + 1, none⟩ = some (.int .i64 x.k) ∧ w'.cell? ⟨b, f + k * 7 + 2, none⟩ = some (.bool x.b) ∧ w'.cell? ⟨b, f + k * 7 + 3, none⟩ = some (.int .i64 x.n) ∧ w'.cell? ⟨b, f + k * 7 + 4, none⟩ = some (.string x.t) ∧ w'.cell? ⟨b, f + k * 7 + 5, none⟩ = some (.slice q5 n5 c5) ∧ w'.cell? ⟨b, f + k * 7 + 6, none⟩ = some (.slice q6 n6 c6) ∧ w'.cell? ⟨b', f' + k * 7, none⟩ = some (.string ky') ∧ w'.cell? ⟨b', f' + k * 7 + 1, none⟩ = some (.int .i64 x'.k) ∧ w'.cell? ⟨b', f' + k * 7 + 2, none⟩ = some (.bool x'.b) ∧ w'.cell? ⟨b', f' + k * 7 + 3, none⟩ = some (.int .i64 x'.n) ∧ w'.cell? ⟨b', f' + k * 7 + 4, none⟩ = some (.string x'.t) ∧ w'.cell? ⟨b', f' + k * 7 + 5, none⟩ = some (.slice q7 n7 c7) ∧ w'.cell? ⟨b', f' + k * 7 + 6, none⟩ = some (.slice q8 n8 c8)) (go_keep)
              (first | (go_at_call 37; refine ((unhid' HX) x' _ _ _ _ _ trivial HR.out.tsize HR'.out.tsize (RV.mono (by first | exact HBW.out.drew | exact HBW.out) HR.out) (RV.mono (by first | exact HBW.out.drew | exact HBW.out) HR'.out)).mono ?_; rintro e w3 ⟨rfl, hb3⟩; have hs3 : w.heap.size + 2 ≤ w3.heap.size := (by have := hb3.size; first | omega | (simp at this; omega)); have y0 := hb3.cell (p := ⟨w.heap.size, 5, none⟩) (by first | (simp; omega) | omega); have y1 := hb3.cell (p := ⟨w.heap.size + 1, 5, none⟩) (by first | (simp; omega) | omega); have y2 := hb3.cell (p := ⟨b, f + k * 7, none⟩) (by first | (simp; omega) | omega); have y3 := hb3.cell (p := ⟨b, f + k * 7 + 1, none⟩) (by first | (simp; omega) | omega); have y4 := hb3.cell (p := ⟨b, f + k * 7 + 2, none⟩) (by first | (simp; omega) | omega); have y5 := hb3.cell (p := ⟨b, f + k * 7 + 3, none⟩) (by first | (simp; omega) | omega); have y6 := hb3.cell (p := ⟨b, f + k * 7 + 4, none⟩) (by first | (simp; omega) | omega); have y7 := hb3.cell (p := ⟨b, f + k * 7 + 5, none⟩) (by first | (simp; omega) | omega); have y8 := hb3.cell (p := ⟨b, f + k * 7 + 6, none⟩) (by first | (simp; omega) | omega); have y9 := hb3.cell (p := ⟨b', f' + k * 7, none⟩) (by first | (simp; omega) | omega); have y10 := hb3.cell (p := ⟨b', f' + k * 7 + 1, none⟩) (by first | (simp; omega) | omega); have y11 := hb3.cell (p := ⟨b', f' + k * 7 + 2, none⟩) (by first | (simp; omega) | omega); have y12 := hb3.cell (p := ⟨b', f' + k * 7 + 3, none⟩) (by first | (simp; omega) | omega); have y13 := hb3.cell (p := ⟨b', f' + k * 7 + 4, none⟩) (by first | (simp; omega) | omega); have y14 := hb3.cell (p := ⟨b', f' + k * 7 + 5, none⟩) (by first | (simp; omega) | omega); have y15 := hb3.cell (p := ⟨b', f' + k * 7 + 6, none⟩) (by first | (simp; omega) | omega); have HBW3 : Hid (Below w.heap.size w w3) := Lib.hid (HBW.out.trans (by first | exact hb3.mono HBW.out.size | (refine Below.trans (Below.drew (Below.refl _ _)) (hb3.mono ?_); simpa using HBW.out.size))); clear hb3))
            go_wp2
            go_ret
            exact ⟨ret_int (by rw [HV.out, HS2.out, if_pos HY.out, if_neg HZ.out]), HBW3.out⟩
        · have hy1 : (cmpB ky ky' != 0) = true := by simpa [bne] using hy
          have HY : Hid (¬ cmpB ky ky' = 0) := Lib.hid hy
          clear hy
          go_wp2
          go_region_held3 (fun w' => w'.cell? ⟨w.heap.size, 5, none⟩ = some (.slice (some ⟨b, f, none⟩) v.o.len m1) ∧ w'.cell? ⟨w.heap.size + 1, 5, none⟩ = some (.slice (some ⟨b', f', none⟩) v'.o.len m2) ∧ w'.cell? ⟨b, f + k * 7, none⟩ = some (.string ky) ∧ w'.cell? ⟨b, f + k * 7 + 1, none⟩ = some (.int .i64 x.k) ∧ w'.cell? ⟨b, f + k * 7 + 2, none⟩ = some (.bool x.b) ∧ w'.cell? ⟨b, f + k * 7 + 3, none⟩ = some (.int .i64 x.n) ∧ w'.cell? ⟨b, f + k * 7 + 4, none⟩ = some (.string x.t) ∧ w'.cell? ⟨b, f + k * 7 + 5, none⟩ = some (.slice q5 n5 c5) ∧ w'.cell? ⟨b, f + k * 7 + 6, none⟩ = some (.slice q6 n6 c6) ∧ w'.cell? ⟨b', f' + k * 7, none⟩ = some (.string ky') ∧ w'.cell? ⟨b', f' + k * 7 + 1, none⟩ = some (.int .i64 x'.k) ∧ w'.cell? ⟨b', f' + k * 7 + 2, none⟩ = some (.bool x'.b) ∧ w'.cell? ⟨b', f' + k * 7 + 3, none⟩ = some (.int .i64 x'.n) ∧ w'.cell? ⟨b', f' + k * 7 + 4, none⟩ = some (.string x'.t) ∧ w'.cell? ⟨b', f' + k * 7 + 5, none⟩ = some (.slice q7 n7 c7) ∧ w'.cell? ⟨b', f' + k * 7 + 6, none⟩ = some (.slice q8 n8 c8)) (go_keep)
            (first | (go_at_call 73; refine (texts_below _ _ _ hks hks').mono ?_; rintro e w2 ⟨rfl, hb2⟩; have hs2 : w.heap.size + 2 ≤ w2.heap.size := (by have := hb2.size; first | omega | (simp at this; omega)); have z0 := hb2.cell (p := ⟨w.heap.size, 5, none⟩) (by first | (simp; omega) | omega); have z1 := hb2.cell (p := ⟨w.heap.size + 1, 5, none⟩) (by first | (simp; omega) | omega); have z2 := hb2.cell (p := ⟨b, f + k * 7, none⟩) (by first | (simp; omega) | omega); have z3 := hb2.cell (p := ⟨b, f + k * 7 + 1, none⟩) (by first | (simp; omega) | omega); have z4 := hb2.cell (p := ⟨b, f + k * 7 + 2, none⟩) (by first | (simp; omega) | omega); have z5 := hb2.cell (p := ⟨b, f + k * 7 + 3, none⟩) (by first | (simp; omega) | omega); have z6 := hb2.cell (p := ⟨b, f + k * 7 + 4, none⟩) (by first | (simp; omega) | omega); have z7 := hb2.cell (p := ⟨b, f + k * 7 + 5, none⟩) (by first | (simp; omega) | omega); have z8 := hb2.cell (p := ⟨b, f + k * 7 + 6, none⟩) (by first | (simp; omega) | omega); have z9 := hb2.cell (p := ⟨b', f' + k * 7, none⟩) (by first | (simp; omega) | omega); have z10 := hb2.cell (p := ⟨b', f' + k * 7 + 1, none⟩) (by first | (simp; omega) | omega); have z11 := hb2.cell (p := ⟨b', f' + k * 7 + 2, none⟩) (by first | (simp; omega) | omega); have z12 := hb2.cell (p := ⟨b', f' + k * 7 + 3, none⟩) (by first | (simp; omega) | omega); have z13 := hb2.cell (p := ⟨b', f' + k * 7 + 4, none⟩) (by first | (simp; omega) | omega); have z14 := hb2.cell (p := ⟨b', f' + k * 7 + 5, none⟩) (by first | (simp; omega) | omega); have z15 := hb2.cell (p := ⟨b', f' + k * 7 + 6, none⟩) (by first | (simp; omega) | omega); have HBW : Hid (Below w.heap.size w w2) := Lib.hid (HU.out.trans (by first | exact hb2.mono HU.out.size | (refine Below.trans (Below.drew (Below.refl _ _)) (hb2.mono ?_); simpa using HU.out.size))); clear hb2))
          go_wp2
          go_ret
          exact ⟨ret_int (by rw [HV.out, HS2.out, if_neg HY.out]), HBW.out⟩
      · have HX : Hid (cmpML v.o v'.o = cmpI v.o.len v'.o.len) := Lib.hid (by rw [HC.out, cmpML_end hka hkb (by omega)])
        go_wp2_with (first | (go_at_call 72; (with_reducible refine (numbers_any _ _ _).mono ?_); rintro e w' ⟨rfl, rfl⟩))
        go_ret
        exact ⟨ret_int (by rw [HV.out, HX.out]), HU.out⟩
    · have HX : Hid (cmpML v.o v'.o = cmpI v.o.len v'.o.len) := Lib.hid (by rw [HC.out, cmpML_end hka hkb (by omega)])
      go_wp2_with (first | (go_at_call 72; (with_reducible refine (numbers_any _ _ _).mono ?_); rintro e w' ⟨rfl, rfl⟩))
      go_ret
      exact ⟨ret_int (by rw [HV.out, HX.out]), HU.out⟩

theorem ref_any : ∀ (d : Nat) (v : V), v.deep ≤ d → RefOk v := by
  intro d
  induction d with
  | zero => intro v h; cases v; simp only [V.deep] at h; omega
  | succ d ih =>
    intro v h v' w cl co cl' co' _ ht ht' hr hr'
    have hl : ∀ i u, v.l.get? i = some u → RefOk u := fun i u hu => ih u (by
      have := VL.deep_get hu
      cases v; simp only [V.deep, V.l] at h this; omega)
    have ho : ∀ i (u : ByteArray × V), v.o.get? i = some u → RefOk u.2 := fun i u hu => ih u.2 (by
      have := ML.deep_get hu
      cases v; simp only [V.deep, V.o] at h this; omega)
    by_cases hk : v.k = v'.k
    · by_cases h2 : v.k = 2
      · exact ref_2 v v' w cl co cl' co' ⟨hk, h2⟩ ht ht' hr hr'
      by_cases h3 : v.k = 3
      · exact ref_3 v v' w cl co cl' co' ⟨hk, h3⟩ ht ht' hr hr'
      by_cases h4 : v.k = 4
      · exact ref_4 v v' w cl co cl' co' ⟨hk, h4⟩ ht ht' hr hr'
      by_cases h5 : v.k = 5
      · exact ref_5 v hl v' w cl co cl' co' ⟨hk, h5⟩ ht ht' hr hr'
      by_cases h6 : v.k = 6
      · exact ref_6 v ho v' w cl co cl' co' ⟨hk, h6⟩ ht ht' hr hr'
      exact ref_0 v v' w cl co cl' co' ⟨hk, h2, h3, h4, h5, h6⟩ ht ht' hr hr'
    · exact ref_kind v v' w cl co cl' co' hk ht ht' hr hr'
theorem ref_all (v v' : V) (w : World) (cl co cl' co' : Value) (hr : RV w v cl co) (hr' : RV w v' cl' co') :
    Calls Tryz.prog 37 #[.agg #[.int .i64 v.k, .bool v.b, .int .i64 v.n, .string v.t, cl, co], .agg #[.int .i64 v'.k, .bool v'.b, .int .i64 v'.n, .string v'.t, cl', co']] w fun e w' => e = .returned (.int .i64 (cmpV v v')) ∧ Below w.heap.size w w' :=
  ref_any _ v (Nat.le_refl _) v' w cl co cl' co' trivial hr.tsize hr'.tsize hr hr'
end Go.Proofs.YtbnlcffnmlgomaaGreatDoor
