/-
  The document's Compare: the plain kinds, and lists.
-/
import Derived.Test.YtbnlcffnmlgomaaGreatDoorSetWalks8
set_option linter.unusedSectionVars false
set_option linter.unusedVariables false
set_option linter.unusedSimpArgs false
namespace Go.Proofs.YtbnlcffnmlgomaaGreatDoor
open Go.RowKit Go.Lib

def RefOk1 (C : V → V → Prop) (v : V) : Prop := ∀ (v' : V) (w : World) (cl co cl' co' : Value), C v v' → v.t.size ≤ maxLen → v'.t.size ≤ maxLen → RV w v cl co → RV w v' cl' co' →
  Calls Tryz.prog 37 #[.agg #[.int .i64 v.k, .bool v.b, .int .i64 v.n, .string v.t, cl, co], .agg #[.int .i64 v'.k, .bool v'.b, .int .i64 v'.n, .string v'.t, cl', co']] w fun e w' => e = .returned (.int .i64 (cmpV v v')) ∧ Below w.heap.size w w'
def RefOk (v : V) : Prop := RefOk1 (fun _ _ => True) v

theorem below_drawn {w u : World} (h : Drawn w u) : Below w.heap.size w u := by
  obtain ⟨n, rfl⟩ := h
  exact ⟨rfl, rfl, rfl, Nat.le_refl _, fun _ _ => rfl⟩
theorem texts_below (a b : ByteArray) (w : World) (ha : a.size ≤ maxLen) (hb : b.size ≤ maxLen) : Calls Tryz.prog 73 #[.string a, .string b] w fun e w' => e = .returned (.int .i64 (cmpB a b)) ∧ Below w.heap.size w w' :=
  (texts_any a b w ha hb).mono fun _ _ ⟨h1, h2⟩ => ⟨h1, below_drawn h2⟩

set_option maxRecDepth 100000 in
set_option maxHeartbeats 1000000 in
theorem ref_kind (v : V) : RefOk1 (fun v v' => ¬ v.k = v'.k) v := by
  intro v' w cl co cl' co' hk _ _ hr hr'
  obtain ⟨q1, n1, c1, q2, n2, c2, rfl, rfl⟩ := hr.slices
  obtain ⟨q3, n3, c3, q4, n4, c4, rfl, rfl⟩ := hr'.slices
  have HV := Lib.hid (cmpV_kind hk)
  have hz2 : (v.k != v'.k) = true := by simpa [bne] using hk
  clear hr hr' hk
  go_enter Tryz.func37, Tryz.ntmps37
  go_wp2_with (first | (go_at_call 72; (with_reducible refine (numbers_any _ _ _).mono ?_); rintro e w' ⟨rfl, rfl⟩))
  go_ret
  exact ⟨ret_int HV.out.symm, ((Below.refl _ _).alloc (Nat.le_refl _) _).alloc (by simp) _⟩

set_option maxRecDepth 100000 in
set_option maxHeartbeats 1000000 in
theorem ref_0 (v : V) : RefOk1 (fun v v' => v.k = v'.k ∧ (¬ v.k = 2 ∧ ¬ v.k = 3 ∧ ¬ v.k = 4 ∧ ¬ v.k = 5 ∧ ¬ v.k = 6)) v := by
  intro v' w cl co cl' co' hk _ _ hr hr'
  obtain ⟨q1, n1, c1, q2, n2, c2, rfl, rfl⟩ := hr.slices
  obtain ⟨q3, n3, c3, q4, n4, c4, rfl, rfl⟩ := hr'.slices
  have HV : Hid (cmpV v v' = 0) := Lib.hid (by rw [cmpV_eq hk.1]; obtain ⟨_, h2, h3, h4, h5, h6⟩ := hk; rw [if_neg h2, if_neg h3, if_neg h4, if_neg h5, if_neg h6])
  have hz2 : (v.k != v'.k) = false := by simpa [bne] using hk.1
  have e2 : (v.k == 2) = false := by have := hk.2; simp; omega
  have e3 : (v.k == 3) = false := by have := hk.2; simp; omega
  have e4 : (v.k == 4) = false := by have := hk.2; simp; omega
  have e5 : (v.k == 5) = false := by have := hk.2; simp; omega
  have e6 : (v.k == 6) = false := by have := hk.2; simp; omega
  clear hr hr' hk
  go_enter Tryz.func37, Tryz.ntmps37
  go_wp2
  go_ret
  exact ⟨ret_int HV.out.symm, ((Below.refl _ _).alloc (Nat.le_refl _) _).alloc (by simp) _⟩

set_option maxRecDepth 100000 in
set_option maxHeartbeats 1000000 in
theorem ref_2 (v : V) : RefOk1 (fun v v' => v.k = v'.k ∧ v.k = 2) v := by
  intro v' w cl co cl' co' hk _ _ hr hr'
  obtain ⟨q1, n1, c1, q2, n2, c2, rfl, rfl⟩ := hr.slices
  obtain ⟨q3, n3, c3, q4, n4, c4, rfl, rfl⟩ := hr'.slices
  have HV : Hid (cmpV v v' = truth v.b - truth v'.b) := Lib.hid (by rw [cmpV_eq hk.1, if_pos hk.2])
  have hz2 : (v.k != v'.k) = false := by simpa [bne] using hk.1
  have e2 : (v.k == 2) = true := by rw [hk.2]; rfl
  clear hr hr' hk
  cases hb : v.b <;> cases hb' : v'.b
  all_goals
    have HB := Lib.hid hb
    have HB' := Lib.hid hb'
    clear hb hb'
    go_enter Tryz.func37, Tryz.ntmps37
    go_wp2
    go_ret
    exact ⟨ret_int (by rw [HV.out, HB.out, HB'.out]; rfl), ((Below.refl _ _).alloc (Nat.le_refl _) _).alloc (by simp) _⟩

set_option maxRecDepth 100000 in
set_option maxHeartbeats 1000000 in
theorem ref_3 (v : V) : RefOk1 (fun v v' => v.k = v'.k ∧ v.k = 3) v := by
  intro v' w cl co cl' co' hk _ _ hr hr'
  obtain ⟨q1, n1, c1, q2, n2, c2, rfl, rfl⟩ := hr.slices
  obtain ⟨q3, n3, c3, q4, n4, c4, rfl, rfl⟩ := hr'.slices
  have HV : Hid (cmpV v v' = cmpI v.n v'.n) := Lib.hid (by rw [cmpV_eq hk.1]; have := hk.2; rw [if_neg (by omega)]; rw [if_pos (by omega)])
  have hz2 : (v.k != v'.k) = false := by simpa [bne] using hk.1
  have e2 : (v.k == 2) = false := by rw [hk.2]; rfl
  have e3 : (v.k == 3) = true := by rw [hk.2]; rfl
  clear hr hr' hk
  go_enter Tryz.func37, Tryz.ntmps37
  go_wp2_with (first | (go_at_call 72; (with_reducible refine (numbers_any _ _ _).mono ?_); rintro e w' ⟨rfl, rfl⟩))
  go_ret
  exact ⟨ret_int HV.out.symm, ((Below.refl _ _).alloc (Nat.le_refl _) _).alloc (by simp) _⟩

set_option maxRecDepth 100000 in
set_option maxHeartbeats 1000000 in
theorem ref_4 (v : V) : RefOk1 (fun v v' => v.k = v'.k ∧ v.k = 4) v := by
  intro v' w cl co cl' co' hk ht ht' hr hr'
  obtain ⟨q1, n1, c1, q2, n2, c2, rfl, rfl⟩ := hr.slices
  obtain ⟨q3, n3, c3, q4, n4, c4, rfl, rfl⟩ := hr'.slices
  have HV : Hid (cmpV v v' = cmpB v.t v'.t) := Lib.hid (by rw [cmpV_eq hk.1]; have := hk.2; rw [if_neg (by omega)]; rw [if_neg (by omega)]; rw [if_pos (by omega)])
  have hz2 : (v.k != v'.k) = false := by simpa [bne] using hk.1
  have e2 : (v.k == 2) = false := by rw [hk.2]; rfl
  have e3 : (v.k == 3) = false := by rw [hk.2]; rfl
  have e4 : (v.k == 4) = true := by rw [hk.2]; rfl
  have HT := Lib.hid ht
  have HT' := Lib.hid ht'
  clear hr hr' hk ht ht'
  go_enter Tryz.func37, Tryz.ntmps37
  go_wp2_with fail
  refine (texts_below _ _ _ HT.out HT'.out).mono ?_
  rintro e w2 ⟨rfl, hb2⟩
  have HB2 := Lib.hid hb2
  clear hb2
  go_wp2
  go_ret
  exact ⟨ret_int HV.out.symm, (((Below.refl _ _).alloc (Nat.le_refl _) _).alloc (by simp) _).trans (HB2.out.mono (by simp; omega))⟩
end Go.Proofs.YtbnlcffnmlgomaaGreatDoor

/-
  The document's Compare: lists.
-/
namespace Go.Proofs.YtbnlcffnmlgomaaGreatDoor
open Go.RowKit Go.Lib

theorem cell_new2 (w : World) (o : Obj) (b i : Nat) (h : b < w.heap.size) : (w.alloc o).cell? ⟨b, i, none⟩ = w.cell? ⟨b, i, none⟩ :=
  World.cell?_of_block (Below.heap_alloc w o b h)

theorem RV.tsize {w : World} {v : V} {cl co : Value} (h : RV w v cl co) : v.t.size ≤ maxLen := by
  cases v with
  | mk k b n t l o => unfold RV at h; exact h.1

set_option maxRecDepth 100000 in
set_option maxHeartbeats 2000000 in
theorem ref_5 (v : V) (hE : ∀ i u, v.l.get? i = some u → RefOk u) : RefOk1 (fun v v' => v.k = v'.k ∧ v.k = 5) v := by
  intro v' w cl co cl' co' hk _ _ hr hr'
  obtain ⟨p1, m1, rfl, hd⟩ := hr.headL
  obtain ⟨p2, m2, rfl, hd'⟩ := hr'.headL
  obtain ⟨q1, n1, c1, q2, n2, c2, -, rfl⟩ := hr.slices
  obtain ⟨q3, n3, c3, q4, n4, c4, -, rfl⟩ := hr'.slices
  have HV : Hid (cmpV v v' = cmpVL v.l v'.l) := Lib.hid (by rw [cmpV_eq hk.1]; have := hk.2; rw [if_neg (by omega)]; rw [if_neg (by omega)]; rw [if_neg (by omega)]; rw [if_pos (by omega)])
  have hz2 : (v.k != v'.k) = false := by simpa [bne] using hk.1
  have e2 : (v.k == 2) = false := by rw [hk.2]; rfl
  have e3 : (v.k == 3) = false := by rw [hk.2]; rfl
  have e4 : (v.k == 4) = false := by rw [hk.2]; rfl
  have e5 : (v.k == 5) = true := by rw [hk.2]; rfl
  have l1 := hd.1
  have l2 := hd'.1
  unfold maxLen at l1 l2
  have HE := hid' hE
  have HS := Lib.hid hd
  have HS' := Lib.hid hd'
  clear hr hr' hk hE hd hd'
  go_enter Tryz.func37, Tryz.ntmps37
  go_wp2
  go_loopw [5] (fun i u => Below w.heap.size w u ∧ w.heap.size + 2 ≤ u.heap.size ∧ u.cell? ⟨w.heap.size, 4, none⟩ = some (.slice p1 v.l.len m1) ∧ u.cell? ⟨w.heap.size + 1, 4, none⟩ = some (.slice p2 v'.l.len m2) ∧
      ∃ k : Nat, k ≤ v.l.len ∧ k ≤ v'.l.len ∧ i = .int .i64 k ∧ cmpVL v.l v'.l = cmpVL (v.l.drop k) (v'.l.drop k)) (fun i _ => v.l.len - (intOf i).toNat)
  case atStart => exact ⟨((Below.refl _ _).alloc (Nat.le_refl _) _).alloc (by simp) _, by simp, by simp, by simp, 0, Nat.zero_le _, Nat.zero_le _, rfl, by rw [VL.drop_zero, VL.drop_zero]⟩
  case round =>
    obtain ⟨hu, hsz, k4, k4', k, hka, hkb, rfl, hc⟩ := hrel
    have HC : Hid (cmpVL v.l v'.l = cmpVL (v.l.drop k) (v'.l.drop k)) := Lib.hid hc
    have HU := Lib.hid hu
    clear hc hu
    by_cases h1 : k < v.l.len
    · by_cases h2 : k < v'.l.len
      · obtain ⟨x, hv⟩ := VL.get_some h1
        obtain ⟨b, f, rfl, hlt, cl, co, hat, hrv⟩ := HS.out.2 k x hv
        obtain ⟨q5, n5, c5, q6, n6, c6, rfl, rfl⟩ := hrv.slices
        obtain ⟨a0, a1, a2, a3, a4, a5⟩ := hat.mono HU.out hlt
        obtain ⟨x', hv'⟩ := VL.get_some h2
        obtain ⟨b', f', rfl, hlt', cl', co', hat', hrv'⟩ := HS'.out.2 k x' hv'
        obtain ⟨q7, n7, c7, q8, n8, c8, rfl, rfl⟩ := hrv'.slices
        obtain ⟨b0, b1, b2, b3, b4, b5⟩ := hat'.mono HU.out hlt'
        have HS2 : Hid (cmpVL v.l v'.l = if cmpV x x' = 0 then cmpVL (v.l.drop (k + 1)) (v'.l.drop (k + 1)) else cmpV x x') := Lib.hid (HC.out.trans (cmpVL_step hv hv'))
        have HX := hid' (HE k x hv)
        have HR := Lib.hid hrv
        have HR' := Lib.hid hrv'
        have g0 := Nat.lt_of_lt_of_le hlt HU.out.size
        have g1 := Nat.lt_of_lt_of_le hlt' HU.out.size
        clear hv hv' hrv hrv' hat hat'
        by_cases hz : cmpV x x' = 0
        · have hz1 : (cmpV x x' != 0) = false := by simpa [bne] using hz
          have HZ := Lib.hid hz
          clear hz
          go_wp2
          go_region_held3 (fun w' => w'.cell? ⟨w.heap.size, 4, none⟩ = some (.slice (some ⟨b, f, none⟩) v.l.len m1) ∧ w'.cell? ⟨w.heap.size + 1, 4, none⟩ = some (.slice (some ⟨b', f', none⟩) v'.l.len m2) ∧ w'.cell? ⟨b, f + k * 6, none⟩ = some (.int .i64 x.k) ∧ w'.cell? ⟨b, f + k * 6 + 1, none⟩ = some (.bool x.b) ∧ w'.cell? ⟨b, f + k * 6 + 2, none⟩ = some (.int .i64 x.n) ∧ w'.cell? ⟨b, f + k * 6 + 3, none⟩ = some (.string x.t) ∧ w'.cell? ⟨b, f + k * 6 + 4, none⟩ = some (.slice q5 n5 c5) ∧ w'.cell? ⟨b, f + k * 6 + 5, none⟩ = some (.slice q6 n6 c6) ∧ w'.cell? ⟨b', f' + k * 6, none⟩ = some (.int .i64 x'.k) ∧ w'.cell? ⟨b', f' + k * 6 + 1, none⟩ = some (.bool x'.b) ∧ w'.cell? ⟨b', f' + k * 6 + 2, none⟩ = some (.int .i64 x'.n) ∧ w'.cell? ⟨b', f' + k * 6 + 3, none⟩ = some (.string x'.t) ∧ w'.cell? ⟨b', f' + k * 6 + 4, none⟩ = some (.slice q7 n7 c7) ∧ w'.cell? ⟨b', f' + k * 6 + 5, none⟩ = some (.slice q8 n8 c8)) (go_keep)
            (first | (go_at_call 37; refine ((unhid' HX) x' _ _ _ _ _ trivial HR.out.tsize HR'.out.tsize (RV.mono (by first | exact HU.out.drew | exact HU.out) HR.out) (RV.mono (by first | exact HU.out.drew | exact HU.out) HR'.out)).mono ?_; rintro e w2 ⟨rfl, hb2⟩; have hs2 : w.heap.size + 2 ≤ w2.heap.size := (by have := hb2.size; first | omega | (simp at this; omega)); have z0 := hb2.cell (p := ⟨w.heap.size, 4, none⟩) (by first | (simp; omega) | omega); have z1 := hb2.cell (p := ⟨w.heap.size + 1, 4, none⟩) (by first | (simp; omega) | omega); have y0 := hb2.cell (p := ⟨b, f + k * 6, none⟩) (by first | (simp; omega) | omega); have y1 := hb2.cell (p := ⟨b, f + k * 6 + 1, none⟩) (by first | (simp; omega) | omega); have y2 := hb2.cell (p := ⟨b, f + k * 6 + 2, none⟩) (by first | (simp; omega) | omega); have y3 := hb2.cell (p := ⟨b, f + k * 6 + 3, none⟩) (by first | (simp; omega) | omega); have y4 := hb2.cell (p := ⟨b, f + k * 6 + 4, none⟩) (by first | (simp; omega) | omega); have y5 := hb2.cell (p := ⟨b, f + k * 6 + 5, none⟩) (by first | (simp; omega) | omega); have u0' := hb2.cell (p := ⟨b', f' + k * 6, none⟩) (by first | (simp; omega) | omega); have u1' := hb2.cell (p := ⟨b', f' + k * 6 + 1, none⟩) (by first | (simp; omega) | omega); have u2' := hb2.cell (p := ⟨b', f' + k * 6 + 2, none⟩) (by first | (simp; omega) | omega); have u3' := hb2.cell (p := ⟨b', f' + k * 6 + 3, none⟩) (by first | (simp; omega) | omega); have u4' := hb2.cell (p := ⟨b', f' + k * 6 + 4, none⟩) (by first | (simp; omega) | omega); have u5' := hb2.cell (p := ⟨b', f' + k * 6 + 5, none⟩) (by first | (simp; omega) | omega); have HBW : Hid (Below w.heap.size w w2) := Lib.hid (HU.out.trans (by first | exact hb2.mono HU.out.size | (refine Below.mono ?_ HU.out.size; exact hb2) | (refine Below.trans (Below.drew (Below.refl _ _)) (hb2.mono ?_); simpa using HU.out.size))); clear hb2))
          go_wp2
          go_roundw
          case rel => exact ⟨HBW.out, hs2, by simp [*], by simp [*], k + 1, by omega, by omega, by go_num, by rw [HS2.out, if_pos HZ.out]⟩
          case measure => simp [intOf]; omega
        · have hz1 : (cmpV x x' != 0) = true := by simpa [bne] using hz
          have HZ : Hid (¬ cmpV x x' = 0) := Lib.hid hz
          clear hz
          go_wp2
          go_region_held3 (fun w' => w'.cell? ⟨w.heap.size, 4, none⟩ = some (.slice (some ⟨b, f, none⟩) v.l.len m1) ∧ w'.cell? ⟨w.heap.size + 1, 4, none⟩ = some (.slice (some ⟨b', f', none⟩) v'.l.len m2) ∧ w'.cell? ⟨b, f + k * 6, none⟩ = some (.int .i64 x.k) ∧ w'.cell? ⟨b, f + k * 6 + 1, none⟩ = some (.bool x.b) ∧ w'.cell? ⟨b, f + k * 6 + 2, none⟩ = some (.int .i64 x.n) ∧ w'.cell? ⟨b, f + k * 6 + 3, none⟩ = some (.string x.t) ∧ w'.cell? ⟨b, f + k * 6 + 4, none⟩ = some (.slice q5 n5 c5) ∧ w'.cell? ⟨b, f + k * 6 + 5, none⟩ = some (.slice q6 n6 c6) ∧ w'.cell? ⟨b', f' + k * 6, none⟩ = some (.int .i64 x'.k) ∧ w'.cell? ⟨b', f' + k * 6 + 1, none⟩ = some (.bool x'.b) ∧ w'.cell? ⟨b', f' + k * 6 + 2, none⟩ = some (.int .i64 x'.n) ∧ w'.cell? ⟨b', f' + k * 6 + 3, none⟩ = some (.string x'.t) ∧ w'.cell? ⟨b', f' + k * 6 + 4, none⟩ = some (.slice q7 n7 c7) ∧ w'.cell? ⟨b', f' + k * 6 + 5, none⟩ = some (.slice q8 n8 c8)) (go_keep)
            (first | (go_at_call 37; refine ((unhid' HX) x' _ _ _ _ _ trivial HR.out.tsize HR'.out.tsize (RV.mono (by first | exact HU.out.drew | exact HU.out) HR.out) (RV.mono (by first | exact HU.out.drew | exact HU.out) HR'.out)).mono ?_; rintro e w2 ⟨rfl, hb2⟩; have hs2 : w.heap.size + 2 ≤ w2.heap.size := (by have := hb2.size; first | omega | (simp at this; omega)); have z0 := hb2.cell (p := ⟨w.heap.size, 4, none⟩) (by first | (simp; omega) | omega); have z1 := hb2.cell (p := ⟨w.heap.size + 1, 4, none⟩) (by first | (simp; omega) | omega); have y0 := hb2.cell (p := ⟨b, f + k * 6, none⟩) (by first | (simp; omega) | omega); have y1 := hb2.cell (p := ⟨b, f + k * 6 + 1, none⟩) (by first | (simp; omega) | omega); have y2 := hb2.cell (p := ⟨b, f + k * 6 + 2, none⟩) (by first | (simp; omega) | omega); have y3 := hb2.cell (p := ⟨b, f + k * 6 + 3, none⟩) (by first | (simp; omega) | omega); have y4 := hb2.cell (p := ⟨b, f + k * 6 + 4, none⟩) (by first | (simp; omega) | omega); have y5 := hb2.cell (p := ⟨b, f + k * 6 + 5, none⟩) (by first | (simp; omega) | omega); have u0' := hb2.cell (p := ⟨b', f' + k * 6, none⟩) (by first | (simp; omega) | omega); have u1' := hb2.cell (p := ⟨b', f' + k * 6 + 1, none⟩) (by first | (simp; omega) | omega); have u2' := hb2.cell (p := ⟨b', f' + k * 6 + 2, none⟩) (by first | (simp; omega) | omega); have u3' := hb2.cell (p := ⟨b', f' + k * 6 + 3, none⟩) (by first | (simp; omega) | omega); have u4' := hb2.cell (p := ⟨b', f' + k * 6 + 4, none⟩) (by first | (simp; omega) | omega); have u5' := hb2.cell (p := ⟨b', f' + k * 6 + 5, none⟩) (by first | (simp; omega) | omega); have HBW : Hid (Below w.heap.size w w2) := Lib.hid (HU.out.trans (by first | exact hb2.mono HU.out.size | (refine Below.mono ?_ HU.out.size; exact hb2) | (refine Below.trans (Below.drew (Below.refl _ _)) (hb2.mono ?_); simpa using HU.out.size))); clear hb2))
          go_wp2
          go_ret
          exact ⟨ret_int (by rw [HV.out, HS2.out, if_neg HZ.out]), HBW.out⟩
      · have HX : Hid (cmpVL v.l v'.l = cmpI v.l.len v'.l.len) := Lib.hid (by rw [HC.out, cmpVL_end hka hkb (by omega)])
        go_wp2_with (first | (go_at_call 72; (with_reducible refine (numbers_any _ _ _).mono ?_); rintro e w' ⟨rfl, rfl⟩))
        go_ret
        exact ⟨ret_int (by rw [HV.out, HX.out]), HU.out⟩
    · have HX : Hid (cmpVL v.l v'.l = cmpI v.l.len v'.l.len) := Lib.hid (by rw [HC.out, cmpVL_end hka hkb (by omega)])
      go_wp2_with (first | (go_at_call 72; (with_reducible refine (numbers_any _ _ _).mono ?_); rintro e w' ⟨rfl, rfl⟩))
      go_ret
      exact ⟨ret_int (by rw [HV.out, HX.out]), HU.out⟩
end Go.Proofs.YtbnlcffnmlgomaaGreatDoor
