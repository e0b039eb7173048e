/-
  value.member.
-/
import Derived.Test.YtbnlcffnmlgomaaGreatDoorSetWalks3
import Derived.Deep.RegionHeld3
import Derived.Deep.DeepCutAuto
set_option linter.unusedSectionVars false
set_option linter.unusedVariables false
set_option linter.unusedSimpArgs false
namespace Go.Proofs.YtbnlcffnmlgomaaGreatDoor
open Go.RowKit Go.Lib

theorem cell_new (w : World) (cs : Array Value) (t : TypeId) {i : Nat} {v : Value} (h : cs[i]? = some v) : (w.alloc (.cells cs t)).cell? ⟨w.heap.size, i, none⟩ = some v := by
  have h1 : (w.alloc (.cells cs t)).heap[w.heap.size]? = some (.cells cs t) := heap_alloc_new w _
  simp only [World.cell?, h1]
  exact h

def orI (x y : Int) : Int := if x = 0 then y else x
theorem or_def (x y : Int) (b : Nat) (w : World) (h0 : w.cell? ⟨b, 0, none⟩ = some (.int .i64 x)) (h1 : w.cell? ⟨b, 1, none⟩ = some (.int .i64 y)) :
    Calls Tryz.prog 235 #[.slice (some ⟨b, 0, none⟩) 2 2] w fun e w' => e = .returned (.int .i64 (orI x y)) ∧ w = w' := or_any x y b w h0 h1

theorem or_new (x y : Int) (w : World) : Calls Tryz.prog 235 #[.slice (some ⟨w.heap.size, 0, none⟩) 2 2] (w.alloc (.cells #[.int .i64 x, .int .i64 y] 3)) fun e w' => e = .returned (.int .i64 (orI x y)) ∧ w.alloc (.cells #[.int .i64 x, .int .i64 y] 3) = w' :=
  or_def x y w.heap.size _ (cell_new w #[.int .i64 x, .int .i64 y] 3 (i := 0) rfl) (cell_new w #[.int .i64 x, .int .i64 y] 3 (i := 1) rfl)

set_option maxRecDepth 100000 in
set_option maxHeartbeats 400000 in
theorem member_any (k : ByteArray) (v : V) (hE : CmpOk v) : CmpMOk k v := by
  intro k' v' w cl co cl' co' hr hr'
  obtain ⟨q1, n1, c1, q2, n2, c2, rfl, rfl⟩ := hr.slices
  obtain ⟨q3, n3, c3, q4, n4, c4, rfl, rfl⟩ := hr'.slices
  have HE := Lib.hid hE
  have HR := Lib.hid hr
  have HR' := Lib.hid hr'
  clear hr hr' hE
  go_enter Tryz.func181, Tryz.ntmps181
  go_wp2
  go_region_held3 (fun w' => w'.cell? ⟨w.heap.size, 0, none⟩ = some (.string k) ∧ w'.cell? ⟨w.heap.size, 1, none⟩ = some (.int .i64 v.k) ∧ w'.cell? ⟨w.heap.size, 2, none⟩ = some (.bool v.b) ∧ w'.cell? ⟨w.heap.size, 3, none⟩ = some (.int .i64 v.n) ∧ w'.cell? ⟨w.heap.size, 4, none⟩ = some (.string v.t) ∧ w'.cell? ⟨w.heap.size, 5, none⟩ = some (.slice q1 n1 c1) ∧ w'.cell? ⟨w.heap.size, 6, none⟩ = some (.slice q2 n2 c2) ∧ w'.cell? ⟨w.heap.size + 1, 0, none⟩ = some (.string k') ∧ w'.cell? ⟨w.heap.size + 1, 1, none⟩ = some (.int .i64 v'.k) ∧ w'.cell? ⟨w.heap.size + 1, 2, none⟩ = some (.bool v'.b) ∧ w'.cell? ⟨w.heap.size + 1, 3, none⟩ = some (.int .i64 v'.n) ∧ w'.cell? ⟨w.heap.size + 1, 4, none⟩ = some (.string v'.t) ∧ w'.cell? ⟨w.heap.size + 1, 5, none⟩ = some (.slice q3 n3 c3) ∧ w'.cell? ⟨w.heap.size + 1, 6, none⟩ = some (.slice q4 n4 c4)) (go_keep)
    (first | (go_at_call 178; refine (cmp9_any _ _ _).mono ?_; rintro e w' ⟨rfl, rfl⟩) | (go_at_call 121; refine (HE.out v' _ _ _ _ _ (RV.mono (by first | exact (((Below.refl _ _).alloc (Nat.le_refl _) _).alloc (by simp) _).drew | exact ((Below.refl _ _).alloc (Nat.le_refl _) _).alloc (by simp) _) HR.out) (RV.mono (by first | exact (((Below.refl _ _).alloc (Nat.le_refl _) _).alloc (by simp) _).drew | exact ((Below.refl _ _).alloc (Nat.le_refl _) _).alloc (by simp) _) HR'.out)).mono ?_; rintro e w2 ⟨rfl, hb2⟩; have z0 := hb2.cell (p := ⟨w.heap.size, 0, none⟩) (by simp; omega); have z1 := hb2.cell (p := ⟨w.heap.size, 1, none⟩) (by simp; omega); have z2 := hb2.cell (p := ⟨w.heap.size, 2, none⟩) (by simp; omega); have z3 := hb2.cell (p := ⟨w.heap.size, 3, none⟩) (by simp; omega); have z4 := hb2.cell (p := ⟨w.heap.size, 4, none⟩) (by simp; omega); have z5 := hb2.cell (p := ⟨w.heap.size, 5, none⟩) (by simp; omega); have z6 := hb2.cell (p := ⟨w.heap.size, 6, none⟩) (by simp; omega); have y0 := hb2.cell (p := ⟨w.heap.size + 1, 0, none⟩) (by simp); have y1 := hb2.cell (p := ⟨w.heap.size + 1, 1, none⟩) (by simp); have y2 := hb2.cell (p := ⟨w.heap.size + 1, 2, none⟩) (by simp); have y3 := hb2.cell (p := ⟨w.heap.size + 1, 3, none⟩) (by simp); have y4 := hb2.cell (p := ⟨w.heap.size + 1, 4, none⟩) (by simp); have y5 := hb2.cell (p := ⟨w.heap.size + 1, 5, none⟩) (by simp); have y6 := hb2.cell (p := ⟨w.heap.size + 1, 6, none⟩) (by simp); have HB2 := Lib.hid hb2; clear hb2) | (go_at_call 235; (with_reducible refine (or_new _ _ _).mono ?_); rintro e w3 ⟨rfl, rfl⟩))
  go_wp2
  go_ret
  refine ⟨rfl, ?_⟩
  have hb2 := HB2.out
  first
    | exact (((((Below.refl _ _).alloc (Nat.le_refl _) _).alloc (by simp) _).drew).trans (hb2.mono (by simp; omega))).alloc (by have := hb2.size; simp at this; omega) _
    | exact ((((Below.refl _ _).alloc (Nat.le_refl _) _).alloc (by simp) _).trans (hb2.mono (by simp; omega))).alloc (by have := hb2.size; simp at this; omega) _
end Go.Proofs.YtbnlcffnmlgomaaGreatDoor

/-
  value.Compare.
-/
namespace Go.Proofs.YtbnlcffnmlgomaaGreatDoor
open Go.RowKit Go.Lib

theorem hid' {p : Prop} (h : p) : Hid p := h
theorem unhid' {p : Prop} (h : Hid p) : p := h

theorem rows179 {l l' : VL} {w : World} {p p' : Option Addr} {c c' : Nat} (hE : ∀ i v, l.get? i = some v → CmpOk v) (hs : HeadV w l p) (hs' : HeadV w l' p') :
    Calls Tryz.prog 179 #[.slice p l.len c, .slice p' l'.len c', .func (.func 121) #[] #[]] w fun e w' => e = .returned (.int .i64 (cmpVL l l')) ∧ Below w.heap.size w w' := by
  have HC := hid' (rowsV_any l l' hE w p p' c c' hs hs')
  clear hE hs hs'
  go_enter Tryz.func179, Tryz.ntmps179
  go_wp2_with fail
  refine (unhid' HC).mono ?_
  rintro e w2 ⟨rfl, hb2⟩
  have HB2 := Lib.hid hb2
  clear hb2
  go_wp2
  go_ret
  exact ⟨rfl, HB2.out⟩
theorem rows180 {l l' : ML} {w : World} {p p' : Option Addr} {c c' : Nat} (hE : ∀ i (v : ByteArray × V), l.get? i = some v → CmpMOk v.1 v.2) (hs : HeadM w l p) (hs' : HeadM w l' p') :
    Calls Tryz.prog 180 #[.slice p l.len c, .slice p' l'.len c', .func (.func 181) #[] #[]] w fun e w' => e = .returned (.int .i64 (cmpML l l')) ∧ Below w.heap.size w w' := by
  have HC := hid' (rowsM_any l l' hE w p p' c c' hs hs')
  clear hE hs hs'
  go_enter Tryz.func180, Tryz.ntmps180
  go_wp2_with fail
  refine (unhid' HC).mono ?_
  rintro e w2 ⟨rfl, hb2⟩
  have HB2 := Lib.hid hb2
  clear hb2
  go_wp2
  go_ret
  exact ⟨rfl, HB2.out⟩

def CmpOk1 (C : V → V → Prop) (v : V) : Prop := ∀ (v' : V) (w : World) (cl co cl' co' : Value), C v v' → RV w v cl co → RV w v' cl' co' →
  Calls Tryz.prog 121 #[.agg #[.int .i64 v.k, .bool v.b, .int .i64 v.n, .string v.t, cl, co], .agg #[.int .i64 v'.k, .bool v'.b, .int .i64 v'.n, .string v'.t, cl', co']] w fun e w' => e = .returned (.int .i64 (cmpV v v')) ∧ Below w.heap.size w w'

theorem cmpV_kind {v v' : V} (h : ¬ v.k = v'.k) : cmpV v v' = cmpI v.k v'.k := by
  cases v with
  | mk k b n t l o => unfold cmpV; exact if_neg h
theorem cmpV_eq {v v' : V} (h : v.k = v'.k) : cmpV v v' = if v.k = 2 then truth v.b - truth v'.b else if v.k = 3 then cmpI v.n v'.n else if v.k = 4 then cmpB v.t v'.t else if v.k = 5 then cmpVL v.l v'.l else if v.k = 6 then cmpML v.o v'.o else 0 := by
  cases v with
  | mk k b n t l o => unfold cmpV; exact if_pos h

set_option maxRecDepth 100000 in
set_option maxHeartbeats 1000000 in
theorem compare_kind (v : V) : CmpOk1 (fun v v' => ¬ v.k = v'.k) v := by
  intro v' w cl co cl' co' hk hr hr'
  obtain ⟨q1, n1, c1, q2, n2, c2, rfl, rfl⟩ := hr.slices
  obtain ⟨q3, n3, c3, q4, n4, c4, rfl, rfl⟩ := hr'.slices
  have HV := Lib.hid (cmpV_kind hk)
  have hz : ¬ cmpI v.k v'.k = 0 := by unfold cmpI; split <;> (try split) <;> omega
  have hz2 : (cmpI v.k v'.k != 0) = true := by simpa [bne] using hz
  clear hr hr' hk hz
  go_enter Tryz.func121, Tryz.ntmps121
  go_wp2_with (first | (go_at_call 175; (with_reducible refine (cmp44_any _ _ _).mono ?_); rintro e w' ⟨rfl, rfl⟩))
  go_ret
  exact ⟨ret_int HV.out.symm, ((Below.refl _ _).alloc (Nat.le_refl _) _).alloc (by simp) _⟩

set_option maxRecDepth 100000 in
set_option maxHeartbeats 1000000 in
theorem compare_3 (v : V) : CmpOk1 (fun v v' => v.k = v'.k ∧ v.k = 3) v := by
  intro v' w cl co cl' co' hk hr hr'
  obtain ⟨q1, n1, c1, q2, n2, c2, rfl, rfl⟩ := hr.slices
  obtain ⟨q3, n3, c3, q4, n4, c4, rfl, rfl⟩ := hr'.slices
  have HV : Hid (cmpV v v' = cmpI v.n v'.n) := Lib.hid (by rw [cmpV_eq hk.1]; have := hk.2; rw [if_neg (by omega)]; rw [if_pos (by omega)])
  have hz : cmpI v.k v'.k = 0 := by rw [hk.1]; exact cmpI_eq (Int.le_refl _) (Int.le_refl _)
  have hz2 : (cmpI v.k v'.k != 0) = false := by rw [hz]; rfl
  have HK := Lib.hid hk
  have e2 : (v.k == 2) = false := by rw [hk.2]; rfl
  have e3 : (v.k == 3) = true := by rw [hk.2]; rfl
  clear hr hr' hk hz
  go_enter Tryz.func121, Tryz.ntmps121
  go_wp2_with (first | (go_at_call 175; (with_reducible refine (cmp44_any _ _ _).mono ?_); rintro e w' ⟨rfl, rfl⟩) | (go_at_call 177; (with_reducible refine (cmp2_any _ _ _).mono ?_); rintro e w' ⟨rfl, rfl⟩))
  go_ret
  exact ⟨ret_int HV.out.symm, ((Below.refl _ _).alloc (Nat.le_refl _) _).alloc (by simp) _⟩

set_option maxRecDepth 100000 in
set_option maxHeartbeats 1000000 in
theorem compare_4 (v : V) : CmpOk1 (fun v v' => v.k = v'.k ∧ v.k = 4) v := by
  intro v' w cl co cl' co' hk hr hr'
  obtain ⟨q1, n1, c1, q2, n2, c2, rfl, rfl⟩ := hr.slices
  obtain ⟨q3, n3, c3, q4, n4, c4, rfl, rfl⟩ := hr'.slices
  have HV : Hid (cmpV v v' = cmpB v.t v'.t) := Lib.hid (by rw [cmpV_eq hk.1]; have := hk.2; rw [if_neg (by omega)]; rw [if_neg (by omega)]; rw [if_pos (by omega)])
  have hz : cmpI v.k v'.k = 0 := by rw [hk.1]; exact cmpI_eq (Int.le_refl _) (Int.le_refl _)
  have hz2 : (cmpI v.k v'.k != 0) = false := by rw [hz]; rfl
  have HK := Lib.hid hk
  have e2 : (v.k == 2) = false := by rw [hk.2]; rfl
  have e3 : (v.k == 3) = false := by rw [hk.2]; rfl
  have e4 : (v.k == 4) = true := by rw [hk.2]; rfl
  clear hr hr' hk hz
  go_enter Tryz.func121, Tryz.ntmps121
  go_wp2_with (first | (go_at_call 175; (with_reducible refine (cmp44_any _ _ _).mono ?_); rintro e w' ⟨rfl, rfl⟩) | (go_at_call 178; (with_reducible refine (cmp9_any _ _ _).mono ?_); rintro e w' ⟨rfl, rfl⟩))
  go_ret
  exact ⟨ret_int HV.out.symm, ((Below.refl _ _).alloc (Nat.le_refl _) _).alloc (by simp) _⟩
end Go.Proofs.YtbnlcffnmlgomaaGreatDoor

/-
  value.Compare, its last kinds.
-/
namespace Go.Proofs.YtbnlcffnmlgomaaGreatDoor
open Go.RowKit Go.Lib

theorem RV.headL {w : World} {v : V} {cl co : Value} (h : RV w v cl co) : ∃ p c, cl = .slice p v.l.len c ∧ HeadV w v.l p := by
  cases v with
  | mk k b n t l o =>
    unfold RV at h
    exact headV_of h.2.1
theorem RV.headO {w : World} {v : V} {cl co : Value} (h : RV w v cl co) : ∃ p c, co = .slice p v.o.len c ∧ HeadM w v.o p := by
  cases v with
  | mk k b n t l o =>
    unfold RV at h
    exact headM_of h.2.2
theorem HeadV.mono {w w' : World} (hb : Below w.heap.size w w') {l : VL} {p : Option Addr} (h : HeadV w l p) : HeadV w' l p :=
  ⟨h.1, fun k v hk => let ⟨b, f, e, h1, cl, co, h2, h3⟩ := h.2 k v hk; ⟨b, f, e, Nat.lt_of_lt_of_le h1 hb.size, cl, co, h2.mono hb h1, h3.mono hb⟩⟩
theorem HeadM.mono {w w' : World} (hb : Below w.heap.size w w') {l : ML} {p : Option Addr} (h : HeadM w l p) : HeadM w' l p :=
  ⟨h.1, fun k v hk => let ⟨b, f, e, h1, h0, hc, cl, co, h2, h3⟩ := h.2 k v hk; ⟨b, f, e, Nat.lt_of_lt_of_le h1 hb.size, h0, (hb.cell (p := ⟨b, f + k * 7, none⟩) h1).trans hc, cl, co, h2.mono hb h1, h3.mono hb⟩⟩

set_option maxRecDepth 100000 in
set_option maxHeartbeats 1000000 in
theorem compare_0 (v : V) : CmpOk1 (fun v v' => v.k = v'.k ∧ (¬ v.k = 2 ∧ ¬ v.k = 3 ∧ ¬ v.k = 4 ∧ ¬ v.k = 5 ∧ ¬ v.k = 6)) v := by
  intro v' w cl co cl' co' hk hr hr'
  obtain ⟨q1, n1, c1, q2, n2, c2, rfl, rfl⟩ := hr.slices
  obtain ⟨q3, n3, c3, q4, n4, c4, rfl, rfl⟩ := hr'.slices
  have HV : Hid (cmpV v v' = 0) := Lib.hid (by rw [cmpV_eq hk.1]; obtain ⟨_, h2, h3, h4, h5, h6⟩ := hk; rw [if_neg h2, if_neg h3, if_neg h4, if_neg h5, if_neg h6])
  have hz : cmpI v.k v'.k = 0 := by rw [hk.1]; exact cmpI_eq (Int.le_refl _) (Int.le_refl _)
  have hz2 : (cmpI v.k v'.k != 0) = false := by rw [hz]; rfl
  have e2 : (v.k == 2) = false := by have := hk.2; simp; omega
  have e3 : (v.k == 3) = false := by have := hk.2; simp; omega
  have e4 : (v.k == 4) = false := by have := hk.2; simp; omega
  have e5 : (v.k == 5) = false := by have := hk.2; simp; omega
  have e6 : (v.k == 6) = false := by have := hk.2; simp; omega
  clear hr hr' hk hz
  go_enter Tryz.func121, Tryz.ntmps121
  go_wp2_with (first | (go_at_call 175; (with_reducible refine (cmp44_any _ _ _).mono ?_); rintro e w' ⟨rfl, rfl⟩))
  go_ret
  exact ⟨ret_int HV.out.symm, ((Below.refl _ _).alloc (Nat.le_refl _) _).alloc (by simp) _⟩

set_option maxRecDepth 100000 in
set_option maxHeartbeats 1000000 in
theorem compare_5 (v : V) (hE : ∀ i u, v.l.get? i = some u → CmpOk u) : CmpOk1 (fun v v' => v.k = v'.k ∧ v.k = 5) v := by
  intro v' w cl co cl' co' hk hr hr'
  obtain ⟨p1, c1, rfl, hd⟩ := hr.headL
  obtain ⟨p2, c2, rfl, hd'⟩ := hr'.headL
  obtain ⟨q1, n1, m1, q2, n2, m2, -, rfl⟩ := hr.slices
  obtain ⟨q3, n3, m3, q4, n4, m4, -, rfl⟩ := hr'.slices
  have HV : Hid (cmpV v v' = cmpVL v.l v'.l) := Lib.hid (by rw [cmpV_eq hk.1]; have := hk.2; rw [if_neg (by omega)]; rw [if_neg (by omega)]; rw [if_neg (by omega)]; rw [if_pos (by omega)])
  have hz : cmpI v.k v'.k = 0 := by rw [hk.1]; exact cmpI_eq (Int.le_refl _) (Int.le_refl _)
  have hz2 : (cmpI v.k v'.k != 0) = false := by rw [hz]; rfl
  have e2 : (v.k == 2) = false := by rw [hk.2]; rfl
  have e3 : (v.k == 3) = false := by rw [hk.2]; rfl
  have e4 : (v.k == 4) = false := by rw [hk.2]; rfl
  have e5 : (v.k == 5) = true := by rw [hk.2]; rfl
  have HE := hid' hE
  have HD := Lib.hid hd
  have HD' := Lib.hid hd'
  clear hr hr' hk hz hE hd hd'
  go_enter Tryz.func121, Tryz.ntmps121
  go_wp2_with (first | (go_at_call 175; (with_reducible refine (cmp44_any _ _ _).mono ?_); rintro e w' ⟨rfl, rfl⟩))
  refine (rows179 (unhid' HE) (HeadV.mono (((Below.refl _ _).alloc (Nat.le_refl _) _).alloc (by simp) _) HD.out) (HeadV.mono (((Below.refl _ _).alloc (Nat.le_refl _) _).alloc (by simp) _) HD'.out)).mono ?_
  rintro e w2 ⟨rfl, hb2⟩
  have HB2 := Lib.hid hb2
  clear hb2
  go_wp2
  go_ret
  exact ⟨ret_int HV.out.symm, (((Below.refl _ _).alloc (Nat.le_refl _) _).alloc (by simp) _).trans (HB2.out.mono (by simp; omega))⟩

set_option maxRecDepth 100000 in
set_option maxHeartbeats 1000000 in
theorem compare_6 (v : V) (hE : ∀ i (u : ByteArray × V), v.o.get? i = some u → CmpMOk u.1 u.2) : CmpOk1 (fun v v' => v.k = v'.k ∧ v.k = 6) v := by
  intro v' w cl co cl' co' hk hr hr'
  obtain ⟨p1, c1, rfl, hd⟩ := hr.headO
  obtain ⟨p2, c2, rfl, hd'⟩ := hr'.headO
  obtain ⟨q1, n1, m1, q2, n2, m2, rfl, -⟩ := hr.slices
  obtain ⟨q3, n3, m3, q4, n4, m4, rfl, -⟩ := hr'.slices
  have HV : Hid (cmpV v v' = cmpML v.o v'.o) := Lib.hid (by rw [cmpV_eq hk.1]; have := hk.2; rw [if_neg (by omega)]; rw [if_neg (by omega)]; rw [if_neg (by omega)]; rw [if_neg (by omega)]; rw [if_pos (by omega)])
  have hz : cmpI v.k v'.k = 0 := by rw [hk.1]; exact cmpI_eq (Int.le_refl _) (Int.le_refl _)
  have hz2 : (cmpI v.k v'.k != 0) = false := by rw [hz]; rfl
  have e2 : (v.k == 2) = false := by rw [hk.2]; rfl
  have e3 : (v.k == 3) = false := by rw [hk.2]; rfl
  have e4 : (v.k == 4) = false := by rw [hk.2]; rfl
  have e5 : (v.k == 5) = false := by rw [hk.2]; rfl
  have e6 : (v.k == 6) = true := by rw [hk.2]; rfl
  have HE := hid' hE
  have HD := Lib.hid hd
  have HD' := Lib.hid hd'
  clear hr hr' hk hz hE hd hd'
  go_enter Tryz.func121, Tryz.ntmps121
  go_wp2_with (first | (go_at_call 175; (with_reducible refine (cmp44_any _ _ _).mono ?_); rintro e w' ⟨rfl, rfl⟩))
  refine (rows180 (unhid' HE) (HeadM.mono (((Below.refl _ _).alloc (Nat.le_refl _) _).alloc (by simp) _) HD.out) (HeadM.mono (((Below.refl _ _).alloc (Nat.le_refl _) _).alloc (by simp) _) HD'.out)).mono ?_
  rintro e w2 ⟨rfl, hb2⟩
  have HB2 := Lib.hid hb2
  clear hb2
  go_wp2
  go_ret
  exact ⟨ret_int HV.out.symm, (((Below.refl _ _).alloc (Nat.le_refl _) _).alloc (by simp) _).trans (HB2.out.mono (by simp; omega))⟩

theorem truth_v (v : V) (cl co : Value) (w : World) : Calls Tryz.prog 176 #[.agg #[.int .i64 v.k, .bool v.b, .int .i64 v.n, .string v.t, cl, co]] w fun e w' => e = .returned (.int .i64 (truth v.b)) ∧ Below w.heap.size w w' := truth_any v cl co w
theorem truth_bd (b : Bool) : 0 ≤ truth b ∧ truth b ≤ 1 := by unfold truth; cases b <;> decide

set_option maxRecDepth 100000 in
set_option maxHeartbeats 1000000 in
theorem compare_2 (v : V) : CmpOk1 (fun v v' => v.k = v'.k ∧ v.k = 2) v := by
  intro v' w cl co cl' co' hk hr hr'
  obtain ⟨q1, n1, c1, q2, n2, c2, rfl, rfl⟩ := hr.slices
  obtain ⟨q3, n3, c3, q4, n4, c4, rfl, rfl⟩ := hr'.slices
  have HV : Hid (cmpV v v' = truth v.b - truth v'.b) := Lib.hid (by rw [cmpV_eq hk.1, if_pos hk.2])
  have hz : cmpI v.k v'.k = 0 := by rw [hk.1]; exact cmpI_eq (Int.le_refl _) (Int.le_refl _)
  have hz2 : (cmpI v.k v'.k != 0) = false := by rw [hz]; rfl
  have e2 : (v.k == 2) = true := by rw [hk.2]; rfl
  have hb1 := truth_bd v.b
  have hb1' := truth_bd v'.b
  clear hr hr' hk hz
  go_enter Tryz.func121, Tryz.ntmps121
  go_wp2_with (first | (go_at_call 175; (with_reducible refine (cmp44_any _ _ _).mono ?_); rintro e w' ⟨rfl, rfl⟩))
  go_region_held3 (fun w' => w.heap.size + 2 ≤ w'.heap.size ∧ w'.cell? ⟨w.heap.size, 0, none⟩ = some (.int .i64 v.k) ∧ w'.cell? ⟨w.heap.size, 1, none⟩ = some (.bool v.b) ∧ w'.cell? ⟨w.heap.size, 2, none⟩ = some (.int .i64 v.n) ∧ w'.cell? ⟨w.heap.size, 3, none⟩ = some (.string v.t) ∧ w'.cell? ⟨w.heap.size, 4, none⟩ = some (.slice q1 n1 c1) ∧ w'.cell? ⟨w.heap.size, 5, none⟩ = some (.slice q2 n2 c2) ∧ w'.cell? ⟨w.heap.size + 1, 0, none⟩ = some (.int .i64 v'.k) ∧ w'.cell? ⟨w.heap.size + 1, 1, none⟩ = some (.bool v'.b) ∧ w'.cell? ⟨w.heap.size + 1, 2, none⟩ = some (.int .i64 v'.n) ∧ w'.cell? ⟨w.heap.size + 1, 3, none⟩ = some (.string v'.t) ∧ w'.cell? ⟨w.heap.size + 1, 4, none⟩ = some (.slice q3 n3 c3) ∧ w'.cell? ⟨w.heap.size + 1, 5, none⟩ = some (.slice q4 n4 c4)) (go_keep)
    (first | (go_at_call 176; (with_reducible refine (truth_v _ _ _ _).mono ?_); rintro e w2 ⟨rfl, hb2⟩; have hs2 : w.heap.size + 2 ≤ w2.heap.size := (by have := hb2.size; first | omega | (simp at this; omega)); have z0 := hb2.cell (p := ⟨w.heap.size, 0, none⟩) (by first | (simp; omega) | omega); have z1 := hb2.cell (p := ⟨w.heap.size, 1, none⟩) (by first | (simp; omega) | omega); have z2 := hb2.cell (p := ⟨w.heap.size, 2, none⟩) (by first | (simp; omega) | omega); have z3 := hb2.cell (p := ⟨w.heap.size, 3, none⟩) (by first | (simp; omega) | omega); have z4 := hb2.cell (p := ⟨w.heap.size, 4, none⟩) (by first | (simp; omega) | omega); have z5 := hb2.cell (p := ⟨w.heap.size, 5, none⟩) (by first | (simp; omega) | omega); have y0 := hb2.cell (p := ⟨w.heap.size + 1, 0, none⟩) (by first | (simp; omega) | simp | omega); have y1 := hb2.cell (p := ⟨w.heap.size + 1, 1, none⟩) (by first | (simp; omega) | simp | omega); have y2 := hb2.cell (p := ⟨w.heap.size + 1, 2, none⟩) (by first | (simp; omega) | simp | omega); have y3 := hb2.cell (p := ⟨w.heap.size + 1, 3, none⟩) (by first | (simp; omega) | simp | omega); have y4 := hb2.cell (p := ⟨w.heap.size + 1, 4, none⟩) (by first | (simp; omega) | simp | omega); have y5 := hb2.cell (p := ⟨w.heap.size + 1, 5, none⟩) (by first | (simp; omega) | simp | omega); have HBW : Hid (Below w.heap.size w w2) := Lib.hid (by first | exact HBW.out.trans (hb2.mono (by omega)) | exact ((((Below.refl _ _).alloc (Nat.le_refl _) _).alloc (by simp) _).drew).trans (hb2.mono (by simp; omega)) | exact (((Below.refl _ _).alloc (Nat.le_refl _) _).alloc (by simp) _).trans (hb2.mono (by simp; omega))); clear hb2))
  all_goals go_wp2
  all_goals go_ret
  all_goals exact ⟨ret_int (by rw [HV.out]; first | rfl | exact IntWalk.i64_in _ (by omega)), HBW.out⟩

/-- value.Compare, whatever the values -/
theorem compare_any : ∀ (d : Nat) (v : V), v.deep ≤ d → CmpOk v := by
  intro d
  induction d with
  | zero => intro v h; cases v; simp only [V.deep] at h; omega
  | succ d ih =>
    intro v h v' w cl co cl' co' hr hr'
    have hl : ∀ i u, v.l.get? i = some u → CmpOk u := fun i u hu => ih u (by
      have := VL.deep_get hu
      cases v; simp only [V.deep, V.l] at h this; omega)
    have ho : ∀ i (u : ByteArray × V), v.o.get? i = some u → CmpMOk u.1 u.2 := fun i u hu => member_any u.1 u.2 (ih u.2 (by
      have := ML.deep_get hu
      cases v; simp only [V.deep, V.o] at h this; omega))
    by_cases hk : v.k = v'.k
    · by_cases h2 : v.k = 2
      · exact compare_2 v v' w cl co cl' co' ⟨hk, h2⟩ hr hr'
      by_cases h3 : v.k = 3
      · exact compare_3 v v' w cl co cl' co' ⟨hk, h3⟩ hr hr'
      by_cases h4 : v.k = 4
      · exact compare_4 v v' w cl co cl' co' ⟨hk, h4⟩ hr hr'
      by_cases h5 : v.k = 5
      · exact compare_5 v hl v' w cl co cl' co' ⟨hk, h5⟩ hr hr'
      by_cases h6 : v.k = 6
      · exact compare_6 v ho v' w cl co cl' co' ⟨hk, h6⟩ hr hr'
      exact compare_0 v v' w cl co cl' co' ⟨hk, h2, h3, h4, h5, h6⟩ hr hr'
    · exact compare_kind v v' w cl co cl' co' hk hr hr'
theorem compare_all (v : V) : CmpOk v := compare_any _ v (Nat.le_refl _)
end Go.Proofs.YtbnlcffnmlgomaaGreatDoor
