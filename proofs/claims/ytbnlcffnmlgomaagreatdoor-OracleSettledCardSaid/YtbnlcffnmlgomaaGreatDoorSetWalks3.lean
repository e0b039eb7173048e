/-
  slices.CompareFunc over values.
-/
import Derived.Test.YtbnlcffnmlgomaaGreatDoorSetWalks2
set_option linter.unusedSectionVars false
set_option linter.unusedVariables false
set_option linter.unusedSimpArgs false
namespace Go.Proofs.YtbnlcffnmlgomaaGreatDoor
open Go.RowKit Go.Lib

/-- a slice of values, as it is handed in -/
def HeadV (w : World) (l : VL) (p : Option Addr) : Prop :=
  l.len ≤ maxLen ∧ ∀ (k : Nat) (v : V), l.get? k = some v → ∃ b f, p = some ⟨b, f, none⟩ ∧ b < w.heap.size ∧ ∃ cl co, ValAt w b (f + k * 6) v cl co ∧ RV w v cl co
theorem headV_of {w : World} {l : VL} {sl : Value} (h : (l = .nil ∧ ∃ p c, sl = .slice p 0 c) ∨ ∃ b f c, sl = .slice (some ⟨b, f, none⟩) l.len c ∧ l.len ≤ c ∧ c ≤ maxLen ∧ b < w.heap.size ∧ RowV w l b f) :
    ∃ p c, sl = .slice p l.len c ∧ HeadV w l p := by
  rcases h with ⟨rfl, p, c, rfl⟩ | ⟨b, f, c, rfl, h1, h2, h3, h4⟩
  · exact ⟨p, c, rfl, Nat.zero_le _, fun k v h => by cases k <;> cases h⟩
  · refine ⟨_, c, rfl, by omega, fun k v hk => ?_⟩
    obtain ⟨cl, co, k1, k2⟩ := h4.at hk
    exact ⟨b, f, rfl, h3, cl, co, by rw [Nat.mul_comm]; exact k1, k2⟩

theorem RV.slices {w : World} {v : V} {cl co : Value} (h : RV w v cl co) : ∃ q n c q' n' c', cl = .slice q n c ∧ co = .slice q' n' c' := by
  cases v with
  | mk k b n t l o =>
    unfold RV at h
    obtain ⟨_, h1, h2⟩ := h
    rcases h1 with ⟨_, _, _, rfl⟩ | ⟨_, _, _, rfl, _⟩ <;> rcases h2 with ⟨_, _, _, rfl⟩ | ⟨_, _, _, rfl, _⟩ <;> exact ⟨_, _, _, _, _, _, rfl, rfl⟩

def CmpOk (v : V) : Prop := ∀ (v' : V) (w : World) (cl co cl' co' : Value), RV w v cl co → RV w v' cl' co' →
  Calls Tryz.prog 121 #[.agg #[.int .i64 v.k, .bool v.b, .int .i64 v.n, .string v.t, cl, co], .agg #[.int .i64 v'.k, .bool v'.b, .int .i64 v'.n, .string v'.t, cl', co']] w fun e w' => e = .returned (.int .i64 (cmpV v v')) ∧ Below w.heap.size w w'

set_option maxRecDepth 100000 in
set_option maxHeartbeats 1000000 in
theorem rowsV_any (l l' : VL) (hE : ∀ i v, l.get? i = some v → CmpOk v) (w : World) (p p' : Option Addr) (c c' : Nat) (hs : HeadV w l p) (hs' : HeadV w l' p') :
    Calls Tryz.prog 233 #[.slice p l.len c, .slice p' l'.len c', .func (.func 121) #[] #[]] w fun e w' => e = .returned (.int .i64 (cmpVL l l')) ∧ Below w.heap.size w w' := by
  have m1 := hs.1
  have m2 := hs'.1
  unfold maxLen at m1 m2
  have HS := Lib.hid hs
  have HS' := Lib.hid hs'
  have HE := Lib.hid hE
  clear hs hs' hE
  go_enter Tryz.func233, Tryz.ntmps233
  go_wp2
  go_loopw [13] (fun i u => Below w.heap.size w u ∧ ∃ k : Nat, k ≤ l.len ∧ k ≤ l'.len ∧ i = .int .i64 k ∧ cmpVL l l' = cmpVL (l.drop k) (l'.drop k)) (fun i _ => l.len - (intOf i).toNat)
  case atStart => exact ⟨Below.refl _ _, 0, Nat.zero_le _, Nat.zero_le _, rfl, by rw [VL.drop_zero, VL.drop_zero]⟩
  case round =>
    obtain ⟨hu, k, hka, hkb, rfl, hc⟩ := hrel
    have HC : Hid (cmpVL l l' = cmpVL (l.drop k) (l'.drop k)) := Lib.hid hc
    have HU := Lib.hid hu
    clear hc hu
    by_cases h1 : k < l.len
    · obtain ⟨v, hv⟩ := VL.get_some h1
      obtain ⟨b, f, rfl, hlt, cl, co, hat, hrv⟩ := HS.out.2 k v hv
      obtain ⟨q1, n1, c1, q2, n2, c2, rfl, rfl⟩ := hrv.slices
      obtain ⟨a0, a1, a2, a3, a4, a5⟩ := hat.mono HU.out hlt
      have HV := Lib.hid hv
      have HR := Lib.hid hrv
      clear hv hrv hat
      by_cases h2 : k < l'.len
      · obtain ⟨v', hv'⟩ := VL.get_some h2
        obtain ⟨b', f', rfl, hlt', cl', co', hat', hrv'⟩ := HS'.out.2 k v' hv'
        obtain ⟨q3, n3, c3, q4, n4, c4, rfl, rfl⟩ := hrv'.slices
        obtain ⟨b0, b1, b2, b3, b4, b5⟩ := hat'.mono HU.out hlt'
        have HV' := Lib.hid hv'
        have HR' := Lib.hid hrv'
        clear hv' hrv' hat'
        have g1 := Nat.lt_of_lt_of_le hlt' HU.out.size
        have HS2 : Hid (cmpVL l l' = if cmpV v v' = 0 then cmpVL (l.drop (k + 1)) (l'.drop (k + 1)) else cmpV v v') := Lib.hid (HC.out.trans (cmpVL_step HV.out HV'.out))
        by_cases hz : cmpV v v' = 0
        · have hz2 : (cmpV v v' != 0) = false := by simpa [bne] using hz
          have HZ := Lib.hid hz
          clear hz
          go_wp2_with fail
          refine ((HE.out k v HV.out) v' _ _ _ _ _ ?_ ?_).mono ?_
          · exact HR.out.mono ((HU.out.alloc HU.out.size _).alloc (by have := HU.out.size; simp; omega) _)
          · exact HR'.out.mono ((HU.out.alloc HU.out.size _).alloc (by have := HU.out.size; simp; omega) _)
          rintro e w2 ⟨rfl, hb2⟩
          have HB : Hid (Below w.heap.size w w2) := Lib.hid (((HU.out.alloc HU.out.size _).alloc (by have := HU.out.size; simp; omega) _).trans (hb2.mono (by have := HU.out.size; simp; omega)))
          clear hb2
          go_wp2
          go_roundw
          case rel => exact ⟨HB.out, k + 1, by omega, by omega, by go_num, by rw [HS2.out, if_pos HZ.out]⟩
          case measure => simp [intOf]; omega
        · have hz2 : (cmpV v v' != 0) = true := by simpa [bne] using hz
          have HZ : Hid (¬ cmpV v v' = 0) := Lib.hid hz
          clear hz
          go_wp2_with fail
          refine ((HE.out k v HV.out) v' _ _ _ _ _ ?_ ?_).mono ?_
          · exact HR.out.mono ((HU.out.alloc HU.out.size _).alloc (by have := HU.out.size; simp; omega) _)
          · exact HR'.out.mono ((HU.out.alloc HU.out.size _).alloc (by have := HU.out.size; simp; omega) _)
          rintro e w2 ⟨rfl, hb2⟩
          have HB : Hid (Below w.heap.size w w2) := Lib.hid (((HU.out.alloc HU.out.size _).alloc (by have := HU.out.size; simp; omega) _).trans (hb2.mono (by have := HU.out.size; simp; omega)))
          clear hb2
          go_wp2
          go_ret
          exact ⟨ret_int (by rw [HS2.out, if_neg HZ.out]), HB.out⟩
      · have HX : Hid (cmpVL l l' = 1) := Lib.hid (by rw [HC.out, cmpVL_end hka hkb (by omega), cmpI_gt (by omega)])
        go_wp2
        go_ret
        exact ⟨ret_int HX.out.symm, HU.out.alloc HU.out.size _⟩
    · have HX : Hid (cmpVL l l' = cmpI l.len l'.len) := Lib.hid (by rw [HC.out, cmpVL_end hka hkb (by omega)])
      by_cases h2 : l.len < l'.len
      · have HY : Hid (cmpI l.len l'.len = -1) := Lib.hid (cmpI_lt (by omega))
        go_wp2
        go_ret
        exact ⟨ret_int (by rw [HX.out, HY.out]), HU.out⟩
      · have HY : Hid (cmpI l.len l'.len = 0) := Lib.hid (cmpI_eq (by omega) (by omega))
        go_wp2
        go_ret
        exact ⟨ret_int (by rw [HX.out, HY.out]), HU.out⟩
end Go.Proofs.YtbnlcffnmlgomaaGreatDoor

/-
  slices.CompareFunc over members.
-/
namespace Go.Proofs.YtbnlcffnmlgomaaGreatDoor
open Go.RowKit Go.Lib

/-- a slice of members, as it is handed in -/
def HeadM (w : World) (l : ML) (p : Option Addr) : Prop :=
  l.len ≤ maxLen ∧ ∀ (k : Nat) (v : ByteArray × V), l.get? k = some v → ∃ b f, p = some ⟨b, f, none⟩ ∧ b < w.heap.size ∧ v.1.size ≤ maxLen ∧ w.cell? ⟨b, f + k * 7, none⟩ = some (.string v.1) ∧ ∃ cl co, ValAt w b (f + k * 7 + 1) v.2 cl co ∧ RV w v.2 cl co
theorem headM_of {w : World} {l : ML} {sl : Value} (h : (l = .nil ∧ ∃ p c, sl = .slice p 0 c) ∨ ∃ b f c, sl = .slice (some ⟨b, f, none⟩) l.len c ∧ l.len ≤ c ∧ c ≤ maxLen ∧ b < w.heap.size ∧ RowM w l b f) :
    ∃ p c, sl = .slice p l.len c ∧ HeadM w l p := by
  rcases h with ⟨rfl, p, c, rfl⟩ | ⟨b, f, c, rfl, h1, h2, h3, h4⟩
  · exact ⟨p, c, rfl, Nat.zero_le _, fun k v h => by cases k <;> cases h⟩
  · refine ⟨_, c, rfl, by omega, fun k v hk => ?_⟩
    obtain ⟨k0, k1, cl, co, k2, k3⟩ := h4.at hk
    exact ⟨b, f, rfl, h3, k0, by rw [Nat.mul_comm]; exact k1, cl, co, by rw [Nat.mul_comm]; exact k2, k3⟩

def cmpKV (p p' : ByteArray × V) : Int := if cmpB p.1 p'.1 = 0 then cmpV p.2 p'.2 else cmpB p.1 p'.1
theorem cmpML_step2 {l l' : ML} {i : Nat} {p p' : ByteArray × V} (h : l.get? i = some p) (h' : l'.get? i = some p') :
    cmpML (l.drop i) (l'.drop i) = if cmpKV p p' = 0 then cmpML (l.drop (i + 1)) (l'.drop (i + 1)) else cmpKV p p' := by
  rw [cmpML_step h h']
  unfold cmpKV
  by_cases h1 : cmpB p.1 p'.1 = 0
  · rw [if_pos h1, if_pos h1]
  · rw [if_neg h1, if_neg h1, if_neg h1]

def CmpMOk (k : ByteArray) (v : V) : Prop := ∀ (k' : ByteArray) (v' : V) (w : World) (cl co cl' co' : Value), RV w v cl co → RV w v' cl' co' →
  Calls Tryz.prog 181 #[.agg #[.string k, .int .i64 v.k, .bool v.b, .int .i64 v.n, .string v.t, cl, co], .agg #[.string k', .int .i64 v'.k, .bool v'.b, .int .i64 v'.n, .string v'.t, cl', co']] w fun e w' => e = .returned (.int .i64 (cmpKV (k, v) (k', v'))) ∧ Below w.heap.size w w'

set_option maxRecDepth 100000 in
set_option maxHeartbeats 1000000 in
theorem rowsM_any (l l' : ML) (hE : ∀ i (v : ByteArray × V), l.get? i = some v → CmpMOk v.1 v.2) (w : World) (p p' : Option Addr) (c c' : Nat) (hs : HeadM w l p) (hs' : HeadM w l' p') :
    Calls Tryz.prog 234 #[.slice p l.len c, .slice p' l'.len c', .func (.func 181) #[] #[]] w fun e w' => e = .returned (.int .i64 (cmpML l l')) ∧ Below w.heap.size w w' := by
  have m1 := hs.1
  have m2 := hs'.1
  unfold maxLen at m1 m2
  have HS := Lib.hid hs
  have HS' := Lib.hid hs'
  have HE := Lib.hid hE
  clear hs hs' hE
  go_enter Tryz.func234, Tryz.ntmps234
  go_wp2
  go_loopw [13] (fun i u => Below w.heap.size w u ∧ ∃ k : Nat, k ≤ l.len ∧ k ≤ l'.len ∧ i = .int .i64 k ∧ cmpML l l' = cmpML (l.drop k) (l'.drop k)) (fun i _ => l.len - (intOf i).toNat)
  case atStart => exact ⟨Below.refl _ _, 0, Nat.zero_le _, Nat.zero_le _, rfl, by rw [ML.drop_zero, ML.drop_zero]⟩
  case round =>
    obtain ⟨hu, k, hka, hkb, rfl, hc⟩ := hrel
    have HC : Hid (cmpML l l' = cmpML (l.drop k) (l'.drop k)) := Lib.hid hc
    have HU := Lib.hid hu
    clear hc hu
    by_cases h1 : k < l.len
    · obtain ⟨⟨ky, v⟩, hv⟩ := ML.get_some h1
      obtain ⟨b, f, rfl, hlt, hks, hkc, cl, co, hat, hrv⟩ := HS.out.2 k (ky, v) hv
      replace hkc := (HU.out.cell (p := ⟨b, f + k * 7, none⟩) hlt).trans hkc
      simp only at hat hrv hkc hks
      obtain ⟨q1, n1, c1, q2, n2, c2, rfl, rfl⟩ := hrv.slices
      obtain ⟨a0, a1, a2, a3, a4, a5⟩ := hat.mono HU.out hlt
      replace a1 : wr.cell? ⟨b, f + k * 7 + 2, none⟩ = _ := a1
      replace a2 : wr.cell? ⟨b, f + k * 7 + 3, none⟩ = _ := a2
      replace a3 : wr.cell? ⟨b, f + k * 7 + 4, none⟩ = _ := a3
      replace a4 : wr.cell? ⟨b, f + k * 7 + 5, none⟩ = _ := a4
      replace a5 : wr.cell? ⟨b, f + k * 7 + 6, none⟩ = _ := a5
      have HV := Lib.hid hv
      have HR := Lib.hid hrv
      clear hv hrv hat
      by_cases h2 : k < l'.len
      · obtain ⟨⟨ky', v'⟩, hv'⟩ := ML.get_some h2
        obtain ⟨b', f', rfl, hlt', hks', hkc', cl', co', hat', hrv'⟩ := HS'.out.2 k (ky', v') hv'
        replace hkc' := (HU.out.cell (p := ⟨b', f' + k * 7, none⟩) hlt').trans hkc'
        simp only at hat' hrv' hkc' hks'
        obtain ⟨q3, n3, c3, q4, n4, c4, rfl, rfl⟩ := hrv'.slices
        obtain ⟨b0, b1, b2, b3, b4, b5⟩ := hat'.mono HU.out hlt'
        replace b1 : wr.cell? ⟨b', f' + k * 7 + 2, none⟩ = _ := b1
        replace b2 : wr.cell? ⟨b', f' + k * 7 + 3, none⟩ = _ := b2
        replace b3 : wr.cell? ⟨b', f' + k * 7 + 4, none⟩ = _ := b3
        replace b4 : wr.cell? ⟨b', f' + k * 7 + 5, none⟩ = _ := b4
        replace b5 : wr.cell? ⟨b', f' + k * 7 + 6, none⟩ = _ := b5
        have HV' := Lib.hid hv'
        have HR' := Lib.hid hrv'
        clear hv' hrv' hat'
        have g1 := Nat.lt_of_lt_of_le hlt' HU.out.size
        have HS2 : Hid (cmpML l l' = if cmpKV (ky, v) (ky', v') = 0 then cmpML (l.drop (k + 1)) (l'.drop (k + 1)) else cmpKV (ky, v) (ky', v')) := Lib.hid (HC.out.trans (cmpML_step2 HV.out HV'.out))
        by_cases hz : cmpKV (ky, v) (ky', v') = 0
        · have hz2 : (cmpKV (ky, v) (ky', v') != 0) = false := by simpa [bne] using hz
          have HZ := Lib.hid hz
          clear hz
          go_wp2_with fail
          refine ((HE.out k _ HV.out) ky' v' _ _ _ _ _ ?_ ?_).mono ?_
          · exact HR.out.mono ((HU.out.alloc HU.out.size _).alloc (by have := HU.out.size; simp; omega) _)
          · exact HR'.out.mono ((HU.out.alloc HU.out.size _).alloc (by have := HU.out.size; simp; omega) _)
          rintro e w2 ⟨rfl, hb2⟩
          have HB : Hid (Below w.heap.size w w2) := Lib.hid (((HU.out.alloc HU.out.size _).alloc (by have := HU.out.size; simp; omega) _).trans (hb2.mono (by have := HU.out.size; simp; omega)))
          clear hb2
          go_wp2
          go_roundw
          case rel => exact ⟨HB.out, k + 1, by omega, by omega, by go_num, by rw [HS2.out, if_pos HZ.out]⟩
          case measure => simp [intOf]; omega
        · have hz2 : (cmpKV (ky, v) (ky', v') != 0) = true := by simpa [bne] using hz
          have HZ : Hid (¬ cmpKV (ky, v) (ky', v') = 0) := Lib.hid hz
          clear hz
          go_wp2_with fail
          refine ((HE.out k _ HV.out) ky' v' _ _ _ _ _ ?_ ?_).mono ?_
          · exact HR.out.mono ((HU.out.alloc HU.out.size _).alloc (by have := HU.out.size; simp; omega) _)
          · exact HR'.out.mono ((HU.out.alloc HU.out.size _).alloc (by have := HU.out.size; simp; omega) _)
          rintro e w2 ⟨rfl, hb2⟩
          have HB : Hid (Below w.heap.size w w2) := Lib.hid (((HU.out.alloc HU.out.size _).alloc (by have := HU.out.size; simp; omega) _).trans (hb2.mono (by have := HU.out.size; simp; omega)))
          clear hb2
          go_wp2
          go_ret
          exact ⟨ret_int (by rw [HS2.out, if_neg HZ.out]), HB.out⟩
      · have HX : Hid (cmpML l l' = 1) := Lib.hid (by rw [HC.out, cmpML_end hka hkb (by omega), cmpI_gt (by omega)])
        go_wp2
        go_ret
        exact ⟨ret_int HX.out.symm, HU.out.alloc HU.out.size _⟩
    · have HX : Hid (cmpML l l' = cmpI l.len l'.len) := Lib.hid (by rw [HC.out, cmpML_end hka hkb (by omega)])
      by_cases h2 : l.len < l'.len
      · have HY : Hid (cmpI l.len l'.len = -1) := Lib.hid (cmpI_lt (by omega))
        go_wp2
        go_ret
        exact ⟨ret_int (by rw [HX.out, HY.out]), HU.out⟩
      · have HY : Hid (cmpI l.len l'.len = 0) := Lib.hid (cmpI_eq (by omega) (by omega))
        go_wp2
        go_ret
        exact ⟨ret_int (by rw [HX.out, HY.out]), HU.out⟩
end Go.Proofs.YtbnlcffnmlgomaaGreatDoor
