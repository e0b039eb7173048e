/-
  oracle.entries and what it calls.
-/
import Derived.Test.YtbnlcffnmlgomaaGreatDoorSetWalks5
set_option linter.unusedSectionVars false
set_option linter.unusedVariables false
set_option linter.unusedSimpArgs false
namespace Go.Proofs.YtbnlcffnmlgomaaGreatDoor
open Go.RowKit Go.Lib

def sameV (v v' : V) : Bool := cmpV v v' == 0
set_option maxRecDepth 100000 in
set_option maxHeartbeats 1000000 in
theorem same79 (v v' : V) (w : World) (cl co cl' co' : Value) (hr : RV w v cl co) (hr' : RV w v' cl' co') :
    Calls Tryz.prog 79 #[.agg #[.int .i64 v.k, .bool v.b, .int .i64 v.n, .string v.t, cl, co], .agg #[.int .i64 v'.k, .bool v'.b, .int .i64 v'.n, .string v'.t, cl', co']] w fun e w' => e = .returned (.bool (sameV v v')) ∧ Below w.heap.size w w' := by
  obtain ⟨q1, n1, c1, q2, n2, c2, rfl, rfl⟩ := hr.slices
  obtain ⟨q3, n3, c3, q4, n4, c4, rfl, rfl⟩ := hr'.slices
  have HR := Lib.hid hr
  have HR' := Lib.hid hr'
  have HC := hid' (compare_all v)
  clear hr hr'
  have main : ∀ r : Bool, Hid (sameV v v' = r) → Calls Tryz.prog 79 #[.agg #[.int .i64 v.k, .bool v.b, .int .i64 v.n, .string v.t, .slice q1 n1 c1, .slice q2 n2 c2], .agg #[.int .i64 v'.k, .bool v'.b, .int .i64 v'.n, .string v'.t, .slice q3 n3 c3, .slice q4 n4 c4]] w fun e w' => e = .returned (.bool r) ∧ Below w.heap.size w w' := by
    intro r HS
    cases r
    all_goals
      have hz : (cmpV v v' == 0) = _ := HS.out
      go_enter Tryz.func79, Tryz.ntmps79
      go_wp2_with fail
      refine ((unhid' HC) v' _ _ _ _ _ (RV.mono (((Below.refl _ _).alloc (Nat.le_refl _) _).alloc (by simp) _) HR.out) (RV.mono (((Below.refl _ _).alloc (Nat.le_refl _) _).alloc (by simp) _) HR'.out)).mono ?_
      rintro e w2 ⟨rfl, hb2⟩
      have HB2 := Lib.hid hb2
      clear hb2
      go_wp2
      go_ret
      exact ⟨rfl, (((Below.refl _ _).alloc (Nat.le_refl _) _).alloc (by simp) _).trans (HB2.out.mono (by simp; omega))⟩
  exact main _ (Lib.hid rfl)

def eqKV (p p' : ByteArray × V) : Bool := (p.1.toList == p'.1.toList) && sameV p.2 p'.2

set_option maxRecDepth 100000 in
set_option maxHeartbeats 1000000 in
theorem pair78 (k k' : ByteArray) (v v' : V) (w : World) (cl co cl' co' : Value) (hr : RV w v cl co) (hr' : RV w v' cl' co') :
    Calls Tryz.prog 78 #[.agg #[.string k, .int .i64 v.k, .bool v.b, .int .i64 v.n, .string v.t, cl, co], .agg #[.string k', .int .i64 v'.k, .bool v'.b, .int .i64 v'.n, .string v'.t, cl', co']] w fun e w' => e = .returned (.bool (eqKV (k, v) (k', v'))) ∧ Below w.heap.size w w' := by
  obtain ⟨q1, n1, c1, q2, n2, c2, rfl, rfl⟩ := hr.slices
  obtain ⟨q3, n3, c3, q4, n4, c4, rfl, rfl⟩ := hr'.slices
  have HR := Lib.hid hr
  have HR' := Lib.hid hr'
  clear hr hr'
  cases hk : (k.toList == k'.toList) with
  | true =>
    have HV : Hid (eqKV (k, v) (k', v') = sameV v v') := Lib.hid (by unfold eqKV; simp only [hk, Bool.true_and])
    go_enter Tryz.func78, Tryz.ntmps78
    go_wp2_with fail
    refine (same79 v v' _ _ _ _ _ (RV.mono (((Below.refl _ _).alloc (Nat.le_refl _) _).alloc (by simp) _) HR.out) (RV.mono (((Below.refl _ _).alloc (Nat.le_refl _) _).alloc (by simp) _) HR'.out)).mono ?_
    rintro e w2 ⟨rfl, hb2⟩
    have HB2 := Lib.hid hb2
    clear hb2
    go_wp2
    go_ret
    exact ⟨by rw [HV.out]; rfl, (((Below.refl _ _).alloc (Nat.le_refl _) _).alloc (by simp) _).trans (HB2.out.mono (by simp; omega))⟩
  | false =>
    have HV : Hid (eqKV (k, v) (k', v') = false) := Lib.hid (by unfold eqKV; simp only [hk, Bool.false_and])
    go_enter Tryz.func78, Tryz.ntmps78
    go_wp2
    go_ret
    exact ⟨by rw [HV.out]; rfl, ((Below.refl _ _).alloc (Nat.le_refl _) _).alloc (by simp) _⟩

def sameM : ML → ML → Bool
  | .nil, .nil => true
  | .cons k v l, .cons k' v' l' => eqKV (k, v) (k', v') && sameM l l'
  | .nil, .cons _ _ _ => false
  | .cons _ _ _, .nil => false
theorem sameM_step {l l' : ML} {i : Nat} {p p' : ByteArray × V} (h : l.get? i = some p) (h' : l'.get? i = some p') :
    sameM (l.drop i) (l'.drop i) = (eqKV p p' && sameM (l.drop (i + 1)) (l'.drop (i + 1))) := by
  rw [ML.drop_get h, ML.drop_get h']; rfl
theorem sameM_len : ∀ {l l' : ML}, l.len ≠ l'.len → sameM l l' = false
  | .nil, .nil, h => absurd rfl h
  | .nil, .cons _ _ _, _ => rfl
  | .cons _ _ _, .nil, _ => rfl
  | .cons k v l, .cons k' v' l', h => by
    have := sameM_len (l := l) (l' := l') (by simp only [ML.len] at h; omega)
    simp [sameM, this]
theorem sameM_end {l l' : ML} {i : Nat} (h : l.len ≤ i) (h' : l'.len ≤ i) : sameM (l.drop i) (l'.drop i) = true := by
  rw [ML.drop_len h, ML.drop_len h']; rfl

set_option maxRecDepth 100000 in
set_option maxHeartbeats 1000000 in
theorem equal77 (l l' : ML) (w : World) (p p' : Option Addr) (c c' : Nat) (hs : HeadM w l p) (hs' : HeadM w l' p') :
    Calls Tryz.prog 77 #[.slice p l.len c, .slice p' l'.len c', .func (.func 78) #[] #[]] w fun e w' => e = .returned (.bool (sameM l l')) ∧ Below w.heap.size w w' := by
  have m1 := hs.1
  have m2 := hs'.1
  unfold maxLen at m1 m2
  have HS := Lib.hid hs
  have HS' := Lib.hid hs'
  clear hs hs'
  by_cases hlen : l.len = l'.len
  · have HL := Lib.hid hlen
    have hl1 : decide (l.len = l'.len) = true := by simpa using hlen
    have hl2 : (l.len == l'.len) = true := by simpa using hlen
    have hl3 : (l.len != l'.len) = false := by simpa [bne] using hlen
    have hl4 : ((l.len : Int) != (l'.len : Int)) = false := by rw [hlen]; simp
    have hl5 : ((l.len : Int) == (l'.len : Int)) = true := by rw [hlen]; simp
    clear hlen
    go_enter Tryz.func77, Tryz.ntmps77
    go_wp2
    go_loopw [17] (fun i u => Below w.heap.size w u ∧ ∃ k : Nat, k ≤ l.len ∧ i = .int .i64 k ∧ sameM l l' = sameM (l.drop k) (l'.drop k)) (fun i _ => l.len - (intOf i).toNat)
    case atStart => exact ⟨Below.refl _ _, 0, Nat.zero_le _, rfl, by rw [ML.drop_zero, ML.drop_zero]⟩
    case round =>
      obtain ⟨hu, k, hka, rfl, hc⟩ := hrel
      have HC : Hid (sameM l l' = sameM (l.drop k) (l'.drop k)) := Lib.hid hc
      have HU := Lib.hid hu
      clear hc hu
      by_cases h1 : k < l.len
      · have h2 : k < l'.len := by have := HL.out; omega
        obtain ⟨⟨ky, v⟩, hv⟩ := ML.get_some h1
        obtain ⟨b, f, rfl, hlt, hks, hkc, cl, co, hat, hrv⟩ := HS.out.2 k (ky, v) hv
        replace hkc := (HU.out.cell (p := ⟨b, f + k * 7, none⟩) hlt).trans hkc
        simp only at hat hrv hkc hks
        obtain ⟨q1, n1, c1, q2, n2, c2, rfl, rfl⟩ := hrv.slices
        obtain ⟨a0, a1, a2, a3, a4, a5⟩ := hat.mono HU.out hlt
        replace a1 : wr.cell? ⟨b, f + k * 7 + 2, none⟩ = _ := a1
        replace a2 : wr.cell? ⟨b, f + k * 7 + 3, none⟩ = _ := a2
        replace a3 : wr.cell? ⟨b, f + k * 7 + 4, none⟩ = _ := a3
        replace a4 : wr.cell? ⟨b, f + k * 7 + 5, none⟩ = _ := a4
        replace a5 : wr.cell? ⟨b, f + k * 7 + 6, none⟩ = _ := a5
        have HV := Lib.hid hv
        have HR := Lib.hid hrv
        clear hv hrv hat
        obtain ⟨⟨ky', v'⟩, hv'⟩ := ML.get_some h2
        obtain ⟨b', f', rfl, hlt', hks', hkc', cl', co', hat', hrv'⟩ := HS'.out.2 k (ky', v') hv'
        replace hkc' := (HU.out.cell (p := ⟨b', f' + k * 7, none⟩) hlt').trans hkc'
        simp only at hat' hrv' hkc' hks'
        obtain ⟨q3, n3, c3, q4, n4, c4, rfl, rfl⟩ := hrv'.slices
        obtain ⟨b0, b1, b2, b3, b4, b5⟩ := hat'.mono HU.out hlt'
        replace b1 : wr.cell? ⟨b', f' + k * 7 + 2, none⟩ = _ := b1
        replace b2 : wr.cell? ⟨b', f' + k * 7 + 3, none⟩ = _ := b2
        replace b3 : wr.cell? ⟨b', f' + k * 7 + 4, none⟩ = _ := b3
        replace b4 : wr.cell? ⟨b', f' + k * 7 + 5, none⟩ = _ := b4
        replace b5 : wr.cell? ⟨b', f' + k * 7 + 6, none⟩ = _ := b5
        have HV' := Lib.hid hv'
        have HR' := Lib.hid hrv'
        clear hv' hrv' hat'
        have g1 := Nat.lt_of_lt_of_le hlt' HU.out.size
        have HS2 : Hid (sameM l l' = (eqKV (ky, v) (ky', v') && sameM (l.drop (k + 1)) (l'.drop (k + 1)))) := Lib.hid (HC.out.trans (sameM_step HV.out HV'.out))
        cases hz : eqKV (ky, v) (ky', v')
        all_goals
          have HZ := Lib.hid hz
          go_wp2_with fail
          refine (pair78 ky ky' v v' _ _ _ _ _ ?_ ?_).mono ?_
          · exact HR.out.mono ((HU.out.alloc HU.out.size _).alloc (by have := HU.out.size; simp; omega) _)
          · exact HR'.out.mono ((HU.out.alloc HU.out.size _).alloc (by have := HU.out.size; simp; omega) _)
          rintro e w2 ⟨rfl, hb2⟩
          have HB : Hid (Below w.heap.size w w2) := Lib.hid (((HU.out.alloc HU.out.size _).alloc (by have := HU.out.size; simp; omega) _).trans (hb2.mono (by have := HU.out.size; simp; omega)))
          clear hb2
          go_wp2
        · go_ret
          exact ⟨by rw [HS2.out, HZ.out]; rfl, HB.out⟩
        · go_roundw
          case rel => exact ⟨HB.out, k + 1, by omega, by go_num, by rw [HS2.out, HZ.out]; rfl⟩
          case measure => simp [intOf]; omega
      · have HX : Hid (sameM l l' = true) := Lib.hid (by rw [HC.out, sameM_end (by omega) (by have := HL.out; omega)])
        go_wp2
        go_ret
        exact ⟨by rw [HX.out]; rfl, HU.out⟩
  · have HX : Hid (sameM l l' = false) := Lib.hid (sameM_len hlen)
    have hl1 : decide (l.len = l'.len) = false := by simpa using hlen
    have hl2 : (l.len == l'.len) = false := by simpa using hlen
    have hl3 : (l.len != l'.len) = true := by simpa [bne] using hlen
    have hl4 : ((l.len : Int) != (l'.len : Int)) = true := by simp [bne]; omega
    have hl5 : ((l.len : Int) == (l'.len : Int)) = false := by simp; omega
    go_enter Tryz.func77, Tryz.ntmps77
    go_wp2
    go_ret
    exact ⟨by rw [HX.out]; rfl, Below.refl _ _⟩
end Go.Proofs.YtbnlcffnmlgomaaGreatDoor

/-
  oracle.Settled.
-/
namespace Go.Proofs.YtbnlcffnmlgomaaGreatDoor
open Go.RowKit Go.Lib

theorem entries41 (l l' : ML) (w : World) (p p' : Option Addr) (c c' : Nat) (hs : HeadM w l p) (hs' : HeadM w l' p') :
    Calls Tryz.prog 41 #[.slice p l.len c, .slice p' l'.len c'] w fun e w' => e = .returned (.bool (sameM l l')) ∧ Below w.heap.size w w' := by
  have HC := hid' (equal77 l l' w p p' c c' hs hs')
  clear hs hs'
  go_enter Tryz.func41, Tryz.ntmps41
  go_wp2_with fail
  refine (unhid' HC).mono ?_
  rintro e w2 ⟨rfl, hb2⟩
  have HB2 := Lib.hid hb2
  clear hb2
  go_wp2
  go_ret
  exact ⟨rfl, HB2.out⟩

/-- a view: what of it is looked at -/
structure VW where
  x0 : Value
  x1 : Value
  x2 : Value
  x3 : Value
  x4 : Value
  pp : Option Addr
  np : Nat
  cp : Nat
  hd : ML
  hp : Option Addr
  hc : Nat
  x7 : Value
def badW (m : ML) (v : VW) : Bool := decide (0 < v.np) || !(sameM m v.hd)

set_option maxRecDepth 100000 in
set_option maxHeartbeats 1000000 in
theorem bad40 (m : ML) (v : VW) (w : World) (s : Nat) (mp : Option Addr) (mc : Nat) (hnp : v.np ≤ maxLen) (hs : w.cell? ⟨s, 1, none⟩ = some (.slice mp m.len mc)) (hsl : s < w.heap.size) (hm : HeadM w m mp) (hh : HeadM w v.hd v.hp) :
    Calls Tryz.prog 40 #[.agg #[v.x0, v.x1, v.x2, v.x3, v.x4, .slice v.pp v.np v.cp, .slice v.hp v.hd.len v.hc, v.x7], .pointer (some ⟨s, 0, none⟩)] w fun e w' => e = .returned (.bool (badW m v)) ∧ Below w.heap.size w w' := by
  obtain ⟨x0, x1, x2, x3, x4, pp, np, cp, hd, hp, hc, x7⟩ := v
  simp only at hh hnp ⊢
  unfold maxLen at hnp
  have HM := Lib.hid hm
  have HH := Lib.hid hh
  clear hm hh
  by_cases h : 0 < np
  · have HX : Hid (badW m ⟨x0, x1, x2, x3, x4, pp, np, cp, hd, hp, hc, x7⟩ = true) := Lib.hid (by unfold badW; simp [h])
    go_enter Tryz.func40, Tryz.ntmps40
    go_wp2
    go_ret
    exact ⟨by rw [HX.out]; rfl, (Below.refl _ _).alloc (Nat.le_refl _) _⟩
  · have h0 : np = 0 := by omega
    subst h0
    cases hz : sameM m hd
    all_goals
      have HX : Hid (badW m ⟨x0, x1, x2, x3, x4, pp, 0, cp, hd, hp, hc, x7⟩ = !(sameM m hd)) := Lib.hid (by unfold badW; simp)
      have HZ := Lib.hid hz
      go_enter Tryz.func40, Tryz.ntmps40
      go_wp2_with fail
      refine (entries41 _ _ _ _ _ _ _ (HM.out.mono ((Below.refl _ _).alloc (Nat.le_refl _) _)) (HH.out.mono ((Below.refl _ _).alloc (Nat.le_refl _) _))).mono ?_
      rintro e w2 ⟨rfl, hb2⟩
      have HB2 := Lib.hid hb2
      clear hb2
      go_wp2
      go_ret
      exact ⟨by rw [HX.out, HZ.out]; rfl, ((Below.refl _ _).alloc (Nat.le_refl _) _).trans (HB2.out.mono (by simp))⟩

/-- a slice of views, as it is handed in -/
def HeadW (w : World) (l : List VW) (p : Option Addr) : Prop :=
  l.length ≤ maxLen ∧ ∀ (k : Nat) (v : VW), l[k]? = some v → v.np ≤ maxLen ∧ HeadM w v.hd v.hp ∧ ∃ b f, p = some ⟨b, f, none⟩ ∧ b < w.heap.size ∧ w.cell? ⟨b, f + k * 8, none⟩ = some v.x0 ∧ w.cell? ⟨b, f + k * 8 + 1, none⟩ = some v.x1 ∧
    w.cell? ⟨b, f + k * 8 + 2, none⟩ = some v.x2 ∧ w.cell? ⟨b, f + k * 8 + 3, none⟩ = some v.x3 ∧ w.cell? ⟨b, f + k * 8 + 4, none⟩ = some v.x4 ∧ w.cell? ⟨b, f + k * 8 + 5, none⟩ = some (.slice v.pp v.np v.cp) ∧ w.cell? ⟨b, f + k * 8 + 6, none⟩ = some (.slice v.hp v.hd.len v.hc) ∧ w.cell? ⟨b, f + k * 8 + 7, none⟩ = some v.x7
theorem HeadW.mono {w w' : World} (hb : Below w.heap.size w w') {l : List VW} {p : Option Addr} (h : HeadW w l p) : HeadW w' l p := by
  refine ⟨h.1, fun k v hk => ?_⟩
  obtain ⟨h1, h2, b, f, e, hlt, c0, c1, c2, c3, c4, c5, c6, c7⟩ := h.2 k v hk
  have e' : ∀ o, w'.cell? ⟨b, o, none⟩ = w.cell? ⟨b, o, none⟩ := fun o => hb.cell (p := ⟨b, o, none⟩) hlt
  exact ⟨h1, h2.mono hb, b, f, e, Nat.lt_of_lt_of_le hlt hb.size, by rw [e']; exact c0, by rw [e']; exact c1, by rw [e']; exact c2, by rw [e']; exact c3, by rw [e']; exact c4, by rw [e']; exact c5, by rw [e']; exact c6, by rw [e']; exact c7⟩

def anyBad (m : ML) (l : List VW) : Bool := l.any (badW m)
theorem any_step {f : VW → Bool} {l : List VW} {k : Nat} {v : VW} (h : l[k]? = some v) : (l.drop k).any f = (f v || (l.drop (k + 1)).any f) := by
  have hlt : k < l.length := (List.getElem?_eq_some_iff.1 h).1
  rw [List.drop_eq_getElem_cons hlt]
  have : l[k] = v := (List.getElem?_eq_some_iff.1 h).2
  rw [List.any_cons, this]

/-- 0 or more: found; -1: not -/
def Found (found : Bool) (e : Ending) : Prop := ∃ n : Int, e = .returned (.int .i64 n) ∧ (decide (0 ≤ n) = found)

set_option maxRecDepth 100000 in
set_option maxHeartbeats 1000000 in
theorem index76 (m : ML) (l : List VW) (w : World) (p : Option Addr) (c : Nat) (s : Nat) (mp : Option Addr) (mc : Nat) (hs : w.cell? ⟨s, 1, none⟩ = some (.slice mp m.len mc)) (hsl : s < w.heap.size) (hm : HeadM w m mp) (hl : HeadW w l p) :
    Calls Tryz.prog 76 #[.slice p l.length c, .func (.func 40) #[] #[.pointer (some ⟨s, 0, none⟩)]] w fun e w' => Found (anyBad m l) e ∧ Below w.heap.size w w' := by
  have m1 := hl.1
  unfold maxLen at m1
  have HS := Lib.hid hs
  have HM := Lib.hid hm
  have HL := Lib.hid hl
  clear hs hm hl
  go_enter Tryz.func76, Tryz.ntmps76
  go_wp2
  go_loopw [8] (fun i u => Below w.heap.size w u ∧ ∃ k : Nat, k ≤ l.length ∧ i = .int .i64 k ∧ anyBad m l = (l.drop k).any (badW m)) (fun i _ => l.length - (intOf i).toNat)
  case atStart => exact ⟨Below.refl _ _, 0, Nat.zero_le _, rfl, rfl⟩
  case round =>
    obtain ⟨hu, k, hka, rfl, hc⟩ := hrel
    have HC : Hid (anyBad m l = (l.drop k).any (badW m)) := Lib.hid hc
    have HU := Lib.hid hu
    clear hc hu
    by_cases h1 : k < l.length
    · have hv : l[k]? = some l[k] := by simp [h1]
      have HC2 : Hid (anyBad m l = (badW m l[k] || (l.drop (k + 1)).any (badW m))) := Lib.hid (HC.out.trans (any_step hv))
      obtain ⟨hn, hh, b, f, rfl, hlt, c0, c1, c2, c3, c4, c5, c6, c7⟩ := (HL.out.mono HU.out).2 k l[k] hv
      have HN := Lib.hid hn
      have HH := Lib.hid hh
      have HB0 := Lib.hid HL.out
      cases hz : badW m l[k]
      all_goals
        have HZ := Lib.hid hz
        clear hv hn hh hz
        go_wp2_with fail
        refine (bad40 m l[k] _ s mp mc HN.out ((HU.out.cell (p := ⟨s, 1, none⟩) hsl).trans HS.out) (Nat.lt_of_lt_of_le hsl HU.out.size) (HM.out.mono HU.out) HH.out).mono ?_
        rintro e w2 ⟨rfl, hb2⟩
        have HB : Hid (Below w.heap.size w w2) := Lib.hid (HU.out.trans (hb2.mono HU.out.size))
        clear hb2
        have hz2 := HZ.out
        go_wp2
      · go_roundw
        case rel => exact ⟨HB.out, k + 1, by omega, by go_num, by rw [HC2.out, HZ.out]; rfl⟩
        case measure => simp [intOf]; omega
      · go_ret
        exact ⟨⟨k, rfl, by rw [HC2.out, HZ.out]; simp⟩, HB.out⟩
    · have HX : Hid (anyBad m l = false) := Lib.hid (by rw [HC.out, List.drop_eq_nil_of_le (by omega)]; rfl)
      go_wp2
      go_ret
      exact ⟨⟨-1, rfl, by rw [HX.out]; rfl⟩, HU.out⟩
end Go.Proofs.YtbnlcffnmlgomaaGreatDoor

/-
  oracle.Settled, whole.
-/
namespace Go.Proofs.YtbnlcffnmlgomaaGreatDoor
open Go.RowKit Go.Lib

set_option maxRecDepth 100000 in
set_option maxHeartbeats 1000000 in
theorem contains39 (m : ML) (l : List VW) (w : World) (p : Option Addr) (c : Nat) (s : Nat) (mp : Option Addr) (mc : Nat) (hs : w.cell? ⟨s, 1, none⟩ = some (.slice mp m.len mc)) (hsl : s < w.heap.size) (hm : HeadM w m mp) (hl : HeadW w l p) :
    Calls Tryz.prog 39 #[.slice p l.length c, .func (.func 40) #[] #[.pointer (some ⟨s, 0, none⟩)]] w fun e w' => e = .returned (.bool (anyBad m l)) ∧ Below w.heap.size w w' := by
  have HC := hid' (index76 m l w p c s mp mc hs hsl hm hl)
  clear hs hm hl
  go_enter Tryz.func39, Tryz.ntmps39
  go_wp2_with fail
  refine (unhid' HC).mono ?_
  rintro e w2 ⟨⟨n, rfl, hn⟩, hb2⟩
  have HB2 := Lib.hid hb2
  have HN := Lib.hid hn
  clear hb2
  cases hz : anyBad m l
  all_goals
    have HZ := Lib.hid hz
    rw [hz] at hn
    have hn2 : decide (n ≥ 0) = _ := hn
    clear hz
    go_wp2
    go_ret
    exact ⟨by first | rfl | (rw [HZ.out]; rfl), HB2.out⟩

set_option maxRecDepth 100000 in
set_option maxHeartbeats 1000000 in
theorem settled15 (m : ML) (l : List VW) (w : World) (p : Option Addr) (c : Nat) (mp : Option Addr) (mc : Nat) (y0 y2 : Value) (hm : HeadM w m mp) (hl : HeadW w l p) :
    Calls Tryz.prog 15 #[.agg #[y0, .slice mp m.len mc, y2], .slice p l.length c] w fun e w' => e = .returned (.bool (!anyBad m l)) ∧ Below w.heap.size w w' := by
  have HM := Lib.hid hm
  have HL := Lib.hid hl
  clear hm hl
  have HX : Hid ((w.alloc (.cells #[y0, .slice mp m.len mc, y2] 39)).cell? ⟨w.heap.size, 1, none⟩ = some (.slice mp m.len mc)) := Lib.hid (cell_new w _ _ rfl)
  cases hz : anyBad m l
  all_goals
    have HZ := Lib.hid hz
    go_enter Tryz.func15, Tryz.ntmps15
    go_wp2_with fail
    refine (contains39 m l _ p c _ mp mc HX.out (by simp) (HM.out.mono ((Below.refl _ _).alloc (Nat.le_refl _) _)) (HL.out.mono ((Below.refl _ _).alloc (Nat.le_refl _) _))).mono ?_
    rintro e w2 ⟨rfl, hb2⟩
    have HB2 := Lib.hid hb2
    clear hb2
    go_wp2
    go_ret
    exact ⟨by first | rfl | (rw [HZ.out]; rfl), ((Below.refl _ _).alloc (Nat.le_refl _) _).trans (HB2.out.mono (by simp))⟩
end Go.Proofs.YtbnlcffnmlgomaaGreatDoor
