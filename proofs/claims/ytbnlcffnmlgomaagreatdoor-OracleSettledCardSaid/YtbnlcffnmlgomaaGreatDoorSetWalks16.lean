/-
  OracleSettled: its call.
-/
import Derived.Test.YtbnlcffnmlgomaaGreatDoorSetWalks14
import Derived.Test.YtbnlcffnmlgomaaGreatDoorAbsKnown
set_option linter.unusedSectionVars false
set_option linter.unusedVariables false
set_option linter.unusedSimpArgs false
namespace Go.Proofs.YtbnlcffnmlgomaaGreatDoor
open Go.RowKit Go.Lib

theorem settled15r (m : ML) (l : List VW) (w : World) (p : Option Addr) (c : Nat) (mp : Option Addr) (mc : Nat) (y0 y2 : Value) (r : Bool) (hr : (!anyBad m l) = r) (hm : HeadM w m mp) (hl : HeadW w l p) :
    Calls Tryz.prog 15 #[.agg #[y0, .slice mp m.len mc, y2], .slice p l.length c] w fun e w' => e = .returned (.bool r) ∧ Below w.heap.size w w' := by
  subst hr; exact settled15 m l w p c mp mc y0 y2 hm hl
theorem settled16r (m : ML) (l : List VW) (w : World) (p : Option Addr) (c : Nat) (mp : Option Addr) (mc : Nat) (y0 y2 : Value) (r : Bool) (hr : (!anyBad m l) = r) (hm : HeadM w m mp) (hl : HeadW w l p) :
    Calls Tryz.prog 16 #[.agg #[y0, .slice mp m.len mc, y2], .slice p l.length c] w fun e w' => e = .returned (.bool r) ∧ Below w.heap.size w w' := by
  subst hr; exact settled16 m l w p c mp mc y0 y2 hm hl

set_option maxRecDepth 100000 in
set_option maxHeartbeats 4000000 in
theorem oracleSettled_r (r : Bool) (m : ML) (l : List VW) (hz : (!anyBad m l) = r) (w : World) (p : Option Addr) (c : Nat) (mp : Option Addr) (mc : Nat) (y0 y2 : Value) (hm : HeadM w m mp) (hl : HeadW w l p) :
    Calls Tryz.prog 4 #[.agg #[y0, .slice mp m.len mc, y2], .slice p l.length c] w fun e w' => e = .returned (.bool true) ∧ Below w.heap.size w w' := by
  have HM := Lib.hid hm
  have HL := Lib.hid hl
  have HZ := hid' hz
  clear hm hl hz
  cases r
  all_goals
    go_enter Tryz.func4, Tryz.ntmps4
    go_wp2
    go_region_held3 (fun w' => w.heap.size + 1 ≤ w'.heap.size ∧ w'.cell? ⟨w.heap.size, 0, none⟩ = some (y0) ∧ w'.cell? ⟨w.heap.size, 1, none⟩ = some (.slice mp m.len mc) ∧ w'.cell? ⟨w.heap.size, 2, none⟩ = some (y2)) (go_keep)
      (first | (go_at_call 15; refine (settled15r m l _ p c mp mc _ _ _ (unhid' HZ) (HeadM.mono (by first | exact HBW.out | exact ((Below.refl _ _).alloc (Nat.le_refl _) _).drew | exact ((Below.refl _ _).alloc (Nat.le_refl _) _)) HM.out) (HeadW.mono (by first | exact HBW.out | exact ((Below.refl _ _).alloc (Nat.le_refl _) _).drew | exact ((Below.refl _ _).alloc (Nat.le_refl _) _)) HL.out)).mono ?_; rintro e w2 ⟨rfl, hb2⟩; have hs2 : w.heap.size + 1 ≤ w2.heap.size := (by have := hb2.size; first | omega | (simp at this; omega)); have z0 := hb2.cell (p := ⟨w.heap.size, 0, none⟩) (by first | (simp; omega) | omega | simp); have z1 := hb2.cell (p := ⟨w.heap.size, 1, none⟩) (by first | (simp; omega) | omega | simp); have z2 := hb2.cell (p := ⟨w.heap.size, 2, none⟩) (by first | (simp; omega) | omega | simp); have HBW : Hid (Below w.heap.size w w2) := Lib.hid (by first | exact HBW.out.trans (hb2.mono HBW.out.size) | exact (((Below.refl _ _).alloc (Nat.le_refl _) _).drew).trans (hb2.mono (by simp)) | exact ((Below.refl _ _).alloc (Nat.le_refl _) _).trans (hb2.mono (by simp))); clear hb2) | (go_at_call 16; refine (settled16r m l _ p c mp mc _ _ _ (unhid' HZ) (HeadM.mono (by first | exact HBW.out | exact ((Below.refl _ _).alloc (Nat.le_refl _) _).drew | exact ((Below.refl _ _).alloc (Nat.le_refl _) _)) HM.out) (HeadW.mono (by first | exact HBW.out | exact ((Below.refl _ _).alloc (Nat.le_refl _) _).drew | exact ((Below.refl _ _).alloc (Nat.le_refl _) _)) HL.out)).mono ?_; rintro e w2 ⟨rfl, hb2⟩; have hs2 : w.heap.size + 1 ≤ w2.heap.size := (by have := hb2.size; first | omega | (simp at this; omega)); have z0 := hb2.cell (p := ⟨w.heap.size, 0, none⟩) (by first | (simp; omega) | omega | simp); have z1 := hb2.cell (p := ⟨w.heap.size, 1, none⟩) (by first | (simp; omega) | omega | simp); have z2 := hb2.cell (p := ⟨w.heap.size, 2, none⟩) (by first | (simp; omega) | omega | simp); have HBW : Hid (Below w.heap.size w w2) := Lib.hid (by first | exact HBW.out.trans (hb2.mono HBW.out.size) | exact (((Below.refl _ _).alloc (Nat.le_refl _) _).drew).trans (hb2.mono (by simp)) | exact ((Below.refl _ _).alloc (Nat.le_refl _) _).trans (hb2.mono (by simp))); clear hb2) | (go_at_call 9; refine (Abs.known30 _).mono ?_; rintro e w2 ⟨rfl, hb2⟩; have hs2 : w.heap.size + 1 ≤ w2.heap.size := (by have := hb2.size; first | omega | (simp at this; omega)); have z0 := hb2.cell (p := ⟨w.heap.size, 0, none⟩) (by first | (simp; omega) | omega | simp); have z1 := hb2.cell (p := ⟨w.heap.size, 1, none⟩) (by first | (simp; omega) | omega | simp); have z2 := hb2.cell (p := ⟨w.heap.size, 2, none⟩) (by first | (simp; omega) | omega | simp); have HBW : Hid (Below w.heap.size w w2) := Lib.hid (by first | exact HBW.out.trans (hb2.mono HBW.out.size) | exact (((Below.refl _ _).alloc (Nat.le_refl _) _).drew).trans (hb2.mono (by simp)) | exact ((Below.refl _ _).alloc (Nat.le_refl _) _).trans (hb2.mono (by simp))); clear hb2))
    all_goals go_wp2
    all_goals go_ret
    all_goals exact ⟨rfl, HBW.out⟩

theorem oracleSettled_calls (m : ML) (l : List VW) (w : World) (p : Option Addr) (c : Nat) (mp : Option Addr) (mc : Nat) (y0 y2 : Value) (hm : HeadM w m mp) (hl : HeadW w l p) :
    Calls Tryz.prog 4 #[.agg #[y0, .slice mp m.len mc, y2], .slice p l.length c] w fun e w' => e = .returned (.bool true) ∧ Below w.heap.size w w' :=
  oracleSettled_r _ m l rfl w p c mp mc y0 y2 hm hl
end Go.Proofs.YtbnlcffnmlgomaaGreatDoor
