/-
  THE ABSTRACT MACHINE: its quiet operations, one by one: tests, conversions, addresses, cuts.
-/
import Derived.Test.YtahpijfhoopilaaGreatDoorAbsQ4
set_option linter.unusedSectionVars false
set_option linter.unusedVariables false
set_option linter.unusedSimpArgs false
namespace Go.Abs
open Go Go.RowKit
variable [Ops]

section
variable {C : Ctx} (ok : C.Ok) {N0 : Nat} {w0 : World} {β : BM} {H : AHeap} {nx nh : Nat} {w : World} (h : HR C N0 w0 β H nh w) (hn : β nx = none)
variable {ρ ρ' : Operand → Value} {o : Oper} (hρ : ∀ x ∈ o.op.operands, VR β (ρ x) (ρ' x)) {v : Value} {x? : Option AObj}

def notNum : Value → Bool
  | .pointer _ | .slice _ _ _ | .map _ | .func _ _ _ | .nilFunc | .iface _ _ | .nilIface => true
  | _ => false
theorem notNum_of {a b : Value} {r : Bool} (hr : nilEq a b = some r) : notNum a = true := by
  cases a <;> first | rfl | (cases b <;> simp [nilEq] at hr)
theorem VR.notNum {a a' : Value} (hv : VR β a a') (ha : Abs.notNum a = true) : Abs.notNum a' = true := by
  cases hv with
  | atom _ => exact ha
  | agg _ => simp [Abs.notNum] at ha
  | tuple _ => simp [Abs.notNum] at ha
  | opq _ => simp [Abs.notNum] at ha
  | _ => rfl
theorem binOp_eql {t : TypeId} {a b : Value} (ha : Abs.notNum a = true) : binOp .eql t a b = (do pure (.bool (← Op.equal t a b))) := by
  cases a <;> first | (simp [Abs.notNum] at ha; done) | (cases b <;> rfl)
theorem binOp_neq {t : TypeId} {a b : Value} (ha : Abs.notNum a = true) : binOp .neq t a b = (do pure (.bool (!(← Op.equal t a b)))) := by
  cases a <;> first | (simp [Abs.notNum] at ha; done) | (cases b <;> rfl)

include ok hρ in
theorem q_binOp {op : BinOp} {t u : TypeId} {x y : Operand} (ho : o.op = .binOp op t x y u) (hq : quiet C H nx ρ o = some (v, x?)) : QRes C N0 β nx w (execOp ρ' o) v x? := by
  have hx := hρ x (by simp [ho, Op.operands])
  have hy := hρ y (by simp [ho, Op.operands])
  simp only [quiet, ho] at hq
  split at hq
  · rename_i ha
    rw [Bool.and_eq_true] at ha
    exact pureQ_sound (x? := x?) (fun cs b => by simp [ho]) hρ (fun z hz => by
      simp [ho, Op.operands] at hz
      rcases hz with rfl | rfl
      · exact ha.1
      · exact ha.2) hq
  · split at hq
    · rename_i d hd
      split at hq
      · rename_i hnd
        simp only [Bool.and_eq_true, Bool.not_eq_true'] at hnd
        split at hq
        · rename_i r hr
          cases hq
          obtain ⟨h1, h2⟩ := equal_nil (op := .eql) (x := x) (y := y) (w := w) ok hd hnd.1 hnd.2 hx hy hr 9999
          refine ⟨.bool r, ?_, .atom rfl⟩
          have h2' : (Op.equal t (ρ' x) (ρ' y)).run C.P w = .ok r w := h2
          have e : (binOp .eql t (ρ' x) (ρ' y)).run C.P w = .ok (.bool r) w := by
            rw [binOp_eql (hx.notNum (notNum_of hr))]
            simp [h2']
          simp [execOp, ho, h1, e]
        · rename_i r hr
          cases hq
          obtain ⟨h1, h2⟩ := equal_nil (op := .neq) (x := x) (y := y) (w := w) ok hd hnd.1 hnd.2 hx hy hr 9999
          refine ⟨.bool (!r), ?_, .atom rfl⟩
          have h2' : (Op.equal t (ρ' x) (ρ' y)).run C.P w = .ok r w := h2
          have e : (binOp .neq t (ρ' x) (ρ' y)).run C.P w = .ok (.bool (!r)) w := by
            rw [binOp_neq (hx.notNum (notNum_of hr))]
            simp [h2']
          simp [execOp, ho, h1, e]
        · cases hq
      · cases hq
    · cases hq

include hρ in
theorem q_unOp {op : UnOp} {t : TypeId} {x : Operand} (ho : o.op = .unOp op t x) (hq : quiet C H nx ρ o = some (v, x?)) : QRes C N0 β nx w (execOp ρ' o) v x? := by
  simp only [quiet, ho] at hq
  split at hq
  · rename_i ha
    exact pureQ_sound (x? := x?) (fun cs b => by simp [ho]) hρ (fun z hz => by
      rw [List.all_eq_true] at ha
      exact ha z (by simpa [ho] using hz)) hq
  · cases hq

include hρ in
theorem q_index {t : TypeId} {x ix : Operand} (ho : o.op = .index t x ix) (hq : quiet C H nx ρ o = some (v, x?)) : QRes C N0 β nx w (execOp ρ' o) v x? := by
  simp only [quiet, ho] at hq
  split at hq
  · rename_i ha
    exact pureQ_sound (x? := x?) (fun cs b => by simp [ho]) hρ (fun z hz => by
      rw [List.all_eq_true] at ha
      exact ha z (by simpa [ho] using hz)) hq
  · cases hq

theorem OR.shape {i : BI} {l : List Value} {et : TypeId} {kind : Nat} (hor : OR C N0 β w i (.cells l et kind)) : ∃ c fz, w.heap[i.blk]? = some (.cells c et fz) ∧ CR N0 β i l kind c fz := by
  obtain ⟨c, fz, h1, h2, _⟩ := hor
  exact ⟨c, fz, h1, h2⟩

include ok h hρ in
theorem q_convert {s d : TypeId} {x : Operand} (ho : o.op = .convert s d x) (hq : quiet C H nx ρ o = some (v, x?)) : QRes C N0 β nx w (execOp ρ' o) v x? := by
  have hx := hρ x (by simp [ho, Op.operands])
  simp only [quiet, ho] at hq
  split at hq
  · rename_i b off e
    rw [e] at hx
    obtain ⟨i, hi, e'⟩ := hx.ptr_inv
    split at hq
    · rename_i t l et kind hs hd hget
      obtain ⟨j, hj, hor⟩ := h.obj _ _ hget
      rw [hi] at hj
      cases hj
      obtain ⟨c, fz, hc, hcr⟩ := hor.shape
      split at hq
      · rename_i k hsz hlt
        cases hq
        have hlt : off < l.length := by have := Nat.le_of_ble_eq_true hlt; simp [llen_eq] at this; omega
        obtain ⟨v', hv', _⟩ := hcr.get off l[off] (by simp [hlt])
        have hin : i.base + off < c.size := by
          rcases Nat.lt_or_ge (i.base + off) c.size with h | h
          · exact h
          · rw [Array.getElem?_eq_none h] at hv'; cases hv'
        have hin' : ¬ (c.size ≤ i.base + off) := by omega
        have hsh : w.shape? i.blk = some (et, c.size) := by simp [World.shape?, hc]
        refine ⟨_, ?_, VR.ptr hi⟩
        simp [execOp, ho, e', convert, run_und ok w hs, run_und ok w hd, Conv.unsafePointer, Conv.seenAt, viewAt, cellsIn, hsh, run_size ok w hsz, hin']
      · cases hq
    · rename_i u l et hs hd hget
      obtain ⟨j, hj, hor⟩ := h.obj _ _ hget
      rw [hi] at hj
      cases hj
      obtain ⟨c, fz, hc, hcr⟩ := hor.shape
      split at hq
      · rename_i k m hsz het
        split at hq
        · rename_i hl
          cases hq
          have hsh : w.shape? i.blk = some (et, c.size) := by simp [World.shape?, hc]
          obtain ⟨hb0, hcs⟩ := hcr.whole rfl
          obtain ⟨ie, hie, hies⟩ := size_sound ok het
          have hco : C.P.cellsOf et = m + 1 := by simp [Program.cellsOf, hie, hies]
          refine ⟨_, ?_, VR.ptr hi⟩
          have hl' : liesAt C.P C.P.depth et (c.size / C.P.cellsOf et) (i.base + off) u 1 = true := by
            rw [hco, hcs, hb0, Nat.zero_add]
            simpa [llen_eq] using hl
          simp [execOp, ho, e', convert, run_und ok w hs, run_und ok w hd, Conv.unsafePointer, Conv.seenAt, viewAt, hsh, run_size ok w hsz, variablesAt, hl']
        · cases hq
      · cases hq
    · cases hq
  · rename_i e
    exact pureQ_sound (x? := x?) (fun cs b => by simp [ho]) hρ (fun z hz => by
      simp [ho, Op.operands] at hz
      subst hz
      rw [e]
      rfl) hq
  · cases hq

include ok hρ in
theorem q_fieldAddr {s : TypeId} {x : Operand} {f : Nat} (ho : o.op = .fieldAddr s x f) (hq : quiet C H nx ρ o = some (v, x?)) : QRes C N0 β nx w (execOp ρ' o) v x? := by
  have hx := hρ x (by simp [ho, Op.operands])
  simp only [quiet, ho] at hq
  split at hq
  · rename_i fields b off hd e
    rw [e] at hx
    obtain ⟨i, hi, e'⟩ := hx.ptr_inv
    rw [lget_eq] at hq
    split at hq
    · rename_i fd hfd
      split at hq
      · rename_i k hsz
        cases hq
        have hfd' : fields[f]? = some fd := by simpa using hfd
        refine ⟨.pointer (some ⟨i.blk, i.base + (off + fd.offset), none⟩), ?_, VR.ptr hi⟩
        simp [execOp, ho, e', Instr.fieldAt, run_und ok w hd, hfd', Instr.sureAddr, fieldPlace, run_size ok w hsz, Addr.add_lit, Nat.add_assoc]
      · cases hq
    · cases hq
  · cases hq

include ok hρ in
theorem q_indexAddr {t : TypeId} {x ix : Operand} (ho : o.op = .indexAddr t x ix) (hq : quiet C H nx ρ o = some (v, x?)) : QRes C N0 β nx w (execOp ρ' o) v x? := by
  have hx := hρ x (by simp [ho, Op.operands])
  have hi := hρ ix (by simp [ho, Op.operands])
  simp only [quiet, ho] at hq
  split at hq
  · rename_i el b off len c n hd e hnat
    rw [e] at hx
    obtain ⟨i, c', hb, _, e'⟩ := hx.slice_inv
    obtain ⟨k, ek⟩ := hi.nat hnat
    split at hq
    · rename_i sz hlt hsz
      cases hq
      have hlt : n < len := Nat.le_of_ble_eq_true hlt
      have hlt' : (n : Int) < (len : Int) := by omega
      refine ⟨.pointer (some ⟨i.blk, i.base + (off + n * sz), none⟩), ?_, VR.ptr hb⟩
      simp [execOp, ho, e', ek, Instr.indexAt, asIntOf, run_und ok w hd, run_size ok w hsz, Addr.add_lit, Nat.add_assoc, hlt]
    · cases hq
  · rename_i len el b off n hd e hnat
    rw [e] at hx
    obtain ⟨i, hb, e'⟩ := hx.ptr_inv
    obtain ⟨k, ek⟩ := hi.nat hnat
    split at hq
    · rename_i sz hlt hsz
      cases hq
      have hlt : n < len := Nat.le_of_ble_eq_true hlt
      have hlt' : (n : Int) < (len : Int) := by omega
      refine ⟨.pointer (some ⟨i.blk, i.base + (off + n * sz), none⟩), ?_, VR.ptr hb⟩
      simp [execOp, ho, e', ek, Instr.indexAt, asIntOf, run_und ok w hd, run_size ok w hsz, Addr.add_lit, Nat.add_assoc, hlt, Instr.sureAddr]
    · cases hq
  · cases hq


/-! ### cuts -/
theorem ble_false {a b : Nat} (h : b < a) : Nat.ble a b = false := by
  rw [Bool.eq_false_iff]
  intro e
  have := Nat.le_of_ble_eq_true e
  omega

theorem bound_run {x : Value} {n y : Nat} (hx : ∃ k, x = .int k (n : Int)) (hle : n ≤ y) (code : BoundsCode) : (Instr.sliceBound x y code).run C.P w = .ok n w := by
  obtain ⟨k, rfl⟩ := hx
  simp [Instr.sliceBound, asIntOf, hle]

/-- an optional bound stands for a number -/
def BoundR (lo : Option Value) (d n : Nat) : Prop := (lo = none ∧ n = d) ∨ ∃ x k, lo = some x ∧ x = .int k (n : Int)
theorem optNat_spec {lo : Option Operand} (hlo : ∀ x, lo = some x → VR β (ρ x) (ρ' x)) {d n : Nat} (hx : optNat (lo.map ρ) d = some n) : BoundR (lo.map ρ') d n := by
  cases lo with
  | none => simp [optNat] at hx; exact .inl ⟨rfl, hx.symm⟩
  | some x =>
    simp only [Option.map_some, optNat] at hx
    obtain ⟨k, ek⟩ := (hlo x rfl).nat hx
    exact .inr ⟨ρ' x, k, rfl, ek⟩

theorem bounds2_run {b : Bool} {len cap l hh : Nat} {lo hi : Option Value} (h1 : BoundR lo 0 l) (h2 : BoundR hi len hh) (hl : l ≤ hh) (hc : hh ≤ cap) :
    (Instr.sliceBounds b len cap lo hi none).run C.P w = .ok (l, hh, cap) w := by
  rcases h1 with ⟨rfl, rfl⟩ | ⟨x, k, rfl, ex⟩ <;> rcases h2 with ⟨rfl, rfl⟩ | ⟨y, k2, rfl, ey⟩
  · simp [Instr.sliceBounds]
  · simp [Instr.sliceBounds, bound_run ⟨k2, ey⟩ hc]
  · simp [Instr.sliceBounds, bound_run ⟨k, ex⟩ hl]
  · simp [Instr.sliceBounds, bound_run ⟨k, ex⟩ hl, bound_run ⟨k2, ey⟩ hc]

theorem bounds3_run {b : Bool} {len cap l hh m : Nat} {lo : Option Value} {hi mx : Value} (h1 : BoundR lo 0 l) (h2 : ∃ k, hi = .int k (hh : Int)) (h3 : ∃ k, mx = .int k (m : Int)) (hl : l ≤ hh) (hm : hh ≤ m) (hc : m ≤ cap) :
    (Instr.sliceBounds b len cap lo (some hi) (some mx)).run C.P w = .ok (l, hh, m) w := by
  rcases h1 with ⟨rfl, rfl⟩ | ⟨x, k, rfl, ex⟩
  · simp [Instr.sliceBounds, bound_run h2 hm, bound_run h3 hc]
  · simp [Instr.sliceBounds, bound_run ⟨k, ex⟩ hl, bound_run h2 hm, bound_run h3 hc]

include ok h hρ in
theorem q_slice {t : TypeId} {x : Operand} {lo hi mx : Option Operand} (ho : o.op = .slice t x lo hi mx) (hq : quiet C H nx ρ o = some (v, x?)) : QRes C N0 β nx w (execOp ρ' o) v x? := by
  have hx := hρ x (by simp [ho, Op.operands])
  have hlo : ∀ y, lo = some y → VR β (ρ y) (ρ' y) := fun y e => hρ y (by simp [ho, Op.operands, e])
  have hhi : ∀ y, hi = some y → VR β (ρ y) (ρ' y) := fun y e => hρ y (by simp [ho, Op.operands, e])
  have hmx : ∀ y, mx = some y → VR β (ρ y) (ρ' y) := fun y e => hρ y (by simp [ho, Op.operands, e])
  simp only [quiet, ho] at hq
  split at hq
  · split at hq
    · rename_i ha
      exact pureQ_sound (x? := x?) (fun cs b => by simp [ho]) hρ (fun z hz => by
        rw [List.all_eq_true] at ha
        exact ha z (by simpa [ho] using hz)) hq
    · cases hq
  · rename_i a len c e
    rw [e] at hx
    split at hq
    · rename_i el hd
      split at hq
      · rename_i sz l hh m hsz hl hh' hm
        have bl := optNat_spec hlo hl
        have bh := optNat_spec hhi hh'
        split at hq
        · -- no third bound
          rename_i _ hmn
          split at hq
          · rename_i hb
            rw [Bool.and_eq_true] at hb
            have hb1 : l ≤ hh := Nat.le_of_ble_eq_true hb.1
            have hb2 := Nat.le_of_ble_eq_true hb.2
            split at hq
            · -- nil
              cases hq
              obtain ⟨rfl, rfl, e'⟩ := hx.snil_inv
              have hO : Nat.ble OPEN 0 = false := by unfold OPEN; rfl
              simp only [hO] at hb2
              have h1 : hh = 0 := by omega
              have h2 : l = 0 := by omega
              subst h1; subst h2
              have hr := bounds2_run (w := w) (C := C) (b := true) (cap := 0) bl bh (Nat.le_refl _) (Nat.le_refl _)
              refine ⟨.slice none 0 0, ?_, .atom rfl⟩
              simp [execOp, ho, e', Instr.sliceAt, Instr.slice, run_und ok w hd, hr, run_size ok w hsz]
            · rename_i b off
              obtain ⟨i, c', hbi, hcap, e'⟩ := hx.slice_inv
              split at hq
              · -- open
                rename_i hop
                have hop : OPEN ≤ c := Nat.le_of_ble_eq_true hop
                simp only [Nat.ble_eq_true_of_le hop] at hb2
                rcases hcap with ⟨hc1, _⟩ | ⟨hc1, hc2, hc3⟩
                · omega
                have hr := bounds2_run (w := w) (C := C) (b := true) (cap := c') bl bh hb1 (by omega)
                split at hq
                · cases hq
                  refine ⟨.slice (some ⟨i.blk, i.base + off, none⟩) hh c', ?_, VR.slice hbi (.inr ⟨hc1, by omega, hc3⟩)⟩
                  simp [execOp, ho, e', Instr.sliceAt, Instr.slice, run_und ok w hd, hr, run_size ok w hsz, Addr.add_lit]
                · rename_i k
                  split at hq
                  · rename_i hlen
                    have hlen := Nat.eq_of_beq_eq_true hlen
                    cases hq
                    have hhk : hh = k + 1 := by simp only [Nat.succ_eq_add_one] at hb1; omega
                    subst hhk
                    by_cases hne : c' = k + 1
                    · subst hne
                      refine ⟨.slice (some ⟨i.blk, i.base + off, none⟩) 0 0, ?_, .eslice⟩
                      simp [execOp, ho, e', Instr.sliceAt, Instr.slice, run_und ok w hd, hr, run_size ok w hsz]
                    · refine ⟨.slice (some ⟨i.blk, i.base + (off + (k + 1) * sz), none⟩) 0 (c' - (k + 1)), ?_, .eslice⟩
                      simp [execOp, ho, e', Instr.sliceAt, Instr.slice, run_und ok w hd, hr, run_size ok w hsz, Addr.add_lit, hne, Nat.add_assoc]
                  split at hq
                  · rename_i et hlt hget
                    have hlt : k + 1 < len := Nat.le_of_ble_eq_true hlt
                    split at hq
                    · rename_i het
                      have het := Nat.eq_of_beq_eq_true het
                      subst het
                      cases hq
                      obtain ⟨j, hj, hor⟩ := h.obj _ _ hget
                      rw [hbi] at hj
                      cases hj
                      obtain ⟨_, _, _, _, hes⟩ := hor
                      have hes := hes rfl
                      rw [hsz] at hes
                      cases hes
                      refine ⟨.slice (some ⟨i.blk, i.base + (off + (k + 1) * i.esz), none⟩) (hh - (k + 1)) (c' - (k + 1)), ?_, VR.slice hbi (.inr ⟨hc1, by omega, ?_⟩)⟩
                      · have hne : ¬ (c' = k + 1) := by omega
                        simp [execOp, ho, e', Instr.sliceAt, Instr.slice, run_und ok w hd, hr, run_size ok w hsz, Addr.add_lit, hne, Nat.add_assoc]
                      · have : c' * i.esz = (k + 1) * i.esz + (c' - (k + 1)) * i.esz := by rw [← Nat.add_mul]; congr 1; omega
                        omega
                    · cases hq
                  · cases hq
              · rename_i hop
                have hop : c < OPEN := by
                  rcases Nat.lt_or_ge c OPEN with h | h
                  · exact h
                  · rw [Nat.ble_eq_true_of_le h] at hop; cases hop
                rw [ble_false hop] at hb2
                rcases hcap with ⟨_, rfl⟩ | ⟨hc1, _⟩
                · have hr := bounds2_run (w := w) (C := C) (b := true) (cap := c') bl bh hb1 hb2
                  split at hq
                  · rename_i hcl
                    have hcl := Nat.eq_of_beq_eq_true hcl
                    subst hcl
                    cases hq
                    refine ⟨.slice (some ⟨i.blk, i.base + off, none⟩) (hh - c') (c' - c'), ?_, VR.slice hbi (.inl ⟨by omega, rfl⟩)⟩
                    simp [execOp, ho, e', Instr.sliceAt, Instr.slice, run_und ok w hd, hr, run_size ok w hsz]
                  · rename_i hcl
                    have hcl : c' ≠ l := fun e => by rw [e, Nat.beq_refl] at hcl; cases hcl
                    cases hq
                    refine ⟨.slice (some ⟨i.blk, i.base + (off + l * sz), none⟩) (hh - l) (c' - l), ?_, VR.slice hbi (.inl ⟨by omega, rfl⟩)⟩
                    simp [execOp, ho, e', Instr.sliceAt, Instr.slice, run_und ok w hd, hr, run_size ok w hsz, hcl, Addr.add_lit, Nat.add_assoc]
                · omega
            · cases hq
          · cases hq
        · -- a third bound
          rename_i mo hio
          have hm : natOf (ρ mo) = some m := by simpa [optNat] using hm
          have hh' : natOf (ρ hio) = some hh := by simpa [optNat] using hh'
          have bm := (hmx mo rfl).nat hm
          have bh3 := (hhi hio rfl).nat hh'
          split at hq
          · rename_i hb
            simp only [Bool.and_eq_true] at hb
            obtain ⟨hb1, hb2, hb3, hb4⟩ := hb
            have hb4 : m < OPEN := Nat.le_of_ble_eq_true hb4
            have hb1 : l ≤ hh := Nat.le_of_ble_eq_true hb1
            have hb2 : hh ≤ m := Nat.le_of_ble_eq_true hb2
            have hb3 := Nat.le_of_ble_eq_true hb3
            split at hq
            · cases hq
              obtain ⟨rfl, rfl, e'⟩ := hx.snil_inv
              have hO : Nat.ble OPEN 0 = false := by unfold OPEN; rfl
              simp only [hO] at hb3
              have h0 : m = 0 := by omega
              have h1 : hh = 0 := by omega
              have h2 : l = 0 := by omega
              subst h0; subst h1; subst h2
              have hr := bounds3_run (w := w) (C := C) (b := true) (len := 0) (cap := 0) bl bh3 bm (Nat.le_refl _) (Nat.le_refl _) (Nat.le_refl _)
              refine ⟨.slice none 0 0, ?_, .atom rfl⟩
              simp [execOp, ho, e', Instr.sliceAt, Instr.slice, run_und ok w hd, hr, run_size ok w hsz]
            · rename_i b off
              obtain ⟨i, c', hbi, hcap, e'⟩ := hx.slice_inv
              have hmc : m ≤ c' ∧ m < OPEN := by
                rcases hcap with ⟨h1, h2⟩ | ⟨h1, h2, _⟩
                · have := ble_false h1
                  simp only [this] at hb3
                  omega
                · have : Nat.ble OPEN c = true := Nat.ble_eq_true_of_le (by omega)
                  simp only [this] at hb3
                  omega
              have hr := bounds3_run (w := w) (C := C) (b := true) (len := len) (cap := c') bl bh3 bm hb1 hb2 hmc.1
              split at hq
              · rename_i hcl
                have hcl := Nat.eq_of_beq_eq_true hcl
                subst hcl
                cases hq
                refine ⟨.slice (some ⟨i.blk, i.base + off, none⟩) (hh - m) (m - m), ?_, VR.slice hbi (.inl ⟨by omega, rfl⟩)⟩
                simp [execOp, ho, e', Instr.sliceAt, Instr.slice, run_und ok w hd, hr, run_size ok w hsz]
              · rename_i hcl
                have hcl : m ≠ l := fun e => by rw [e, Nat.beq_refl] at hcl; cases hcl
                cases hq
                refine ⟨.slice (some ⟨i.blk, i.base + (off + l * sz), none⟩) (hh - l) (m - l), ?_, VR.slice hbi (.inl ⟨by omega, rfl⟩)⟩
                simp [execOp, ho, e', Instr.sliceAt, Instr.slice, run_und ok w hd, hr, run_size ok w hsz, hcl, Addr.add_lit, Nat.add_assoc]
            · cases hq
          · cases hq
        · cases hq
      · cases hq
    · cases hq
  · rename_i b off e
    rw [e] at hx
    obtain ⟨i, hbi, e'⟩ := hx.ptr_inv
    split at hq
    · rename_i len el hd
      split at hq
      · rename_i sz l hh hsz hl hh' hop
        have hop : len < OPEN := Nat.le_of_ble_eq_true hop
        have bl := optNat_spec hlo hl
        have bh := optNat_spec hhi hh'
        split at hq
        · rename_i hb
          rw [Bool.and_eq_true] at hb
          have hb1 : l ≤ hh := Nat.le_of_ble_eq_true hb.1
          have hb2 : hh ≤ len := Nat.le_of_ble_eq_true hb.2
          have hr := bounds2_run (w := w) (C := C) (b := false) (cap := len) bl bh hb1 hb2
          split at hq
          · rename_i hcl
            have hcl := Nat.eq_of_beq_eq_true hcl
            subst hcl
            cases hq
            refine ⟨.slice (some ⟨i.blk, i.base + off, none⟩) (hh - len) (len - len), ?_, VR.slice hbi (.inl ⟨by omega, rfl⟩)⟩
            simp [execOp, ho, e', Instr.sliceAt, Instr.sureAddr, run_und ok w hd, hr, run_size ok w hsz]
          · rename_i hcl
            have hcl : len ≠ l := fun e => by rw [e, Nat.beq_refl] at hcl; cases hcl
            cases hq
            refine ⟨.slice (some ⟨i.blk, i.base + (off + l * sz), none⟩) (hh - l) (len - l), ?_, VR.slice hbi (.inl ⟨by omega, rfl⟩)⟩
            simp [execOp, ho, e', Instr.sliceAt, Instr.sureAddr, run_und ok w hd, hr, run_size ok w hsz, hcl, Addr.add_lit, Nat.add_assoc]
        · cases hq
      · cases hq
    · cases hq
  · cases hq

end
end Go.Abs
