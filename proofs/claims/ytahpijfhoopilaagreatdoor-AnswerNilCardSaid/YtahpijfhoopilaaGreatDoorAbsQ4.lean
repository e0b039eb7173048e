/-
  THE ABSTRACT MACHINE: its quiet operations, one by one: slices made, tests against nil, conversions, addresses.
-/
import Derived.Test.YtahpijfhoopilaaGreatDoorAbsQ3
import Derived.IntWalk
set_option linter.unusedSectionVars false
set_option linter.unusedVariables false
set_option linter.unusedSimpArgs false
namespace Go.Abs
open Go Go.RowKit
variable [Ops]

section
variable {C : Ctx} (ok : C.Ok) {N0 : Nat} {w0 : World} {β : BM} {H : AHeap} {nx nh : Nat} {w : World} (h : HR C N0 w0 β H nh w) (hn : β nx = none)
variable {ρ ρ' : Operand → Value} {o : Oper} (hρ : ∀ x ∈ o.op.operands, VR β (ρ x) (ρ' x)) {v : Value} {x? : Option AObj}

theorem LR.rep {l l' : List Value} (hl : LR β l l') (n : Nat) : LR β (rep l n []) (List.replicate n l').flatten := by
  rw [rep_eq, List.append_nil]
  exact hl.flatten n

theorem zero_of_mul {a k : Nat} (h : a * (k + 1) = 0) : a = 0 := (Nat.mul_eq_zero.1 h).resolve_right (by omega)

theorem made_cells {z : Value} {s : Nat} (hz : (cellsL z).length = s) (n : Nat) :
    (Array.map (fun i => z.cells[i % z.cells.size]!) (Array.range (n * s))).toList = (List.replicate n z.cells.toList).flatten := by
  have h1 := range_mod z.cells.toList s hz n
  have hs : z.cells.size = s := by rw [← hz]; simp [cellsL]
  rw [hs]
  rw [← h1]
  simp

include ok h hn hρ in
theorem q_buildSlice {t : TypeId} {len : Nat} {parts : Array (Nat × Operand)} (ho : o.op = .buildSlice t len parts) (hq : quiet C H nx ρ o = some (v, x?)) : QRes C N0 β nx w (execOp ρ' o) v x? := by
  have hp : ∀ x ∈ parts.toList, VR β (ρ x.2) (ρ' x.2) := fun x hx => hρ x.2 (by simp [ho, Op.operands]; exact ⟨x.1, by simpa using hx⟩)
  simp only [quiet, ho] at hq
  split at hq
  · rename_i e hd
    split at hq
    · rename_i n z hs hz
      split at hq
      · rename_i k hsm
        rw [Bool.and_eq_true] at hsm
        have hle : len * (k + 1) ≤ 1000 := Nat.le_of_ble_eq_true hsm.1
        have hzs : (cellsL z).length = k + 1 := by have := Nat.eq_of_beq_eq_true hsm.2; simpa [llen_eq] using this
        split at hq
        · rename_i l hf
          cases hq
          have hzl : LR β (cellsL z) z.cells.toList := (VR.of_af (zero_af hz)).cells (isAny_of_af (zero_af hz))
          have hm := made_cells hzs len
          obtain ⟨r', h1, h2⟩ := fill_sound (β := β) (ρ := ρ) (ρ' := ρ') (place := fun i => some (i * (k + 1), k + 1)) (place' := fun i => some (i * (k + 1), k + 1)) (fun i p hip => hip)
            parts.toList _ l (if len * (k + 1) = 0 then #[] else Array.map (fun i => z.cells[i % z.cells.size]!) (Array.range (len * (k + 1)))) hp (by
              split
              · rename_i e0
                have : len = 0 := zero_of_mul e0
                subst this
                simp [Abs.rep]
                exact .nil
              · rw [hm]; exact LR.rep hzl len) hf
          obtain ⟨r'⟩ := r'
          refine ⟨.slice (some ⟨w.heap.size, 0, none⟩) len len, .cells ⟨r'⟩ e, ⟨w.heap.size, 0, r'.length, 0⟩, ?_, rfl, ?_, OR.new h2 hn h.n0 e⟩
          · have hbig : ¬ (16777216 < len * (k + 1)) := by omega
            by_cases e0 : len * (k + 1) = 0
            · simp only [e0, if_true] at h1
              have e1 : len = 0 := zero_of_mul e0
              subst e1
              have e2 : (Array.map (fun _ => (default : Value)) (Array.range 0)) = #[] := by simp
              simp [execOp, ho, Instr.buildSlice, run_und ok w hd, run_size ok w hs, h1, newRow, e2]
            · simp only [e0, if_false] at h1
              have e1 : len ≠ 0 := fun e1 => e0 (by simp [e1])
              simp [execOp, ho, Instr.buildSlice, run_und ok w hd, run_size ok w hs, run_zero ok w hz, hbig, h1, newRow]
              intro e; exact absurd e e0
          · exact VR.slice (i := ⟨w.heap.size, 0, r'.length, 0⟩) (o := 0) (BM.set_same _ _ _) (.inl ⟨by unfold OPEN; have := Nat.le_mul_of_pos_right len (show 0 < k + 1 by omega); omega, rfl⟩)
        · cases hq
      · cases hq
    · cases hq
  · cases hq

theorem natOf_spec {x : Value} {n : Nat} (hx : natOf x = some n) : ∃ k, x = .int k (n : Int) := by
  unfold natOf at hx
  split at hx
  · cases hx; exact ⟨_, rfl⟩
  · cases hx

theorem VR.nat {x x' : Value} (hv : VR β x x') {n : Nat} (hx : natOf x = some n) : ∃ k, x' = .int k (n : Int) := by
  obtain ⟨k, rfl⟩ := natOf_spec hx
  exact ⟨k, hv.int_inv⟩

include ok h hn hρ in
theorem q_makeSlice {t : TypeId} {l c : Operand} (ho : o.op = .makeSlice t l c) (hq : quiet C H nx ρ o = some (v, x?)) : QRes C N0 β nx w (execOp ρ' o) v x? := by
  have hl := hρ l (by simp [ho, Op.operands])
  have hc := hρ c (by simp [ho, Op.operands])
  simp only [quiet, ho] at hq
  split at hq
  · rename_i e len cap hd hln hcn
    split at hq
    · rename_i k z hs hz
      split at hq
      · rename_i hsm
        simp only [Bool.and_eq_true] at hsm
        obtain ⟨⟨h1, h2⟩, h3, h4⟩ := hsm
        have h1 : len ≤ cap := Nat.le_of_ble_eq_true h1
        have h2 : cap ≤ 5000 := Nat.le_of_ble_eq_true h2
        have hzs : (cellsL z).length = k + 1 := by have := Nat.eq_of_beq_eq_true h3; simpa [llen_eq] using this
        cases hq
        obtain ⟨kl, el⟩ := hl.nat hln
        obtain ⟨kc, ec⟩ := hc.nat hcn
        have hzl : LR β (cellsL z) z.cells.toList := (VR.of_af (zero_af hz)).cells (isAny_of_af (zero_af hz))
        have hm := made_cells hzs cap
        obtain ⟨i, hi, his⟩ := size_sound ok hs
        have hby : i.bytes ≤ 100000 := by
          unfold smallElem at h4
          split at h4
          · rename_i j hj
            have := ok.ty _ _ hj
            rw [hi] at this
            cases this
            exact Nat.le_of_ble_eq_true h4
          · cases h4
        have hrow : (if cap * (k + 1) = 0 then (#[] : Array Value) else Array.map (fun i => z.cells[i % z.cells.size]!) (Array.range (cap * (k + 1)))).toList = (List.replicate cap z.cells.toList).flatten := by
          split
          · rename_i e0
            have : cap = 0 := zero_of_mul e0
            subst this
            simp
          · exact hm
        refine ⟨.slice (some ⟨w.heap.size, 0, none⟩) len cap, .cells ⟨(List.replicate cap z.cells.toList).flatten⟩ e, ⟨w.heap.size, 0, (List.replicate cap z.cells.toList).flatten.length, 0⟩, ?_, rfl, ?_, OR.new (LR.rep hzl cap) hn h.n0 e⟩
        · have w1 : IntKind.i64.wrap (len : Int) = len := IntWalk.i64_in _ (by omega)
          have w2 : IntKind.i64.wrap (cap : Int) = cap := IntWalk.i64_in _ (by omega)
          have hmul : (i.bytes : Int) * (cap : Int) ≤ 500000000 := by
            have : i.bytes * cap ≤ 100000 * 5000 := Nat.mul_le_mul hby h2
            rw [← Int.natCast_mul]
            omega
          have hz1 : (zeroValue e).run C.P w = .ok z w := run_zero ok w hz
          have hinfo : (typeInfo e).run C.P w = .ok i w := by simp [typeInfo, hi]
          have t1 : ¬ ((cap : Int) < 0) := by omega
          have t2 : ¬ ((len : Int) < 0) := by omega
          have t3 : ¬ (281474976710656 < (i.bytes : Int) * (cap : Int)) := by omega
          have t4 : ¬ ((cap : Int) < (len : Int)) := by omega
          have hrow' : (if cap * (k + 1) = 0 then (#[] : Array Value) else Array.map (fun i => z.cells[i % z.cells.size]!) (Array.range (cap * (k + 1)))) = ⟨(List.replicate cap z.cells.toList).flatten⟩ := by
            apply Array.ext'
            rw [hrow]
          by_cases e0 : cap * (k + 1) = 0
          · simp only [e0, if_true] at hrow'
            have e1 : cap = 0 := zero_of_mul e0
            subst e1
            have e2 : len = 0 := by omega
            subst e2
            have w0 : IntKind.i64.wrap 0 = 0 := IntWalk.i64_in _ (by omega)
            simp [execOp, ho, Instr.makeSlice, run_und ok w hd, el, ec, asInt, asIntOf, hinfo, w0, run_size ok w hs, newRow]
            have e2 : (Array.map (fun _ => (default : Value)) (Array.range 0)) = #[] := by simp
            rw [e2]
          · simp only [e0, if_false] at hrow'
            have e1 : cap ≠ 0 := fun e1 => e0 (by simp [e1])
            simp [execOp, ho, Instr.makeSlice, run_und ok w hd, el, ec, asInt, asIntOf, hinfo, w1, w2, t1, t2, t3, t4, run_size ok w hs, hz1, newRow, hrow']
            intro e; exact absurd e e0
        · exact VR.slice (o := 0) (BM.set_same _ _ _) (.inl ⟨by unfold OPEN; omega, rfl⟩)
      · cases hq
    · cases hq
  · cases hq


/-! ### tests against nil -/
section guards
variable {op : BinOp} {t : TypeId} {x y : Operand} {b : Value}
theorem guard_ptr {p : Option Addr} : (eqGuard op t x y (.pointer p) b).run C.P w = .ok () w := by cases op <;> simp [eqGuard]
theorem guard_slice {p : Option Addr} {l c : Nat} : (eqGuard op t x y (.slice p l c) b).run C.P w = .ok () w := by cases op <;> simp [eqGuard]
theorem guard_map {p : Option Nat} : (eqGuard op t x y (.map p) b).run C.P w = .ok () w := by cases op <;> simp [eqGuard]
theorem guard_func {f : Fn} {a c : Array Value} : (eqGuard op t x y (.func f a c) b).run C.P w = .ok () w := by cases op <;> simp [eqGuard]
theorem guard_nilFunc : (eqGuard op t x y .nilFunc b).run C.P w = .ok () w := by cases op <;> simp [eqGuard]
theorem guard_iface {u : TypeId} {v : Value} : (eqGuard op t x y (.iface u v) b).run C.P w = .ok () w := by cases op <;> simp [eqGuard]
theorem guard_nilIface {u : TypeId} {v : Value} : (eqGuard op t x y .nilIface (.iface u v)).run C.P w = .ok () w := by cases op <;> simp [eqGuard]
end guards

theorem samePtr_none {b : Option Addr} : (samePointer none b).run C.P w = .ok b.isNone w := by
  cases b <;> simp [samePointer]
theorem samePtr_none' {a : Addr} : (samePointer (some a) none).run C.P w = .ok false w := by
  simp [samePointer]
theorem sameAddr_blk {a b : Addr} (h : a.block = b.block) : (sameAddr a b).run C.P w = .ok (a == b) w := by
  simp [sameAddr, h]

include ok in
theorem equal_nil {op : BinOp} {x y : Operand} {t : TypeId} {d : TypeDesc} (hd : und C t = some d) {a b a' b' : Value} (hnd : nilD C d a = true) (hni : bothNilIface a b = false)
    (ha : VR β a a') (hb : VR β b b') {r : Bool} (hr : nilEq a b = some r) (n : Nat) :
    (eqGuard op t x y a' b').run C.P w = .ok () w ∧ (Op.equalIn (n + 1) t a' b').run C.P w = .ok r w := by
  have hu := run_und ok w hd
  unfold nilEq at hr
  split at hr
  · rename_i b1
    cases hr
    rw [ha.pnil_inv]
    refine ⟨guard_ptr, ?_⟩
    cases b1 with
    | none =>
      rw [hb.pnil_inv]
      cases d <;> first | (simp [nilD] at hnd; done) | (simp [Op.equalIn, hu, samePtr_none]; done)
    | some p =>
      obtain ⟨b0, o0, i0, _, _, e⟩ := hb.pointer_inv
      rw [e]
      cases d <;> first | (simp [nilD] at hnd; done) | (simp [Op.equalIn, hu, samePtr_none]; done)
  · cases hr
    obtain ⟨b0, o0, i0, _, _, e⟩ := ha.pointer_inv
    rw [e, hb.pnil_inv]
    refine ⟨guard_ptr, ?_⟩
    cases d <;> first | (simp [nilD] at hnd; done) | (simp [Op.equalIn, hu, samePtr_none']; done)
  · rename_i b1 _ _
    cases hr
    obtain ⟨_, _, e⟩ := ha.snil_inv
    rw [e]
    refine ⟨guard_slice, ?_⟩
    cases b1 with
    | none =>
      obtain ⟨_, _, e⟩ := hb.snil_inv
      rw [e]
      cases d <;> first | (simp [nilD] at hnd; done) | (simp [Op.equalIn, hu]; done)
    | some p =>
      obtain ⟨_, _, e⟩ := hb.slc_any
      rw [e]
      cases d <;> first | (simp [nilD] at hnd; done) | (simp [Op.equalIn, hu]; done)
  · cases hr
    obtain ⟨_, _, e⟩ := ha.slc_any
    obtain ⟨_, _, e'⟩ := hb.snil_inv
    rw [e, e']
    refine ⟨guard_slice, ?_⟩
    cases d <;> first | (simp [nilD] at hnd; done) | (simp [Op.equalIn, hu]; done)
  · rename_i b1
    cases hr
    rw [ha.mnil_inv]
    refine ⟨guard_map, ?_⟩
    cases b1 with
    | none =>
      rw [hb.mnil_inv]
      cases d <;> first | (simp [nilD] at hnd; done) | (simp [Op.equalIn, hu]; done)
    | some p =>
      obtain ⟨i0, _, e⟩ := hb.map_inv
      rw [e]
      cases d <;> first | (simp [nilD] at hnd; done) | (simp [Op.equalIn, hu]; done)
  · cases hr
    obtain ⟨i0, _, e⟩ := ha.map_inv
    rw [e, hb.mnil_inv]
    refine ⟨guard_map, ?_⟩
    cases d <;> first | (simp [nilD] at hnd; done) | (simp [Op.equalIn, hu]; done)
  · cases hr
    obtain ⟨f', a1, c1, e⟩ := hb.anyFunc_inv
    rw [e, ha.nilFunc_inv]
    refine ⟨guard_nilFunc, ?_⟩
    cases d <;> first | (simp [nilD] at hnd; done) | (simp [Op.equalIn, hu]; done)
  · cases hr
    obtain ⟨f', a1, c1, e⟩ := ha.anyFunc_inv
    rw [e, hb.nilFunc_inv]
    refine ⟨guard_func, ?_⟩
    cases d <;> first | (simp [nilD] at hnd; done) | (simp [Op.equalIn, hu]; done)
  · cases hr
    rw [ha.nilFunc_inv, hb.nilFunc_inv]
    refine ⟨guard_nilFunc, ?_⟩
    cases d <;> first | (simp [nilD] at hnd; done) | (simp [Op.equalIn, hu]; done)
  · cases hr
    obtain ⟨u, _, e⟩ := hb.iface_inv
    rw [e, ha.nilIface_inv]
    refine ⟨guard_nilIface, ?_⟩
    cases d <;> first | (simp [nilD] at hnd; done) | (simp [Op.equalIn, hu]; done)
  · cases hr
    obtain ⟨u, _, e⟩ := ha.iface_inv
    rw [e, hb.nilIface_inv]
    refine ⟨guard_iface, ?_⟩
    cases d <;> first | (simp [nilD] at hnd; done) | (simp [Op.equalIn, hu]; done)
  · simp [bothNilIface] at hni
  · rename_i p q
    split at hr
    · rename_i hpq
      cases hr
      obtain ⟨b0, o0, i0, rfl, h0, e⟩ := ha.pointer_inv
      obtain ⟨b1, o1, i1, rfl, h1, e'⟩ := hb.pointer_inv
      simp only [beq_iff_eq] at hpq
      subst hpq
      rw [h0] at h1
      cases h1
      rw [e, e']
      refine ⟨guard_ptr, ?_⟩
      have hs : (sameAddr (⟨i0.blk, i0.base + o0, none⟩ : Addr) ⟨i0.blk, i0.base + o1, none⟩).run C.P w = .ok ((⟨i0.blk, i0.base + o0, none⟩ : Addr) == ⟨i0.blk, i0.base + o1, none⟩) w := sameAddr_blk rfl
      have hb : ((⟨i0.blk, i0.base + o0, none⟩ : Addr) == ⟨i0.blk, i0.base + o1, none⟩) = ((⟨b0, o0, none⟩ : Addr) == ⟨b0, o1, none⟩) := by
        rw [Bool.eq_iff_iff]; simp
      cases d <;> first | (simp [nilD] at hnd; done) | (simp [Op.equalIn, hu, samePointer, hs]; simp [hb]; done) | skip
      rename_i el
      simp only [nilD] at hnd
      split at hnd
      · rename_i k hk
        have hsz := run_size ok w hk
        simp [Op.equalIn, hu, hsz, hs]
        simp [hb]
      · cases hnd
    · cases hr
  · cases hr

end
end Go.Abs
