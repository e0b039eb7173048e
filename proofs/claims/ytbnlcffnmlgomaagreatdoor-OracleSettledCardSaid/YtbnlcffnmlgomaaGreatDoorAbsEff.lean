/-
  THE ABSTRACT MACHINE: its other operations: what is stored.
-/
import Derived.Test.YtbnlcffnmlgomaaGreatDoorAbsQ6
set_option linter.unusedSectionVars false
set_option linter.unusedVariables false
set_option linter.unusedSimpArgs false
namespace Go.Abs
open Go Go.RowKit
variable [Ops]

/-- a row with a segment that is another one -/
theorem get_seg {α : Type} (l vs : List α) (o j : Nat) (ho : o + vs.length ≤ l.length) :
    (l.take o ++ vs ++ l.drop (o + vs.length))[j]? = if j < o then l[j]? else if j < o + vs.length then vs[j - o]? else l[j]? := by
  have h1 : (l.take o).length = o := by rw [List.length_take]; omega
  by_cases a : j < o
  · rw [if_pos a, List.append_assoc, List.getElem?_append_left (by omega), List.getElem?_take, if_pos a]
  · rw [if_neg a]
    by_cases b : j < o + vs.length
    · rw [if_pos b, List.getElem?_append_left (by rw [List.length_append]; omega), List.getElem?_append_right (by omega), h1]
    · rw [if_neg b, List.getElem?_append_right (by rw [List.length_append]; omega), List.length_append, h1, List.getElem?_drop]
      congr 1
      omega

theorem setCells_heap (b : Nat) : ∀ (vs : List Value) (o : Nat) (w : World) (c : Array Value) (et : TypeId) (fz : Nat × Nat), w.heap[b]? = some (.cells c et fz) → o + vs.length ≤ c.size →
    (∃ c' : Array Value, (w.setCells b o vs).heap[b]? = some (.cells c' et fz) ∧ c'.toList = c.toList.take o ++ vs ++ c.toList.drop (o + vs.length)) ∧
    (w.setCells b o vs).heap.size = w.heap.size ∧ (∀ k, k ≠ b → (w.setCells b o vs).heap[k]? = w.heap[k]?) ∧ ∀ N, N ≤ b → Below N w (w.setCells b o vs)
  | [], o, w, c, et, fz, h, _ => ⟨⟨c, h, by simp⟩, rfl, fun _ _ => rfl, fun _ _ => Below.refl _ _⟩
  | v :: r, o, w, c, et, fz, h, hl => by
    simp only [List.length_cons] at hl
    have h1 : (w.setCell ⟨b, o, none⟩ v).heap[b]? = some (.cells (c.setIfInBounds o v) et fz) := by
      simp [World.setCell, Array.getElem?_modify, h]
    obtain ⟨⟨c', e1, e2⟩, e3, e4, e5⟩ := setCells_heap b r (o + 1) _ _ _ _ h1 (by simp; omega)
    refine ⟨⟨c', e1, ?_⟩, ?_, fun k hk => ?_, fun N hN => ?_⟩
    · rw [e2]
      have hf := foldl_put o (v :: r) 0 c (by simp; omega)
      simp only [Array.toList_setIfInBounds]
      have hk : o < c.toList.length := by simp; omega
      have e1 : List.take (o + 1) (c.toList.set o v) = c.toList.take o ++ [v] := by
        have hk2 : o ≤ c.size := by omega
        rw [List.set_eq_take_append_cons_drop, if_pos hk, List.take_append, List.length_take, Nat.min_eq_left (by simpa using hk2), show o + 1 - o = 1 from by omega]
        simp [List.take_take]
      have e2 : List.drop (o + 1 + r.length) (c.toList.set o v) = c.toList.drop (o + 1 + r.length) := by rw [List.drop_set_of_lt (by omega)]
      rw [e1, e2, List.length_cons, show o + (r.length + 1) = o + 1 + r.length from by omega]
      simp
    · rw [World.setCells, e3]; simp
    · rw [World.setCells, e4 k hk, Below.heap_setCell _ _ _ _ hk]
    · exact ((Below.refl N w).setCell (p := ⟨b, o, none⟩) hN v).trans (e5 N hN)

section
variable {C : Ctx} (ok : C.Ok) {N0 : Nat} {w0 : World} {β : BM} {H : AHeap} {nx : Nat} {w : World}

/-- cells of a live block that may be written are written -/
theorem store_sound (h : HR C N0 w0 β H nx w) (hnx : nx < LIMIT) {b : Nat} {l l2 vs vs' : List Value} {et : TypeId} {kind : Nat} {i : BI} (hg : H.get b = some (.cells l et kind)) (hb : β b = some i)
    (hk : kind < 2) {o : Nat} (hput : lput? l o vs = some l2) (hv : LR β vs vs') (h1 : ∀ v ∈ vs', v.oneCell' = true) :
    ∃ w', (storeCells ⟨i.blk, i.base + o, none⟩ vs').run C.P w = .ok () w' ∧ HR C N0 w0 β (Abs.hput H b (.cells l2 et kind)) nx w' := by
  obtain ⟨j, hj, c, fz, hc, hcr, hes⟩ := h.obj _ _ hg
  rw [hb] at hj
  cases hj
  obtain ⟨hle, rfl⟩ := lput?_spec hput
  have hlen : vs.length = vs'.length := hv.length
  have hsz : i.base + o + vs'.length ≤ c.size ∨ vs'.length = 0 := by
    rcases Nat.eq_zero_or_pos vs'.length with e | e
    · exact .inr e
    · left
      have hlt : o + vs.length - 1 < l.length := by omega
      obtain ⟨v', hv', _⟩ := hcr.get (o + vs.length - 1) l[o + vs.length - 1] (by simp [hlt])
      rcases Nat.lt_or_ge (i.base + (o + vs.length - 1)) c.size with h | h
      · omega
      · rw [Array.getElem?_eq_none h] at hv'; cases hv'
  rcases hsz with hsz | h0
  · have hcell : ∀ j, j < c.size → w.cell? ⟨i.blk, j, none⟩ = c[j]? := fun j _ => cell?_cells hc j
    have hrun := run_storeCells_cells (P := C.P) i.blk (i.base + o) vs' 0 w (fun j hj => by
        rw [cell?_cells hc]
        simp
        omega) (fun j hj => by
        have := hcr.free hk (i.base + o + 0 + j) (by omega)
        simp only [World.frozen?, hc]
        simp at this ⊢
        omega) h1
    refine ⟨_, hrun, ?_⟩
    simp only [Nat.add_zero]
    obtain ⟨⟨c', e1, e2⟩, e3, e4, e5⟩ := setCells_heap i.blk vs' (i.base + o) w c et fz hc hsz
    have hc's : c'.size = c.size := by
      have := congrArg List.length e2
      simp at this
      omega
    refine h.update hnx hg hb e3 e4 (e5 N0 (hcr.own hk)) ⟨c', fz, e1, ⟨by rw [hc's, hcr.size], fun j v hj => ?_, fun hk j hj => hcr.free hk j (by omega), hcr.own, fun h0 => ?_⟩, hes⟩
    · rw [get_seg _ _ _ _ hle] at hj
      rw [← Array.getElem?_toList, e2, get_seg _ _ _ _ (by simpa using hsz)]
      by_cases a : j < o
      · rw [if_pos a] at hj
        obtain ⟨v', h2, h3⟩ := hcr.get _ _ hj
        exact ⟨v', by rw [if_pos (by omega), Array.getElem?_toList]; exact h2, h3⟩
      · rw [if_neg a] at hj
        by_cases b : j < o + vs.length
        · rw [if_pos b] at hj
          obtain ⟨v', h2, h3⟩ := hv.get hj
          exact ⟨v', by rw [if_neg (by omega), if_pos (by omega), show i.base + j - (i.base + o) = j - o from by omega]; exact h2, h3⟩
        · rw [if_neg b] at hj
          obtain ⟨v', h2, h3⟩ := hcr.get _ _ hj
          exact ⟨v', by rw [if_neg (by omega), if_neg (by omega), Array.getElem?_toList]; exact h2, h3⟩
    · obtain ⟨h2, h3⟩ := hcr.whole h0
      refine ⟨h2, ?_⟩
      rw [hc's, h3]
      simp
      omega
  · have e0 : vs' = [] := List.length_eq_zero_iff.1 h0
    subst e0
    have e1 : vs = [] := List.length_eq_zero_iff.1 (by omega)
    subst e1
    refine ⟨w, by simp [storeCells], ?_⟩
    refine h.update hnx hg hb rfl (fun _ _ => rfl) (Below.refl _ _) ?_
    rw [List.length_nil, Nat.add_zero, List.append_nil, List.take_append_drop]
    exact ⟨c, fz, hc, hcr, hes⟩


theorem VR.yield_inv {l : Nat} {v' : Value} (hv : VR β (.func (.yield l) ⟨[]⟩ ⟨[]⟩) v') : ∃ i, β l = some i ∧ v' = .func (.yield i.blk) ⟨[]⟩ ⟨[]⟩ := by
  cases hv with
  | atom hb => simp [Abs.atom] at hb
  | yield hb => exact ⟨_, hb, rfl⟩

/-- what an operation comes to -/
def ERes (C : Ctx) (N0 : Nat) (w0 : World) (β : BM) (nx : Nat) (w : World) (s : Sem Next) : Eff → Prop
  | .val v H' nx' => ∃ n v' w' β', s.run C.P w = .ok n w' ∧ (n = .value v' ∨ (n = .skip ∧ v' = undef)) ∧ BM.ext nx β β' ∧ HR C N0 w0 β' H' nx' w' ∧ VR β' v v'
  | .enter f args => ∃ args', LR β args args' ∧ s.run C.P w = (callFunc f ⟨args'⟩).run C.P w
  | .round l args => ∃ args' i, β l = some i ∧ LR β args args' ∧ s.run C.P w = (Instr.yield i.blk ⟨args'⟩).run C.P w
  | .defer d => ∃ d', s.run C.P w = .ok (.defer d') w ∧ DR β d d'
  | .recover => s.run C.P w = .ok .recover w

variable (h : HR C N0 w0 β H nx w) (hnx : nx < LIMIT) {ρ ρ' : Operand → Value} {o : Oper} (hρ : ∀ x ∈ o.op.operands, VR β (ρ x) (ρ' x)) {e : Eff}

include ok h hnx hρ in
theorem e_store {t : TypeId} {a x : Operand} (ho : o.op = .store t a x) (hq : effect C H nx ρ o = some e) : ERes C N0 w0 β nx w (execOp ρ' o) e := by
  have ha := hρ a (by simp [ho, Op.operands])
  have hx := hρ x (by simp [ho, Op.operands])
  simp only [effect, ho] at hq
  split at hq
  · rename_i b off n ea hs
    rw [ea] at ha
    obtain ⟨i, hi, e'⟩ := ha.ptr_inv
    split at hq
    · rename_i l et kind hc hg
      rw [Bool.and_eq_true] at hc
      have hlen : (cellsL (ρ x)).length = n := by have := Nat.eq_of_beq_eq_true hc.1; simpa [llen_eq] using this
      split at hq
      · rename_i l2 hk hput
        cases hq
        have hk : kind < 2 := Nat.le_of_ble_eq_true hk
        have hcl := hx.cells (isAny_of_one hc.2)
        have h1 : ∀ u ∈ (ρ' x).cells.toList, u.oneCell' = true := fun u hu => by
          obtain ⟨j, hj, rfl⟩ := List.mem_iff_getElem.1 hu
          have hj' : j < (cellsL (ρ x)).length := by rw [hcl.length]; exact hj
          obtain ⟨v', e1, e2⟩ := hcl.get (j := j) (v := (cellsL (ρ x))[j]) (by simp [hj'])
          have : (ρ' x).cells.toList[j] = v' := by
            rw [List.getElem?_eq_getElem hj] at e1
            exact Option.some.inj e1
          rw [this]
          refine e2.oneCell ?_
          have := hc.2
          rw [List.all_eq_true] at this
          exact this _ (List.getElem_mem hj')
        obtain ⟨w', hrun, hh⟩ := store_sound h hnx hg hi hk hput hcl h1
        refine ⟨.skip, undef, w', β, ?_, .inr ⟨rfl, rfl⟩, BM.ext_refl _ _, hh, VR.undef⟩
        have hsz : (ρ' x).cells.size = n := by rw [← hlen, hcl.length]; simp
        simp [execOp, ho, e', Instr.storeAt, Instr.sureAddr, storeVar, run_size ok w hs, hsz, hrun]
      · cases hq
    · cases hq
  · cases hq

include hρ in
theorem e_value {c : Call} {f : Operand} (ho : o.op = .call c) (hc : c.callee = .value f) (hq : effect C H nx ρ o = some e) : ERes C N0 w0 β nx w (execOp ρ' o) e := by
  have hf := hρ f (by simp [ho, Op.operands, Call.operands, hc])
  have hargs : ∀ x ∈ c.args.toList, VR β (ρ x) (ρ' x) := fun x hx => hρ x (by simp only [ho, Op.operands, Call.operands]; exact Array.mem_append.2 (.inr (by simpa using hx)))
  have hl := LR.map c.args.toList hargs
  have ea : c.args.map ρ' = ⟨c.args.toList.map ρ'⟩ := by apply Array.ext'; simp
  simp only [effect, ho, hc, callV] at hq
  split at hq
  · rename_i g first captured ef
    rw [ef] at hf
    obtain ⟨a', c', h1, h2, e'⟩ := hf.func_inv
    cases hq
    refine ⟨a' ++ c.args.toList.map ρ' ++ c', (h1.append hl).append h2, ?_⟩
    simp [execOp, ho, hc, resolve, e', Deferred.ofValue, invoke, ea]
  · rename_i l ef
    rw [ef] at hf
    cases hq
    obtain ⟨i, hb, e'⟩ := hf.yield_inv
    refine ⟨c.args.toList.map ρ', i, hb, hl, ?_⟩
    simp [execOp, ho, hc, resolve, e', Deferred.ofValue, invoke, ea]
  · cases hq

include hρ in
theorem e_defer {c : Call} (ho : o.op = .defer c) (hq : effect C H nx ρ o = some e) : ERes C N0 w0 β nx w (execOp ρ' o) e := by
  have hargs : ∀ x ∈ c.args.toList, VR β (ρ x) (ρ' x) := fun x hx => hρ x (by simp only [ho, Op.operands, Call.operands]; exact Array.mem_append.2 (.inr (by simpa using hx)))
  have hl := LR.map c.args.toList hargs
  have ea : c.args.map ρ' = ⟨c.args.toList.map ρ'⟩ := by apply Array.ext'; simp
  simp only [effect, ho] at hq
  split at hq
  · rename_i f hc
    have hf := hρ f (by simp [ho, Op.operands, Call.operands, hc])
    split at hq
    · rename_i g first captured ef
      rw [ef] at hf
      obtain ⟨captured⟩ := captured
      obtain ⟨a', c', h1, h2, e'⟩ := hf.func_inv
      cases hq
      refine ⟨⟨.fn (.func g) ⟨c'⟩, ⟨a' ++ c.args.toList.map ρ'⟩⟩, ?_, .fn h2 (h1.append hl)⟩
      simp [execOp, ho, hc, resolve, e', Deferred.ofValue, ea]
    · cases hq
  · cases hq

theorem e_recover {c : Call} (ho : o.op = .call c) (hc : c.callee = .builtin .recover) (hq : effect C H nx ρ o = some e) : ERes C N0 w0 β nx w (execOp ρ' o) e := by
  simp only [effect, ho, hc] at hq
  cases hq
  show (execOp ρ' o).run C.P w = .ok .recover w
  simp [execOp, ho, hc, resolve, invoke, builtin]

end
end Go.Abs

/-
  THE ABSTRACT MACHINE: its other operations: append.
-/
namespace Go.Abs
open Go Go.RowKit
variable [Ops]

section
variable {C : Ctx} (ok : C.Ok) {N0 : Nat} {w0 : World} {β : BM} {H : AHeap} {nx : Nat} {w : World}

def notInt : TypeDesc → Bool
  | .slice _ | .string => true
  | _ => false
theorem notInt_cases {d : TypeDesc} (h : notInt d = true) : (∃ x, d = .slice x) ∨ d = .string := by
  unfold notInt at h
  split at h
  · exact .inl ⟨_, rfl⟩
  · exact .inr rfl
  · cases h

include ok in
theorem append_run_fits {t u e : TypeId} {du : TypeDesc} (ht : und C t = some (.slice e)) (hu : und C u = some du) (hdu : notInt du = true) {sz : Nat} (hs : size? C e = some sz)
    {x' : Value} {n : Nat} (hlen : (Builtin.lenOf x').run C.P w = .ok n w) {new' : Array Value} (hcells : (Builtin.firstCells sz n x').run C.P w = .ok new' w)
    {sLen sCap : Nat} (hfit : sLen + n ≤ sCap) {a : Addr} {w' : World} (hst : (storeCells (a.add (sLen * sz)) new'.toList).run C.P w = .ok () w') (ty : TypeId) :
    (Builtin.append_ #[t, u] ty #[.slice (some a) sLen sCap, x']).run C.P w = .ok (.slice (some a) (sLen + n) sCap) w' := by
  have hu' := run_und ok w hu
  rcases notInt_cases hdu with ⟨x, rfl⟩ | rfl <;> simp [Builtin.append_, run_und ok w ht, hu', run_size ok w hs, hlen, hcells, hfit, hst]

include ok in
theorem append_run_none {t u e : TypeId} {du : TypeDesc} (ht : und C t = some (.slice e)) (hu : und C u = some du) (hdu : notInt du = true) {sz : Nat} (hs : size? C e = some sz)
    {x' : Value} (hlen : (Builtin.lenOf x').run C.P w = .ok 0 w) {new' : Array Value} (hcells : (Builtin.firstCells sz 0 x').run C.P w = .ok new' w) (ty : TypeId) :
    (Builtin.append_ #[t, u] ty #[.slice none 0 0, x']).run C.P w = .ok (.slice none 0 0) w := by
  have hu' := run_und ok w hu
  rcases notInt_cases hdu with ⟨x, rfl⟩ | rfl <;> simp [Builtin.append_, run_und ok w ht, hu', run_size ok w hs, hlen, hcells]

theorem cap_cut (w : World) (need old : Nat) (e : TypeId) : need ≤ grownCap w need old e := grownCap_ge w need old e

include ok in
theorem append_run_grow {t u e : TypeId} {du : TypeDesc} (ht : und C t = some (.slice e)) (hu : und C u = some du) (hdu : notInt du = true) {sz : Nat} (hs : size? C e = some sz)
    {z : Value} (hz : zero? C e = some z) (hsm : smallElem C e = true)
    {x' : Value} {n : Nat} (hlen : (Builtin.lenOf x').run C.P w = .ok n w) {new' : Array Value} (hcells : (Builtin.firstCells sz n x').run C.P w.drew = .ok new' w.drew)
    {base : Option Addr} {sLen sCap : Nat} (hgrow : sCap < sLen + n) (hsmall : sLen + n ≤ 1000000) {old' : Array Value} (hold : (Builtin.firstCells sz sLen (.slice base sLen sCap)).run C.P w.drew = .ok old' w.drew) (ty : TypeId) :
    (Builtin.append_ #[t, u] ty #[.slice base sLen sCap, x']).run C.P w =
      .ok (.slice (some ⟨w.heap.size, 0, none⟩) (sLen + n) (grownCap w (sLen + n) sCap e)) (w.drew.alloc (.cells (old' ++ new' ++ Builtin.zeroCells z.cells (grownCap w (sLen + n) sCap e - (sLen + n))) e)) := by
  have hu' := run_und ok w hu
  obtain ⟨i, hi, _⟩ := size_sound ok hs
  have hby : i.bytes ≤ 100000 := by
    unfold smallElem at hsm
    split at hsm
    · rename_i j hj
      have := ok.ty _ _ hj
      rw [hi] at this
      cases this
      exact Nat.le_of_ble_eq_true hsm
    · cases hsm
  have hinfo : (typeInfo e).run C.P w = .ok i w := by simp [typeInfo, hi]
  have hinfo' : (typeInfo e).run C.P w.drew = .ok i w.drew := by simp [typeInfo, hi]
  have hn : ¬ (sLen + n ≤ sCap) := by omega
  have h63 : ¬ (9223372036854775807 < ((sLen : Int) + (n : Int))) := by omega
  have hnc : Builtin.nextslicecap (sLen + n) sCap * i.bytes ≤ 2000000 * 100000 := Nat.mul_le_mul (Nat.le_trans (nextslicecap_le hgrow) (by omega)) hby
  have h48 : ¬ (281474976710656 < Builtin.nextslicecap (sLen + n) sCap * i.bytes) := by omega
  have hz' := run_zero ok w.drew hz
  rcases notInt_cases hdu with ⟨x, rfl⟩ | rfl <;> simp [Builtin.append_, run_und ok w ht, hu', run_size ok w hs, hlen, hn, h63, h48, hinfo, hinfo', Question.forced, hcells, hold, hz', newRow, grownCap]

end
end Go.Abs
