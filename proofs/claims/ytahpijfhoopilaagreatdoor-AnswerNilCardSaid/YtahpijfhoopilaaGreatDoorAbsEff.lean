/-
  THE ABSTRACT MACHINE: its other operations: what is stored.
-/
import Derived.Test.YtahpijfhoopilaaGreatDoorAbsQ6
set_option linter.unusedSectionVars false
set_option linter.unusedVariables false
set_option linter.unusedSimpArgs false
namespace Go.Abs
open Go Go.RowKit
variable [Ops]

/-- a row with a segment that is another one -/
theorem get_seg {α : Type} (l vs : List α) (o j : Nat) (ho : o + vs.length ≤ l.length) :
    (l.take o ++ vs ++ l.drop (o + vs.length))[j]? = if j < o then l[j]? else if j < o + vs.length then vs[j - o]? else l[j]? := by
  have h1 : (l.take o).length = o := by rw [List.length_take]; omega
  by_cases a : j < o
  · rw [if_pos a, List.append_assoc, List.getElem?_append_left (by omega), List.getElem?_take, if_pos a]
  · rw [if_neg a]
    by_cases b : j < o + vs.length
    · rw [if_pos b, List.getElem?_append_left (by rw [List.length_append]; omega), List.getElem?_append_right (by omega), h1]
    · rw [if_neg b, List.getElem?_append_right (by rw [List.length_append]; omega), List.length_append, h1, List.getElem?_drop]
      congr 1
      omega

theorem setCells_heap (b : Nat) : ∀ (vs : List Value) (o : Nat) (w : World) (c : Array Value) (et : TypeId) (fz : Nat × Nat), w.heap[b]? = some (.cells c et fz) → o + vs.length ≤ c.size →
    (∃ c' : Array Value, (w.setCells b o vs).heap[b]? = some (.cells c' et fz) ∧ c'.toList = c.toList.take o ++ vs ++ c.toList.drop (o + vs.length)) ∧
    (w.setCells b o vs).heap.size = w.heap.size ∧ (∀ k, k ≠ b → (w.setCells b o vs).heap[k]? = w.heap[k]?) ∧ ∀ N, N ≤ b → Below N w (w.setCells b o vs)
  | [], o, w, c, et, fz, h, _ => ⟨⟨c, h, by simp⟩, rfl, fun _ _ => rfl, fun _ _ => Below.refl _ _⟩
  | v :: r, o, w, c, et, fz, h, hl => by
    simp only [List.length_cons] at hl
    have h1 : (w.setCell ⟨b, o, none⟩ v).heap[b]? = some (.cells (c.setIfInBounds o v) et fz) := by
      simp [World.setCell, Array.getElem?_modify, h]
    obtain ⟨⟨c', e1, e2⟩, e3, e4, e5⟩ := setCells_heap b r (o + 1) _ _ _ _ h1 (by simp; omega)
    refine ⟨⟨c', e1, ?_⟩, ?_, fun k hk => ?_, fun N hN => ?_⟩
    · rw [e2]
      have hf := foldl_put o (v :: r) 0 c (by simp; omega)
      simp only [Array.toList_setIfInBounds]
      have hk : o < c.toList.length := by simp; omega
      have e1 : List.take (o + 1) (c.toList.set o v) = c.toList.take o ++ [v] := by
        have hk2 : o ≤ c.size := by omega
        rw [List.set_eq_take_append_cons_drop, if_pos hk, List.take_append, List.length_take, Nat.min_eq_left (by simpa using hk2), show o + 1 - o = 1 from by omega]
        simp [List.take_take]
      have e2 : List.drop (o + 1 + r.length) (c.toList.set o v) = c.toList.drop (o + 1 + r.length) := by rw [List.drop_set_of_lt (by omega)]
      rw [e1, e2, List.length_cons, show o + (r.length + 1) = o + 1 + r.length from by omega]
      simp
    · rw [World.setCells, e3]; simp
    · rw [World.setCells, e4 k hk, Below.heap_setCell _ _ _ _ hk]
    · exact ((Below.refl N w).setCell (p := ⟨b, o, none⟩) hN v).trans (e5 N hN)

section
variable {C : Ctx} (ok : C.Ok) {N0 : Nat} {w0 : World} {β : BM} {H : AHeap} {nx : Nat} {w : World}

/-- cells of a live block that may be written are written -/
theorem store_sound (h : HR C N0 w0 β H nx w) (hnx : nx < LIMIT) {b : Nat} {l l2 vs vs' : List Value} {et : TypeId} {kind : Nat} {i : BI} (hg : H.get b = some (.cells l et kind)) (hb : β b = some i)
    (hk : kind < 2) {o : Nat} (hput : lput? l o vs = some l2) (hv : LR β vs vs') (h1 : ∀ v ∈ vs', v.oneCell' = true) :
    ∃ w', (storeCells ⟨i.blk, i.base + o, none⟩ vs').run C.P w = .ok () w' ∧ HR C N0 w0 β (Abs.hput H b (.cells l2 et kind)) nx w' := by
  obtain ⟨j, hj, c, fz, hc, hcr, hes⟩ := h.obj _ _ hg
  rw [hb] at hj
  cases hj
  obtain ⟨hle, rfl⟩ := lput?_spec hput
  have hlen : vs.length = vs'.length := hv.length
  have hsz : i.base + o + vs'.length ≤ c.size ∨ vs'.length = 0 := by
    rcases Nat.eq_zero_or_pos vs'.length with e | e
    · exact .inr e
    · left
      have hlt : o + vs.length - 1 < l.length := by omega
      obtain ⟨v', hv', _⟩ := hcr.get (o + vs.length - 1) l[o + vs.length - 1] (by simp [hlt])
      rcases Nat.lt_or_ge (i.base + (o + vs.length - 1)) c.size with h | h
      · omega
      · rw [Array.getElem?_eq_none h] at hv'; cases hv'
  rcases hsz with hsz | h0
  · have hcell : ∀ j, j < c.size → w.cell? ⟨i.blk, j, none⟩ = c[j]? := fun j _ => cell?_cells hc j
    have hrun := run_storeCells_cells (P := C.P) i.blk (i.base + o) vs' 0 w (fun j hj => by
        rw [cell?_cells hc]
        simp
        omega) (fun j hj => by
        have := hcr.free hk (i.base + o + 0 + j) (.inl (by omega))
        simp only [World.frozen?, hc]
        simp at this ⊢
        omega) h1
    refine ⟨_, hrun, ?_⟩
    simp only [Nat.add_zero]
    obtain ⟨⟨c', e1, e2⟩, e3, e4, e5⟩ := setCells_heap i.blk vs' (i.base + o) w c et fz hc hsz
    have hc's : c'.size = c.size := by
      have := congrArg List.length e2
      simp at this
      omega
    refine h.update hnx hg hb e3 e4 (e5 N0 (hcr.own hk)) ⟨c', fz, e1, ⟨by rw [hc's, hcr.size], fun j v hj => ?_, fun hk j hj => hcr.free hk j (by rw [hc's] at hj; exact hj), hcr.own, fun h0 => ?_⟩, hes⟩
    · rw [get_seg _ _ _ _ hle] at hj
      rw [← Array.getElem?_toList, e2, get_seg _ _ _ _ (by simpa using hsz)]
      by_cases a : j < o
      · rw [if_pos a] at hj
        obtain ⟨v', h2, h3⟩ := hcr.get _ _ hj
        exact ⟨v', by rw [if_pos (by omega), Array.getElem?_toList]; exact h2, h3⟩
      · rw [if_neg a] at hj
        by_cases b : j < o + vs.length
        · rw [if_pos b] at hj
          obtain ⟨v', h2, h3⟩ := hv.get hj
          exact ⟨v', by rw [if_neg (by omega), if_pos (by omega), show i.base + j - (i.base + o) = j - o from by omega]; exact h2, h3⟩
        · rw [if_neg b] at hj
          obtain ⟨v', h2, h3⟩ := hcr.get _ _ hj
          exact ⟨v', by rw [if_neg (by omega), if_neg (by omega), Array.getElem?_toList]; exact h2, h3⟩
    · obtain ⟨h2, h3⟩ := hcr.whole h0
      refine ⟨h2, ?_⟩
      rw [hc's, h3]
      simp
      omega
  · have e0 : vs' = [] := List.length_eq_zero_iff.1 h0
    subst e0
    have e1 : vs = [] := List.length_eq_zero_iff.1 (by omega)
    subst e1
    refine ⟨w, by simp [storeCells], ?_⟩
    refine h.update hnx hg hb rfl (fun _ _ => rfl) (Below.refl _ _) ?_
    rw [List.length_nil, Nat.add_zero, List.append_nil, List.take_append_drop]
    exact ⟨c, fz, hc, hcr, hes⟩


theorem VR.yield_inv {l : Nat} {v' : Value} (hv : VR β (.func (.yield l) ⟨[]⟩ ⟨[]⟩) v') : ∃ i, β l = some i ∧ v' = .func (.yield i.blk) ⟨[]⟩ ⟨[]⟩ := by
  cases hv with
  | atom hb => simp [Abs.atom] at hb
  | yield hb => exact ⟨_, hb, rfl⟩

/-- what an operation comes to -/
def ERes (C : Ctx) (N0 : Nat) (w0 : World) (β : BM) (nx : Nat) (w : World) (s : Sem Next) : Eff → Prop
  | .val v H' nx' => ∃ n v' w' β', s.run C.P w = .ok n w' ∧ (n = .value v' ∨ (n = .skip ∧ v' = undef)) ∧ BM.ext nx β β' ∧ HR C N0 w0 β' H' nx' w' ∧ VR β' v v'
  | .enter f args => ∃ args', LR β args args' ∧ s.run C.P w = (callFunc f ⟨args'⟩).run C.P w
  | .round l args => ∃ args' i, β l = some i ∧ LR β args args' ∧ s.run C.P w = (Instr.yield i.blk ⟨args'⟩).run C.P w
  | .defer d => ∃ d', s.run C.P w = .ok (.defer d') w ∧ DR β d d'
  | .recover => s.run C.P w = .ok .recover w

variable (h : HR C N0 w0 β H nx w) (hnx : nx < LIMIT) {ρ ρ' : Operand → Value} {o : Oper} (hρ : ∀ x ∈ o.op.operands, VR β (ρ x) (ρ' x)) {e : Eff}

include ok h hnx hρ in
theorem e_store {t : TypeId} {a x : Operand} (ho : o.op = .store t a x) (hq : effect C H nx ρ o = some e) : ERes C N0 w0 β nx w (execOp ρ' o) e := by
  have ha := hρ a (by simp [ho, Op.operands])
  have hx := hρ x (by simp [ho, Op.operands])
  simp only [effect, ho] at hq
  split at hq
  · rename_i b off n ea hs
    rw [ea] at ha
    obtain ⟨i, hi, e'⟩ := ha.ptr_inv
    split at hq
    · rename_i l et kind hc hg
      rw [Bool.and_eq_true] at hc
      have hlen : (cellsL (ρ x)).length = n := by have := Nat.eq_of_beq_eq_true hc.1; simpa [llen_eq] using this
      split at hq
      · rename_i l2 hk hput
        cases hq
        have hk : kind < 2 := Nat.le_of_ble_eq_true hk
        have hcl := hx.cells (isAny_of_one hc.2)
        have h1 : ∀ u ∈ (ρ' x).cells.toList, u.oneCell' = true := fun u hu => by
          obtain ⟨j, hj, rfl⟩ := List.mem_iff_getElem.1 hu
          have hj' : j < (cellsL (ρ x)).length := by rw [hcl.length]; exact hj
          obtain ⟨v', e1, e2⟩ := hcl.get (j := j) (v := (cellsL (ρ x))[j]) (by simp [hj'])
          have : (ρ' x).cells.toList[j] = v' := by
            rw [List.getElem?_eq_getElem hj] at e1
            exact Option.some.inj e1
          rw [this]
          refine e2.oneCell ?_
          have := hc.2
          rw [List.all_eq_true] at this
          exact this _ (List.getElem_mem hj')
        obtain ⟨w', hrun, hh⟩ := store_sound h hnx hg hi hk hput hcl h1
        refine ⟨.skip, undef, w', β, ?_, .inr ⟨rfl, rfl⟩, BM.ext_refl _ _, hh, VR.undef⟩
        have hsz : (ρ' x).cells.size = n := by rw [← hlen, hcl.length]; simp
        simp [execOp, ho, e', Instr.storeAt, Instr.sureAddr, storeVar, run_size ok w hs, hsz, hrun]
      · cases hq
    · cases hq
  · cases hq

include hρ in
theorem e_value {c : Call} {f : Operand} (ho : o.op = .call c) (hc : c.callee = .value f) (hq : effect C H nx ρ o = some e) : ERes C N0 w0 β nx w (execOp ρ' o) e := by
  have hf := hρ f (by simp [ho, Op.operands, Call.operands, hc])
  have hargs : ∀ x ∈ c.args.toList, VR β (ρ x) (ρ' x) := fun x hx => hρ x (by simp only [ho, Op.operands, Call.operands]; exact Array.mem_append.2 (.inr (by simpa using hx)))
  have hl := LR.map c.args.toList hargs
  have ea : c.args.map ρ' = ⟨c.args.toList.map ρ'⟩ := by apply Array.ext'; simp
  simp only [effect, ho, hc, callV] at hq
  split at hq
  · rename_i g first captured ef
    rw [ef] at hf
    obtain ⟨a', c', h1, h2, e'⟩ := hf.func_inv
    cases hq
    refine ⟨a' ++ c.args.toList.map ρ' ++ c', (h1.append hl).append h2, ?_⟩
    simp [execOp, ho, hc, resolve, e', Deferred.ofValue, invoke, ea]
  · rename_i l ef
    rw [ef] at hf
    cases hq
    obtain ⟨i, hb, e'⟩ := hf.yield_inv
    refine ⟨c.args.toList.map ρ', i, hb, hl, ?_⟩
    simp [execOp, ho, hc, resolve, e', Deferred.ofValue, invoke, ea]
  · cases hq

include hρ in
theorem e_defer {c : Call} (ho : o.op = .defer c) (hq : effect C H nx ρ o = some e) : ERes C N0 w0 β nx w (execOp ρ' o) e := by
  have hargs : ∀ x ∈ c.args.toList, VR β (ρ x) (ρ' x) := fun x hx => hρ x (by simp only [ho, Op.operands, Call.operands]; exact Array.mem_append.2 (.inr (by simpa using hx)))
  have hl := LR.map c.args.toList hargs
  have ea : c.args.map ρ' = ⟨c.args.toList.map ρ'⟩ := by apply Array.ext'; simp
  simp only [effect, ho] at hq
  split at hq
  · rename_i f hc
    have hf := hρ f (by simp [ho, Op.operands, Call.operands, hc])
    split at hq
    · rename_i g first captured ef
      rw [ef] at hf
      obtain ⟨captured⟩ := captured
      obtain ⟨a', c', h1, h2, e'⟩ := hf.func_inv
      cases hq
      refine ⟨⟨.fn (.func g) ⟨c'⟩, ⟨a' ++ c.args.toList.map ρ'⟩⟩, ?_, .fn h2 (h1.append hl)⟩
      simp [execOp, ho, hc, resolve, e', Deferred.ofValue, ea]
    · cases hq
  · cases hq

theorem e_recover {c : Call} (ho : o.op = .call c) (hc : c.callee = .builtin .recover) (hq : effect C H nx ρ o = some e) : ERes C N0 w0 β nx w (execOp ρ' o) e := by
  simp only [effect, ho, hc] at hq
  cases hq
  show (execOp ρ' o).run C.P w = .ok .recover w
  simp [execOp, ho, hc, resolve, invoke, builtin]

end
end Go.Abs

/-
  THE ABSTRACT MACHINE: its other operations: append.
-/
namespace Go.Abs
open Go Go.RowKit
variable [Ops]

section
variable {C : Ctx} (ok : C.Ok) {N0 : Nat} {w0 : World} {β : BM} {H : AHeap} {nx : Nat} {w : World}

def notInt : TypeDesc → Bool
  | .slice _ | .string => true
  | _ => false
theorem notInt_cases {d : TypeDesc} (h : notInt d = true) : (∃ x, d = .slice x) ∨ d = .string := by
  unfold notInt at h
  split at h
  · exact .inl ⟨_, rfl⟩
  · exact .inr rfl
  · cases h

include ok in
theorem append_run_fits {t u e : TypeId} {du : TypeDesc} (ht : und C t = some (.slice e)) (hu : und C u = some du) (hdu : notInt du = true) {sz : Nat} (hs : size? C e = some sz)
    {x' : Value} {n : Nat} (hlen : (Builtin.lenOf x').run C.P w = .ok n w) {new' : Array Value} (hcells : (Builtin.firstCells sz n x').run C.P w = .ok new' w)
    {sLen sCap : Nat} (hfit : sLen + n ≤ sCap) {a : Addr} {w' : World} (hst : (storeCells (a.add (sLen * sz)) new'.toList).run C.P w = .ok () w') (ty : TypeId) :
    (Builtin.append_ #[t, u] ty #[.slice (some a) sLen sCap, x']).run C.P w = .ok (.slice (some a) (sLen + n) sCap) w' := by
  have hu' := run_und ok w hu
  rcases notInt_cases hdu with ⟨x, rfl⟩ | rfl <;> simp [Builtin.append_, run_und ok w ht, hu', run_size ok w hs, hlen, hcells, hfit, hst]

include ok in
theorem append_run_none {t u e : TypeId} {du : TypeDesc} (ht : und C t = some (.slice e)) (hu : und C u = some du) (hdu : notInt du = true) {sz : Nat} (hs : size? C e = some sz)
    {x' : Value} (hlen : (Builtin.lenOf x').run C.P w = .ok 0 w) {new' : Array Value} (hcells : (Builtin.firstCells sz 0 x').run C.P w = .ok new' w) (ty : TypeId) :
    (Builtin.append_ #[t, u] ty #[.slice none 0 0, x']).run C.P w = .ok (.slice none 0 0) w := by
  have hu' := run_und ok w hu
  rcases notInt_cases hdu with ⟨x, rfl⟩ | rfl <;> simp [Builtin.append_, run_und ok w ht, hu', run_size ok w hs, hlen, hcells]

theorem cap_cut (w : World) (need old : Nat) (e : TypeId) : need ≤ grownCap w need old e := grownCap_ge w need old e

include ok in
theorem append_run_grow {t u e : TypeId} {du : TypeDesc} (ht : und C t = some (.slice e)) (hu : und C u = some du) (hdu : notInt du = true) {sz : Nat} (hs : size? C e = some sz)
    {z : Value} (hz : zero? C e = some z) (hsm : smallElem C e = true)
    {x' : Value} {n : Nat} (hlen : (Builtin.lenOf x').run C.P w = .ok n w) {new' : Array Value} (hcells : (Builtin.firstCells sz n x').run C.P w.drew = .ok new' w.drew)
    {base : Option Addr} {sLen sCap : Nat} (hgrow : sCap < sLen + n) (hsmall : sLen + n ≤ 1000000) {old' : Array Value} (hold : (Builtin.firstCells sz sLen (.slice base sLen sCap)).run C.P w.drew = .ok old' w.drew) (ty : TypeId) :
    (Builtin.append_ #[t, u] ty #[.slice base sLen sCap, x']).run C.P w =
      .ok (.slice (some ⟨w.heap.size, 0, none⟩) (sLen + n) (grownCap w (sLen + n) sCap e)) (w.drew.alloc (.cells (old' ++ new' ++ Builtin.zeroCells z.cells (grownCap w (sLen + n) sCap e - (sLen + n))) e)) := by
  have hu' := run_und ok w hu
  obtain ⟨i, hi, _⟩ := size_sound ok hs
  have hby : i.bytes ≤ 100000 := by
    unfold smallElem at hsm
    split at hsm
    · rename_i j hj
      have := ok.ty _ _ hj
      rw [hi] at this
      cases this
      exact Nat.le_of_ble_eq_true hsm
    · cases hsm
  have hinfo : (typeInfo e).run C.P w = .ok i w := by simp [typeInfo, hi]
  have hinfo' : (typeInfo e).run C.P w.drew = .ok i w.drew := by simp [typeInfo, hi]
  have hn : ¬ (sLen + n ≤ sCap) := by omega
  have h63 : ¬ (9223372036854775807 < ((sLen : Int) + (n : Int))) := by omega
  have hnc : Builtin.nextslicecap (sLen + n) sCap * i.bytes ≤ 2000000 * 100000 := Nat.mul_le_mul (Nat.le_trans (nextslicecap_le hgrow) (by omega)) hby
  have h48 : ¬ (281474976710656 < Builtin.nextslicecap (sLen + n) sCap * i.bytes) := by omega
  have hz' := run_zero ok w.drew hz
  rcases notInt_cases hdu with ⟨x, rfl⟩ | rfl <;> simp [Builtin.append_, run_und ok w ht, hu', run_size ok w hs, hlen, hn, h63, h48, hinfo, hinfo', Question.forced, hcells, hold, hz', newRow, grownCap]

end
end Go.Abs

/-
  THE ABSTRACT MACHINE: its other operations: what append comes to.
-/
namespace Go.Abs
open Go Go.RowKit
variable [Ops]

section
variable {C : Ctx} (ok : C.Ok) {N0 : Nat} {w0 : World} {β : BM} {H : AHeap} {nx : Nat} {w : World}

/-- the cells of what is appended, as the model reads them -/
theorem srcCells_sound (h : HR C N0 w0 β H nx w) {x x' : Value} (hx : VR β x x') {n sz : Nat} {vs : List Value} (hv : srcCells H n sz x = some vs) :
    ∃ vs', LR β vs vs' ∧ vs'.length = n * sz ∧
      (Builtin.firstCells sz n x').run C.P w = .ok ⟨vs'⟩ w ∧ (Builtin.firstCells sz n x').run C.P w.drew = .ok ⟨vs'⟩ w.drew := by
  unfold srcCells at hv
  split at hv
  · rename_i b o _ _
    obtain ⟨i, c', hi, _, e'⟩ := hx.slice_inv
    unfold readCells at hv
    split at hv
    · rename_i l hg
      obtain ⟨et, kind, hget⟩ := getCells_spec hg
      obtain ⟨j, hj, hor⟩ := h.obj _ _ hget
      rw [hi] at hj
      cases hj
      obtain ⟨vs', h1, h2, h3⟩ := cells_of hor hv
      refine ⟨vs', h1, h2, ?_, ?_⟩
      · rw [e']; exact run_firstCells_some w sz n _ _ _ vs' h2 h3
      · rw [e']; exact run_firstCells_some w.drew sz n _ _ _ vs' h2 h3
    · cases hv
  · obtain ⟨_, _, e'⟩ := hx.snil_inv
    split at hv
    · cases hv
      exact ⟨[], .nil, by simp, by rw [e']; simp [Builtin.firstCells], by rw [e']; simp [Builtin.firstCells]⟩
    · cases hv
  · rename_i s
    have e' := hx.string_inv
    split at hv
    · obtain ⟨h1, h2⟩ := ltake?_spec hv
      subst h2
      have e2 : ((s.extract 0 n).data.map fun b => Value.int .u8 b.toNat) = ⟨(bytesL s).take n⟩ := by
        apply Array.ext'
        simp [bytesL, ByteArray.data_extract, List.extract_eq_take_drop]
      have hlr : LR β ((bytesL s).take n) ((bytesL s).take n) := by
        refine LR.atoms _ ?_
        rw [List.all_eq_true]
        intro y hy
        have hy := List.mem_of_mem_take hy
        simp only [bytesL, List.mem_map] at hy
        obtain ⟨b, _, rfl⟩ := hy
        rfl
      refine ⟨_, hlr, by rw [List.length_take]; omega, ?_, ?_⟩
      · rw [e']; simp only [Builtin.firstCells]; rw [e2]; simp
      · rw [e']; simp only [Builtin.firstCells]; rw [e2]; simp
    · cases hv
  · cases hv

theorem srcLen_sound {x x' : Value} (hx : VR β x x') {n : Nat} (hn : srcLen x = some n) : (Builtin.lenOf x').run C.P w = .ok n w := by
  unfold srcLen at hn
  split at hn
  · rename_i a l c
    cases hn
    cases a with
    | none => obtain ⟨rfl, _, e'⟩ := hx.snil_inv; rw [e']; simp [Builtin.lenOf]
    | some p => obtain ⟨_, _, e'⟩ := hx.slc_any; rw [e']; simp [Builtin.lenOf]
  · cases hn
    rw [hx.string_inv]; simp [Builtin.lenOf]
  · cases hn

theorem oneCells {vs vs' : List Value} (hl : LR β vs vs') (h1 : vs.all Abs.oneCell = true) : ∀ v ∈ vs', v.oneCell' = true := by
  induction vs generalizing vs' with
  | nil => cases hl; simp
  | cons x xs ih =>
    cases hl with
    | cons hx hs =>
      simp only [List.all_cons, Bool.and_eq_true] at h1
      intro v hv
      rcases List.mem_cons.1 hv with rfl | hv
      · exact hx.oneCell h1.1
      · exact ih hs h1.2 v hv

/-- blocks may be forgotten -/
theorem HR.del (h : HR C N0 w0 β H nx w) {b : Nat} (hb : b < LIMIT) : HR C N0 w0 β (hdel H b) nx w := by
  have live : ∀ c y, (hdel H b).get c = some y → H.get c = some y := fun c y hc => by
    by_cases e : b = c
    · subst e; rw [hdel_same hb] at hc; cases hc
    · rw [hdel_ne e] at hc; exact hc
  exact ⟨fun c y hc => h.obj c y (live c y hc), fun c d y y' j j' hc hd hj hj' e => h.inj c d y y' j j' (live c y hc) (live d y' hd) hj hj' e, h.lt, h.fresh, h.below, h.n0⟩

theorem zeroCells_size {z : Value} {sz n : Nat} (hz : (cellsL z).length = sz) : (Builtin.zeroCells z.cells n).size = n * sz := by
  have : z.cells.size = sz := by rw [← hz]; simp [cellsL]
  simp [Builtin.zeroCells, this]

/-- a row that was made anew by append -/
theorem OR.row (h : HR C N0 w0 β H nx w) {vs vs' : List Value} (hl : LR β vs vs') {et : TypeId} {sz : Nat} (hs : size? C et = some sz) {c : Array Value} (hc : ∃ more, c.toList = vs' ++ more) :
    OR C N0 (β.set nx ⟨w.heap.size, 0, c.size, sz⟩) (w.drew.alloc (.cells c et)) ⟨w.heap.size, 0, c.size, sz⟩ (.cells vs et 1) := by
  obtain ⟨more, hc⟩ := hc
  refine ⟨c, (0, 0), heap_alloc_new w.drew _, ⟨rfl, fun j v hj => ?_, fun _ j _ hj => by omega, fun _ => h.n0, fun h0 => by omega⟩, fun _ => hs⟩
  obtain ⟨v', h1, h2⟩ := hl.get hj
  refine ⟨v', ?_, h2.mono (BM.le_set β _ (h.fresh nx (Nat.le_refl _)))⟩
  rw [← Array.getElem?_toList, hc, Nat.zero_add, List.getElem?_append_left (by
    rcases Nat.lt_or_ge j vs'.length with h | h
    · exact h
    · rw [List.getElem?_eq_none h] at h1; cases h1)]
  exact h1

theorem grown_size {z : Value} {sz len n cap : Nat} {old' new' : List Value} (hz : (cellsL z).length = sz) (ho : old'.length = len * sz) (hl : new'.length = n * sz) (hge : len + n ≤ cap) :
    ((⟨old'⟩ : Array Value) ++ ⟨new'⟩ ++ Builtin.zeroCells z.cells (cap - (len + n))).size = cap * sz := by
  rw [Array.size_append, Array.size_append, zeroCells_size hz]
  simp only [List.size_toArray, ho, hl]
  rw [← Nat.add_mul, ← Nat.add_mul]
  congr 1
  omega

include ok in
/-- WHAT append COMES TO. -/
theorem append_sound (h : HR C N0 w0 β H nx w) (hnx : nx < LIMIT) {t u : TypeId} {du : TypeDesc} (hu : und C u = some du) (hdu : notInt du = true) {s s' x x' : Value} (hs : VR β s s') (hx : VR β x x')
    {e : Eff} (hq : append C H nx t s x = some e) (ty : TypeId) :
    ∃ v H' nx', e = .val v H' nx' ∧ ∃ v' w' β', (Builtin.append_ #[t, u] ty #[s', x']).run C.P w = .ok v' w' ∧ BM.ext nx β β' ∧ HR C N0 w0 β' H' nx' w' ∧ VR β' v v' := by
  unfold append at hq
  split at hq
  · rename_i el ht
    split at hq
    · rename_i sz z n base len c hsz hz hn
      have hlen := srcLen_sound (C := C) (w := w) hx hn
      split at hq
      · rename_i new hnew hsm
        simp only [Bool.and_eq_true] at hsm
        obtain ⟨⟨hsm1, hsm2⟩, hzl⟩ := hsm
        replace hsm1 := Nat.le_of_ble_eq_true hsm1
        replace hzl : (cellsL z).length = sz + 1 := by have := Nat.eq_of_beq_eq_true hzl; simpa [llen_eq] using this
        obtain ⟨new', hl, hl2, hfc, hfc'⟩ := srcCells_sound h hx hnew
        split at hq
        · -- nothing
          rename_i hn0
          split at hq
          · rename_i hc
            cases hq
            refine ⟨_, _, _, rfl, ?_⟩
            cases base with
            | none =>
              obtain ⟨_, _, e'⟩ := hs.snil_inv
              exact ⟨s', w, β, by rw [e']; exact append_run_none ok ht hu hdu hsz hlen hfc ty, BM.ext_refl _ _, h, hs⟩
            | some p =>
              rcases hs.slc_inv with ⟨b, o, i, c', rfl, hb, hcap, e'⟩ | ⟨hl0, _, a', c', e'⟩
              rotate_left
              · have hnl : new' = [] := List.length_eq_zero_iff.1 (by rw [hl2]; simp)
                subst hnl hl0
                refine ⟨s', w, β, ?_, BM.ext_refl _ _, h, hs⟩
                rw [e']
                exact append_run_fits ok ht hu hdu hsz hlen hfc (by omega) (by simp [storeCells]) ty
              have hle : len ≤ c' := by
                rcases hcap with ⟨h1, h2⟩ | ⟨h1, h2, _⟩
                · rw [Bool.or_eq_true] at hc
                  rcases hc with hc | hc
                  · have := Nat.le_of_ble_eq_true hc; omega
                  · have := Nat.le_of_ble_eq_true hc; omega
                · exact h2
              have hnl : new' = [] := List.length_eq_zero_iff.1 (by rw [hl2]; simp)
              subst hnl
              refine ⟨s', w, β, ?_, BM.ext_refl _ _, h, hs⟩
              rw [e']
              exact append_run_fits ok ht hu hdu hsz hlen hfc (by omega) (by simp [storeCells]) ty
          · cases hq
        · rename_i n
          split at hq
          · -- the capacity is known
            rename_i hop
            have hop : c < OPEN := Nat.le_of_ble_eq_true hop
            split at hq
            · -- it fits
              rename_i hfit
              have hfit := Nat.le_of_ble_eq_true hfit
              split at hq
              · rename_i b o
                obtain ⟨i, c', hb, hcap, e'⟩ := hs.slice_inv
                have hcc : c' = c := by rcases hcap with ⟨_, h2⟩ | ⟨h1, _⟩ <;> omega
                subst hcc
                split at hq
                · rename_i l et hg
                  split at hq
                  · rename_i l2 hone hput
                    cases hq
                    obtain ⟨w', hrun, hh⟩ := store_sound h hnx hg hb (by omega) hput hl (oneCells hl hone)
                    refine ⟨_, _, _, rfl, _, w', β, ?_, BM.ext_refl _ _, hh, VR.slice hb (.inl ⟨hop, rfl⟩)⟩
                    rw [e']
                    exact append_run_fits ok ht hu hdu hsz hlen hfc hfit (by rw [Addr.add_lit, Nat.add_assoc]; exact hrun) ty
                  · cases hq
                · cases hq
              · cases hq
            · -- it does not
              rename_i hfit
              have hfit : c < len + (n + 1) := by
                rcases Nat.lt_or_ge c (len + (n + 1)) with h | h
                · exact h
                · rw [Nat.ble_eq_true_of_le h] at hfit; cases hfit
              split at hq
              · rename_i old hold
                cases hq
                obtain ⟨old', ho1, ho2, _, ho5⟩ := srcCells_sound h hs hold
                have hs' : ∃ base', s' = .slice base' len c := by
                  cases base with
                  | none => obtain ⟨rfl, rfl, e'⟩ := hs.snil_inv; exact ⟨_, e'⟩
                  | some p =>
                    rcases hs.slc_inv with ⟨_, _, _, c', _, _, hcap, e'⟩ | ⟨_, hcO, _⟩
                    rotate_left
                    · omega
                    have hcc : c' = c := by rcases hcap with ⟨_, h2⟩ | ⟨h1, _⟩ <;> omega
                    exact ⟨_, by rw [e', hcc]⟩
                obtain ⟨base', es⟩ := hs'
                rw [es] at ho5
                have hrun := append_run_grow ok ht hu hdu hsz hz hsm2 hlen hfc' hfit hsm1 ho5 ty
                rw [← es] at hrun
                have hge := cap_cut w (len + (n + 1)) c el
                have hsz2 := grown_size hzl ho2 hl2 hge
                refine ⟨_, _, _, rfl, _, _, _, hrun, BM.ext_set β _ (h.fresh nx (Nat.le_refl _)), h.drew.alloc hnx _ rfl (OR.row h (ho1.append hl) hsz ⟨(Builtin.zeroCells z.cells (grownCap w (len + (n + 1)) c el - (len + (n + 1)))).toList, by simp⟩), ?_⟩
                exact VR.slice (o := 0) (BM.set_same _ _ _) (.inr ⟨rfl, hge, by simp only [Nat.zero_add, hsz2]; exact Nat.le_refl _⟩)
              · cases hq
          · -- nobody knows
            rename_i hop
            have hop : ¬ (c < OPEN) := fun hlt => by
              have : Nat.blt c OPEN = true := Nat.ble_eq_true_of_le hlt
              rw [this] at hop; cases hop
            split at hq
            · rename_i b o
              obtain ⟨i, c', hb, hcap, e'⟩ := hs.slice_inv
              split at hq
              · rename_i l et hg
                split at hq
                · rename_i old het hold
                  cases hq
                  rw [Bool.and_eq_true] at het
                  obtain ⟨het, hone⟩ := het
                  have het := Nat.eq_of_beq_eq_true het
                  subst het
                  obtain ⟨j, hj, hor⟩ := h.obj _ _ hg
                  rw [hb] at hj
                  cases hj
                  obtain ⟨old', ho1, ho2, ho3⟩ := cells_of hor hold
                  obtain ⟨cs, fz, hc, hcr, hes⟩ := hor
                  have hes := hes rfl
                  rw [hsz] at hes
                  have hes := Option.some.inj hes
                  rcases hcap with ⟨h1, _⟩ | ⟨hc1, hc2, hc3⟩
                  · omega
                  have hblt : b < LIMIT := Nat.lt_trans (h.lt_nx hb) hnx
                  by_cases hfit : len + (n + 1) ≤ c'
                  · -- it fits, in this world
                    have hroom : i.base + o + len * (sz + 1) + new'.length ≤ cs.size := by
                      have hl3 : new'.length = (n + 1) * (sz + 1) := hl2
                      have hc4 : i.base + o + c' * (sz + 1) ≤ i.cells := by
                        have e9 : sz + 1 = i.esz := hes
                        rw [e9]
                        exact hc3
                      rw [hcr.size, hl3]
                      have h1 : len * (sz + 1) + (n + 1) * (sz + 1) = (len + (n + 1)) * (sz + 1) := by rw [← Nat.add_mul]
                      have h2 : (len + (n + 1)) * (sz + 1) ≤ c' * (sz + 1) := Nat.mul_le_mul_right _ hfit
                      omega
                    have hst := run_storeCells_cells (P := C.P) i.blk (i.base + o + len * (sz + 1)) new' 0 w (fun j hj => by
                        rw [cell?_cells hc]
                        simp
                        omega) (fun j hj => by
                        have := hcr.free (by omega) (i.base + o + len * (sz + 1) + 0 + j) (.inl (by omega))
                        simp only [World.frozen?, hc]
                        simp at this ⊢
                        omega) (oneCells hl hone)
                    simp only [Nat.add_zero] at hst
                    obtain ⟨⟨c2, e1, e2⟩, e3, e4, e5⟩ := setCells_heap i.blk new' (i.base + o + len * (sz + 1)) w cs et fz hc hroom
                    have hc2s : c2.size = cs.size := by
                      have := congrArg List.length e2
                      simp at this
                      omega
                    have hol : old.length = len * (sz + 1) := by rw [ho1.length, ho2]
                    refine ⟨_, _, _, rfl, .slice (some ⟨i.blk, i.base + o, none⟩) (len + (n + 1)) c', _, β.set nx ⟨i.blk, i.base + o, i.cells, i.esz⟩, ?_, BM.ext_set β _ (h.fresh nx (Nat.le_refl _)),
                      h.move hnx hg hb rfl e3 e4 (e5 N0 (hcr.own (by omega))) ⟨c2, fz, e1, ⟨by rw [hc2s, hcr.size], fun j v hj => ?_, fun _ j hj => hcr.free (by omega) j (.inl (by omega)), fun _ => hcr.own (by omega), fun h0 => by omega⟩, fun _ => by rw [hsz, hes]⟩, ?_⟩
                    · rw [e']
                      exact append_run_fits ok ht hu hdu hsz hlen hfc hfit (by rw [Addr.add_lit]; exact hst) ty
                    · have hle := BM.le_set β ⟨i.blk, i.base + o, i.cells, i.esz⟩ (h.fresh nx (Nat.le_refl _))
                      rw [← Array.getElem?_toList, e2, get_seg _ _ _ _ (by simpa using hroom)]
                      by_cases a : j < len * (sz + 1)
                      · rw [List.getElem?_append_left (by omega)] at hj
                        obtain ⟨v', h2, h3⟩ := ho1.get hj
                        have h4 := ho3 j v' h2
                        rw [Addr.add_lit, cell?_cells hc] at h4
                        exact ⟨v', by rw [if_pos (by show i.base + o + j < _; omega), Array.getElem?_toList]; exact h4, h3.mono hle⟩
                      · rw [List.getElem?_append_right (by omega)] at hj
                        obtain ⟨v', h2, h3⟩ := hl.get hj
                        have h5 : j - old.length < new'.length := by
                          rcases Nat.lt_or_ge (j - old.length) new'.length with h | h
                          · exact h
                          · rw [List.getElem?_eq_none h] at h2; cases h2
                        refine ⟨v', ?_, h3.mono hle⟩
                        rw [if_neg (by show ¬ (i.base + o + j < _); omega), if_pos (by show i.base + o + j < _; omega)]
                        rw [show i.base + o + j - (i.base + o + len * (sz + 1)) = j - old.length from by omega]
                        exact h2
                    · exact VR.slice (i := ⟨i.blk, i.base + o, i.cells, i.esz⟩) (o := 0) (BM.set_same _ _ _) (.inr ⟨rfl, hfit, hc3⟩)
                  · -- it does not
                    have hold' := run_firstCells_some (P := C.P) w.drew (sz + 1) len ⟨i.blk, i.base + o, none⟩ len c' old' ho2 ho3
                    have hrun := append_run_grow ok ht hu hdu hsz hz hsm2 hlen hfc' (sCap := c') (by omega) hsm1 hold' ty
                    rw [← e'] at hrun
                    have hge := cap_cut w (len + (n + 1)) c' et
                    have hsz2 := grown_size hzl ho2 hl2 hge
                    refine ⟨_, _, _, rfl, _, _, _, hrun, BM.ext_set β _ (h.fresh nx (Nat.le_refl _)), (h.del hblt).drew.alloc hnx _ rfl (OR.row h (ho1.append hl) hsz ⟨(Builtin.zeroCells z.cells (grownCap w (len + (n + 1)) c' et - (len + (n + 1)))).toList, by simp⟩), ?_⟩
                    exact VR.slice (o := 0) (BM.set_same _ _ _) (.inr ⟨rfl, hge, by simp only [Nat.zero_add, hsz2]; exact Nat.le_refl _⟩)
                · cases hq
              · cases hq
            · cases hq
      · cases hq
    · cases hq
  · cases hq

end
end Go.Abs
