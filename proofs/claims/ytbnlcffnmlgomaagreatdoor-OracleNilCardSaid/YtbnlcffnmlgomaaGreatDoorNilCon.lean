/-
  OracleNil: its contracts, and its call.
-/
import Derived.Test.YtbnlcffnmlgomaaGreatDoorAbsCon
import Derived.Test.YtbnlcffnmlgomaaGreatDoorNilWalks3
set_option linter.unusedSectionVars false
set_option linter.unusedVariables false
set_option linter.unusedSimpArgs false
namespace Go.Proofs.YtbnlcffnmlgomaaGreatDoor
open Go.RowKit Go.Abs

/-- opaque cells, from a number on -/
def opqs : Nat → Nat → List Value
  | _, 0 => []
  | k, n + 1 => .chan (some k) :: opqs (k + 1) n

theorem LR.opqs [Ops] {β : BM} : ∀ (l : List Value) (k : Nat), (∀ (i : Nat) (v : Value), l[i]? = some v → v = Ops.op (k + i)) → LR β (opqs k l.length) l
  | [], _, _ => .nil
  | x :: xs, k, h => by
    have h0 := h 0 x rfl
    simp only [List.length_cons, YtbnlcffnmlgomaaGreatDoor.opqs]
    refine .cons (.opq (c := some k) h0) (LR.opqs xs (k + 1) fun i v hv => ?_)
    have := h (i + 1) v (by simpa using hv)
    rw [this]; congr 1; omega

/-- the cell of one value -/
theorem cells_one {v : Value} (h : v.oneCell' = true) : v.cells = #[v] := by
  cases v <;> first | rfl | simp [Value.oneCell'] at h

@[reducible] def argOps (l : List Value) (h : ∀ v ∈ l, v.oneCell' = true) : Ops where
  op n := l.getD n .nilIface
  one n := by
    by_cases hn : n < l.length
    · have : l.getD n .nilIface = l[n] := by simp [hn]
      rw [this]; exact h _ (List.getElem_mem hn)
    · have : l.getD n .nilIface = .nilIface := by simp at hn; simp [hn]
      rw [this]; rfl
  cell n := by
    by_cases hn : n < l.length
    · have : l.getD n .nilIface = l[n] := by simp [hn]
      rw [this]; exact cells_one (h _ (List.getElem_mem hn))
    · have : l.getD n .nilIface = .nilIface := by simp at hn; simp [hn]
      rw [this]; rfl

/-- is it a zero Oracle? -/
def zeroAt (H : AHeap) (b : Nat) : Bool :=
  match H.get b with
  | some (.cells [.int .i64 (.ofNat 0), .map none, .map none] _ 0) => true
  | _ => false

def conKnown : Con := fun _ _ args => match args with
  | [] => some (.bool true, [])
  | _ => none
def conNote : Con := fun H _ args => match args with
  | [.pointer none, .agg _, .agg _] => some (.tuple ⟨[]⟩, [])
  | [.pointer (some ⟨b, 0, none⟩), .agg ⟨a⟩, .agg _] => match zeroAt H b, lget a 1 with
    | true, some (.chan (some 1)) => some (.tuple ⟨[]⟩, [])
    | _, _ => none
  | _ => none
def conIssued : Con := fun H _ args => match args with
  | [.pointer none, .chan (some 1)] => some (.slice none 0 0, [])
  | [.pointer (some ⟨b, 0, none⟩), .chan (some 1)] => match zeroAt H b with
    | true => some (.slice none 0 0, [])
    | false => none
  | _ => none

theorem zeroAt_spec {H : AHeap} {b : Nat} (h : zeroAt H b = true) : ∃ et, H.get b = some (.cells [.int .i64 0, .map none, .map none] et 0) := by
  unfold zeroAt at h
  split at h
  · rename_i et hg; exact ⟨et, hg⟩
  · cases h

theorem conKnown_ok [Ops] : ConOk (mkEnv Tryz.prog 347).toCtx 9 conKnown := ConOk.of_af fun {_ _ _ _ _ w _ _ _ _} _ {_} hs ha hc => by
  unfold conKnown at hc
  split at hc
  · cases hc
    cases ha
    exact ⟨rfl, rfl, known30 w⟩
  · cases hc

theorem conIssued_ok [Ops] {who : Int} (hwho : Ops.op 1 = .int .i64 who) : ConOk (mkEnv Tryz.prog 347).toCtx 20 conIssued := ConOk.of_af fun {_ _ _ _ _ w _ _ _ _} hr {_} hs ha hc => by
  unfold conIssued at hc
  split at hc
  · cases hc
    obtain ⟨p', l1, rfl, hp, h1⟩ := LR.cons_inv ha
    obtain ⟨x', l2, rfl, hx, h2⟩ := LR.cons_inv h1
    have := LR.nil_inv h2
    subst this
    have hp' := hp.atom_eq rfl
    subst hp'
    cases hx with
    | atom h => simp [Abs.atom] at h
    | opq h => rw [show x' = Ops.op 1 from h, hwho]; exact ⟨rfl, rfl, issued_nil who w⟩
  · rename_i b
    split at hc
    · rename_i hz
      cases hc
      obtain ⟨p', l1, rfl, hp, h1⟩ := LR.cons_inv ha
      obtain ⟨x', l2, rfl, hx, h2⟩ := LR.cons_inv h1
      have := LR.nil_inv h2
      subst this
      obtain ⟨et, hg⟩ := zeroAt_spec hz
      obtain ⟨i, hi, rfl⟩ := hp.ptr_inv
      obtain ⟨hb, _, v0, hv0, hr0⟩ := hr.whole_cell hs hg hi (j := 0) rfl
      obtain ⟨_, _, v1, hv1, hr1⟩ := hr.whole_cell hs hg hi (j := 1) rfl
      have e0 := hr0.atom_eq rfl
      have e1 := hr1.atom_eq rfl
      subst e0 e1
      rw [hb]
      cases hx with
      | atom h => simp [Abs.atom] at h
      | opq h => rw [show x' = Ops.op 1 from h, hwho]; exact ⟨rfl, rfl, issued_zero who w i.blk hv1 hv0⟩
    · cases hc
  · cases hc

theorem conNote_ok [Ops] {who : Int} (hwho : Ops.op 1 = .int .i64 who) : ConOk (mkEnv Tryz.prog 347).toCtx 17 conNote := ConOk.of_af fun {_ _ _ _ _ w _ _ _ _} hr {_} hs ha hc => by
  unfold conNote at hc
  split at hc
  · rename_i a t
    cases hc
    obtain ⟨p', l1, rfl, hp, h1⟩ := LR.cons_inv ha
    obtain ⟨x', l2, rfl, hx, h2⟩ := LR.cons_inv h1
    obtain ⟨y', l3, rfl, hy, h3⟩ := LR.cons_inv h2
    have := LR.nil_inv h3
    subst this
    have hp' := hp.atom_eq rfl
    subst hp'
    obtain ⟨a', _, rfl⟩ := hx.agg_inv
    obtain ⟨t', _, rfl⟩ := hy.agg_inv
    exact ⟨rfl, rfl, note_nil _ _ w⟩
  · rename_i b a t
    split at hc
    · rename_i hz hget
      cases hc
      obtain ⟨p', l1, rfl, hp, h1⟩ := LR.cons_inv ha
      obtain ⟨x', l2, rfl, hx, h2⟩ := LR.cons_inv h1
      obtain ⟨y', l3, rfl, hy, h3⟩ := LR.cons_inv h2
      have := LR.nil_inv h3
      subst this
      obtain ⟨et, hg⟩ := zeroAt_spec hz
      obtain ⟨i, hi, rfl⟩ := hp.ptr_inv
      obtain ⟨hb, hlt, v0, hv0, hr0⟩ := hr.whole_cell hs hg hi (j := 0) rfl
      have e0 := hr0.atom_eq rfl
      subst e0
      rw [hb]
      obtain ⟨a', hla, rfl⟩ := hx.agg_inv
      obtain ⟨t', _, rfl⟩ := hy.agg_inv
      rw [lget_eq] at hget
      obtain ⟨v1, hv1, hr1⟩ := hla.get hget
      cases hr1 with
      | atom h => simp [Abs.atom] at h
      | opq h =>
        rw [show v1 = Ops.op 1 from h, hwho] at hv1
        exact ⟨rfl, rfl, note_zero ⟨a'⟩ ⟨t'⟩ w who (by simpa using hv1) i.blk hlt hv0⟩
    · cases hc
  · cases hc

noncomputable def nilEnv : Env := { mkEnv Tryz.prog 347 with con := BT.put (some conIssued) 20 (BT.put (some conNote) 20 (BT.put (some conKnown) 20 .nil 9) 17) 20 }

theorem nilCons_ok [Ops] {who : Int} (hwho : Ops.op 1 = .int .i64 who) (g : FuncId) (c : Con)
    (h' : (BT.put (some conIssued) 20 (BT.put (some conNote) 20 (BT.put (some conKnown) 20 .nil 9) 17) 20).get g = some c) : ConOk (mkEnv Tryz.prog 347).toCtx g c := by
  by_cases e1 : g = 20
  · subst e1
    rw [BT.get_put_same _ _ _ _ (by decide)] at h'
    cases h'; exact conIssued_ok hwho
  · rw [BT.get_put_ne _ _ _ _ _ (fun h => e1 h.symm)] at h'
    by_cases e2 : g = 17
    · subst e2
      rw [BT.get_put_same _ _ _ _ (by decide)] at h'
      cases h'; exact conNote_ok hwho
    · rw [BT.get_put_ne _ _ _ _ _ (fun h => e2 h.symm)] at h'
      by_cases e3 : g = 9
      · subst e3
        rw [BT.get_put_same _ _ _ _ (by decide)] at h'
        cases h'; exact conKnown_ok
      · rw [BT.get_put_ne _ _ _ _ _ (fun h => e3 h.symm)] at h'
        simp [BT.get] at h'

theorem nilEnv_ok [Ops] {who : Int} (hwho : Ops.op 1 = .int .i64 who) : nilEnv.Ok :=
  have ok := envOk
  { ctx := ok.ctx, mixed := ok.mixed, names := ok.names, ext := ok.ext, con := nilCons_ok hwho }

theorem oracleNil_out : outcomeS nilEnv 5 [.agg ⟨opqs 0 28⟩, .agg ⟨opqs 28 7⟩] .nil 0 4000 = some (.bool true) := by kernel_rfl

theorem oracleNil_calls (a t : Array Value) (ha : a.size = 28) (ht : t.size = 7) (hone : ∀ v ∈ a.toList ++ t.toList, v.oneCell' = true) (who : Int) (hwho : a[1]? = some (.int .i64 who)) (w : World) :
    Calls Tryz.prog 5 #[.agg a, .agg t] w fun e w' => e = .returned (.bool true) ∧ Below w.heap.size w w' := by
  letI := argOps (a.toList ++ t.toList) hone
  have h1 : Ops.op 1 = .int .i64 who := by
    show (a.toList ++ t.toList).getD 1 .nilIface = _
    rw [List.getD_eq_getElem?_getD, List.getElem?_append_left (by simp [ha])]
    simp [hwho]
  refine calls_of_start (nilEnv_ok h1) (HR.empty _ w) (fun g hg => absurd hg (Nat.not_lt_zero _)) ?_ oracleNil_out
  have e1 : opqs 0 28 = opqs 0 a.toList.length := by simp [ha]
  have e2 : opqs 28 7 = opqs 28 t.toList.length := by simp [ht]
  rw [e1, e2]
  refine .cons (.agg (LR.opqs _ _ fun i v hv => ?_)) (.cons (.agg (LR.opqs _ _ fun i v hv => ?_)) .nil)
  · show v = (a.toList ++ t.toList).getD (0 + i) .nilIface
    have hlt : i < a.toList.length := (List.getElem?_eq_some_iff.1 hv).1
    rw [Nat.zero_add, List.getD_eq_getElem?_getD, List.getElem?_append_left hlt, hv]; rfl
  · show v = (a.toList ++ t.toList).getD (28 + i) .nilIface
    rw [List.getD_eq_getElem?_getD, List.getElem?_append_right (by simp [ha])]
    have : 28 + i - a.toList.length = i := by simp [ha]
    rw [this, hv]; rfl
end Go.Proofs.YtbnlcffnmlgomaaGreatDoor
