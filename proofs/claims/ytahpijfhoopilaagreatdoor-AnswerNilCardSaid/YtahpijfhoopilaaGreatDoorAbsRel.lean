/-
  THE ABSTRACT MACHINE: what its values, objects and heap stand for.
-/
import Derived.Test.YtahpijfhoopilaaGreatDoorAbsMach
import Derived.Below
import Derived.ArgAppend
import Derived.Calls
set_option linter.unusedSectionVars false
set_option linter.unusedVariables false
set_option linter.unusedSimpArgs false
namespace Go.Abs
open Go Go.RowKit

/-- where an abstract block lies: the block, the place of its first cell, how many cells that block has, the size of an element -/
structure BI where
  blk : Nat
  base : Nat
  cells : Nat
  esz : Nat

/-- the stamp of a map's entry at a place -/
def BI.st (i : BI) (p : Nat) : Nat := (i.cells / i.esz ^ p) % i.esz
theorem stamps_code : ∀ (B : Nat) (l : List Nat), (∀ s ∈ l, s < B) → ∃ c, ∀ p s, l[p]? = some s → (c / B ^ p) % B = s
  | B, [], _ => ⟨0, fun p s h => by simp at h⟩
  | B, x :: l, hb => by
    obtain ⟨c, hc⟩ := stamps_code B l fun s hs => hb s (List.mem_cons_of_mem _ hs)
    have hx := hb x List.mem_cons_self
    refine ⟨x + B * c, fun p s h => ?_⟩
    cases p with
    | zero =>
      simp only [List.getElem?_cons_zero, Option.some.injEq] at h
      subst h
      rw [Nat.pow_zero, Nat.div_one, Nat.add_mul_mod_self_left]
      exact Nat.mod_eq_of_lt hx
    | succ p =>
      have hB : 0 < B := by omega
      rw [Nat.pow_succ', ← Nat.div_div_eq_div_mul, Nat.add_mul_div_left _ _ hB, Nat.div_eq_of_lt hx, Nat.zero_add]
      exact hc p s (by simpa using h)

abbrev BM := Nat → Option BI
def BM.le (β β' : BM) : Prop := ∀ b i, β b = some i → β' b = some i
theorem BM.le_refl (β : BM) : β.le β := fun _ _ h => h
theorem BM.le_trans {a b c : BM} (h : a.le b) (h' : b.le c) : a.le c := fun x i hx => h' x i (h x i hx)
def BM.set (β : BM) (b : Nat) (i : BI) : BM := fun x => if x = b then some i else β x
theorem BM.set_same (β : BM) (b : Nat) (i : BI) : β.set b i b = some i := by simp [BM.set]
theorem BM.set_ne (β : BM) {b x : Nat} (i : BI) (h : x ≠ b) : β.set b i x = β x := by simp [BM.set, h]
theorem BM.le_set (β : BM) {b : Nat} (i : BI) (h : β b = none) : β.le (β.set b i) := fun x j hx => by
  by_cases e : x = b
  · subst e; rw [h] at hx; cases hx
  · rw [BM.set_ne _ _ e]; exact hx

/-- more blocks are known; none below a number -/
def BM.ext (nx : Nat) (β β' : BM) : Prop := β.le β' ∧ ∀ b, b < nx → β' b = β b
theorem BM.ext_refl (nx : Nat) (β : BM) : BM.ext nx β β := ⟨BM.le_refl _, fun _ _ => rfl⟩
theorem BM.ext_set {nx : Nat} (β : BM) (i : BI) (h : β nx = none) : BM.ext nx β (β.set nx i) := ⟨BM.le_set β i h, fun b hb => BM.set_ne β i (by omega)⟩

def CapR (i : BI) (o l c c' : Nat) : Prop :=
  (c < OPEN ∧ c' = c) ∨ (c = OPEN ∧ l ≤ c' ∧ i.base + o + c' * i.esz ≤ i.cells)

/-- values that the machine hands on without a look -/
class Ops where
  op : Nat → Value
  one : ∀ n, (op n).oneCell' = true
  cell : ∀ n, (op n).cells = #[op n]

variable [Ops]

/-- an opaque value: of a number, that one; of none, any -/
def OpqR : Option Nat → Value → Prop
  | some n, v' => v' = Ops.op n
  | none, _ => True
theorem OpqR.one {n : Nat} {v' : Value} (h : OpqR (some n) v') : v'.oneCell' = true := by rw [show v' = Ops.op n from h]; exact Ops.one n
theorem OpqR.cell {n : Nat} {v' : Value} (h : OpqR (some n) v') : v'.cells = #[v'] := by rw [show v' = Ops.op n from h]; exact Ops.cell n

mutual
inductive VR (β : BM) : Value → Value → Prop where
  | atom {v : Value} (h : atom v = true) : VR β v v
  | ptr {b o : Nat} {i : BI} (h : β b = some i) : VR β (.pointer (some ⟨b, o, none⟩)) (.pointer (some ⟨i.blk, i.base + o, none⟩))
  | slice {b o l c c' : Nat} {i : BI} (h : β b = some i) (hc : CapR i o l c c') : VR β (.slice (some ⟨b, o, none⟩) l c) (.slice (some ⟨i.blk, i.base + o, none⟩) l c')
  | map {b : Nat} {i : BI} (h : β b = some i) : VR β (.map (some b)) (.map (some i.blk))
  | func {f : FuncId} {a c a' c' : List Value} (ha : LR β a a') (hc : LR β c c') : VR β (.func (.func f) ⟨a⟩ ⟨c⟩) (.func (.func f) ⟨a'⟩ ⟨c'⟩)
  | yield {l : Nat} {i : BI} (h : β l = some i) : VR β (.func (.yield l) ⟨[]⟩ ⟨[]⟩) (.func (.yield i.blk) ⟨[]⟩ ⟨[]⟩)
  | iface {t : TypeId} {v v' : Value} (h : VR β v v') : VR β (.iface t v) (.iface t v')
  | agg {l l' : List Value} (h : LR β l l') : VR β (.agg ⟨l⟩) (.agg ⟨l'⟩)
  | tuple {l l' : List Value} (h : LR β l l') : VR β (.tuple ⟨l⟩) (.tuple ⟨l'⟩)
  | opq {c : Option Nat} {v' : Value} (h : OpqR c v') : VR β (.chan c) v'
  /-- an empty slice of which the place is not known -/
  | eslice {a' : Addr} {c' : Nat} : VR β (.slice (some ⟨0, 0, some 0⟩) 0 OPEN) (.slice (some a') 0 c')
inductive LR (β : BM) : List Value → List Value → Prop where
  | nil : LR β [] []
  | cons {v v' : Value} {l l' : List Value} (h : VR β v v') (hs : LR β l l') : LR β (v :: l) (v' :: l')
end

mutual
theorem VR.mono {β β' : BM} (hb : β.le β') {v v' : Value} : VR β v v' → VR β' v v'
  | .atom h => .atom h
  | .ptr h => .ptr (hb _ _ h)
  | .slice h hc => .slice (hb _ _ h) hc
  | .map h => .map (hb _ _ h)
  | .func ha hc => .func (LR.mono hb ha) (LR.mono hb hc)
  | .yield h => .yield (hb _ _ h)
  | .iface h => .iface (VR.mono hb h)
  | .agg h => .agg (LR.mono hb h)
  | .tuple h => .tuple (LR.mono hb h)
  | .opq h => .opq h
  | .eslice => .eslice
theorem LR.mono {β β' : BM} (hb : β.le β') {l l' : List Value} : LR β l l' → LR β' l l'
  | .nil => .nil
  | .cons h hs => .cons (VR.mono hb h) (LR.mono hb hs)
end

theorem LR.length {β : BM} : ∀ {l l' : List Value}, LR β l l' → l.length = l'.length
  | _, _, .nil => rfl
  | _, _, .cons _ hs => by simp [LR.length hs]

theorem LR.get {β : BM} : ∀ {l l' : List Value}, LR β l l' → ∀ {j : Nat} {v : Value}, l[j]? = some v → ∃ v', l'[j]? = some v' ∧ VR β v v'
  | _, _, .nil, j, v, h => by simp at h
  | _, _, .cons (v := a) (v' := a') h hs, 0, v, e => by simp at e; subst e; exact ⟨a', by simp, h⟩
  | _, _, .cons _ hs, j + 1, v, e => by simp at e ⊢; exact LR.get hs e

theorem LR.of_get {β : BM} : ∀ {l l' : List Value}, l.length = l'.length → (∀ (j : Nat) (v v' : Value), l[j]? = some v → l'[j]? = some v' → VR β v v') → LR β l l'
  | [], [], _, _ => .nil
  | [], _ :: _, h, _ => by simp at h
  | _ :: _, [], h, _ => by simp at h
  | x :: xs, y :: ys, h, hv => .cons (hv 0 x y (by simp) (by simp)) (LR.of_get (by simpa using h) fun j v v' h1 h2 => hv (j + 1) v v' (by simpa using h1) (by simpa using h2))

theorem LR.append {β : BM} {a a' b b' : List Value} (h : LR β a a') (h' : LR β b b') : LR β (a ++ b) (a' ++ b') := by
  induction a generalizing a' with
  | nil => cases h; exact h'
  | cons x xs ih => cases h with | cons hx hs => exact .cons hx (ih hs)

theorem LR.take {β : BM} {a a' : List Value} (h : LR β a a') (n : Nat) : LR β (a.take n) (a'.take n) := by
  induction a generalizing a' n with
  | nil => cases h; simp; exact .nil
  | cons x xs ih =>
    cases h with
    | cons hx hs =>
      cases n with
      | zero => simp; exact .nil
      | succ n => simp; exact .cons hx (ih hs n)

theorem LR.drop {β : BM} {a a' : List Value} (h : LR β a a') (n : Nat) : LR β (a.drop n) (a'.drop n) := by
  induction a generalizing a' n with
  | nil => cases h; simp; exact .nil
  | cons x xs ih =>
    cases n with
    | zero => simpa using h
    | succ n => cases h with | cons hx hs => simp; exact ih hs n

theorem LR.set {β : BM} {a a' : List Value} (h : LR β a a') {v v' : Value} (hv : VR β v v') (n : Nat) : LR β (a.set n v) (a'.set n v') := by
  induction a generalizing a' n with
  | nil => cases h; simp; exact .nil
  | cons x xs ih =>
    cases h with
    | cons hx hs =>
      cases n with
      | zero => simp; exact .cons hv hs
      | succ n => simp; exact .cons hx (ih hs n)

theorem LR.atoms {β : BM} : ∀ (l : List Value), l.all Abs.atom = true → LR β l l
  | [], _ => .nil
  | x :: xs, h => by simp at h; exact .cons (.atom h.1) (LR.atoms xs (by simpa using h.2))

theorem LR.replicate {β : BM} {v v' : Value} (h : VR β v v') : ∀ n, LR β (List.replicate n v) (List.replicate n v')
  | 0 => .nil
  | n + 1 => .cons h (LR.replicate h n)

theorem LR.flatten {β : BM} {a a' : List Value} (h : LR β a a') : ∀ n, LR β (List.replicate n a).flatten (List.replicate n a').flatten
  | 0 => .nil
  | n + 1 => by
    rw [List.replicate_succ, List.replicate_succ, List.flatten_cons, List.flatten_cons]
    exact h.append (LR.flatten h n)

theorem VR.of_af {β : BM} {v : Value} (h : af v = true) : VR β v v := by
  unfold af at h
  split at h
  · exact .agg (LR.atoms _ h)
  · exact .tuple (LR.atoms _ h)
  · exact .atom h

theorem VR.atom_eq {β : BM} {v v' : Value} (h : VR β v v') (ha : Abs.atom v = true) : v' = v := by
  cases h with
  | atom _ => rfl
  | ptr _ => simp [Abs.atom] at ha
  | slice _ _ => simp [Abs.atom] at ha
  | map _ => simp [Abs.atom] at ha
  | func h1 h2 =>
    cases h1 with
    | cons _ _ => simp [Abs.atom] at ha
    | nil =>
      cases h2 with
      | cons _ _ => simp [Abs.atom] at ha
      | nil => rfl
  | yield _ => simp [Abs.atom] at ha
  | iface _ => simp [Abs.atom] at ha
  | agg _ => simp [Abs.atom] at ha
  | tuple _ => simp [Abs.atom] at ha
  | opq _ => simp [Abs.atom] at ha
  | eslice => simp [Abs.atom] at ha

theorem LR.atoms_eq {β : BM} : ∀ {l l' : List Value}, LR β l l' → l.all Abs.atom = true → l' = l
  | _, _, .nil, _ => rfl
  | _, _, .cons h hs, ha => by
    simp at ha
    rw [VR.atom_eq h ha.1, LR.atoms_eq hs (by simpa using ha.2)]

theorem VR.af_eq {β : BM} {v v' : Value} (h : VR β v v') (ha : af v = true) : v' = v := by
  unfold af at ha
  split at ha
  · cases h with
    | atom _ => rfl
    | agg h => rw [LR.atoms_eq h ha]
  · cases h with
    | atom _ => rfl
    | tuple h => rw [LR.atoms_eq h ha]
  · exact VR.atom_eq h ha

/-! ### shapes -/
theorem VR.ptr_inv {β : BM} {b o : Nat} {v' : Value} (h : VR β (.pointer (some ⟨b, o, none⟩)) v') :
    ∃ i, β b = some i ∧ v' = .pointer (some ⟨i.blk, i.base + o, none⟩) := by
  cases h with
  | atom h => simp [Abs.atom] at h
  | ptr h => exact ⟨_, h, rfl⟩
theorem VR.slice_inv {β : BM} {b o l c : Nat} {v' : Value} (h : VR β (.slice (some ⟨b, o, none⟩) l c) v') :
    ∃ i c', β b = some i ∧ CapR i o l c c' ∧ v' = .slice (some ⟨i.blk, i.base + o, none⟩) l c' := by
  cases h with
  | atom h => simp [Abs.atom] at h
  | slice h hc => exact ⟨_, _, h, hc, rfl⟩
theorem VR.map_inv {β : BM} {b : Nat} {v' : Value} (h : VR β (.map (some b)) v') : ∃ i, β b = some i ∧ v' = .map (some i.blk) := by
  cases h with
  | atom h => simp [Abs.atom] at h
  | map h => exact ⟨_, h, rfl⟩
theorem VR.agg_inv {β : BM} {l : List Value} {v' : Value} (h : VR β (.agg ⟨l⟩) v') : ∃ l', LR β l l' ∧ v' = .agg ⟨l'⟩ := by
  cases h with
  | atom h => simp [Abs.atom] at h
  | agg h => exact ⟨_, h, rfl⟩
theorem VR.tuple_inv {β : BM} {l : List Value} {v' : Value} (h : VR β (.tuple ⟨l⟩) v') : ∃ l', LR β l l' ∧ v' = .tuple ⟨l'⟩ := by
  cases h with
  | atom h => simp [Abs.atom] at h
  | tuple h => exact ⟨_, h, rfl⟩
theorem VR.bool_inv {β : BM} {b : Bool} {v' : Value} (h : VR β (.bool b) v') : v' = .bool b := h.atom_eq rfl
theorem VR.int_inv {β : BM} {k : IntKind} {n : Int} {v' : Value} (h : VR β (.int k n) v') : v' = .int k n := h.atom_eq rfl
theorem VR.string_inv {β : BM} {s : ByteArray} {v' : Value} (h : VR β (.string s) v') : v' = .string s := h.atom_eq rfl
theorem VR.undef {β : BM} : VR β Go.undef Go.undef := .tuple .nil
theorem VR.func_inv {β : BM} {f : FuncId} {a c : List Value} {v' : Value} (h : VR β (.func (.func f) ⟨a⟩ ⟨c⟩) v') :
    ∃ a' c', LR β a a' ∧ LR β c c' ∧ v' = .func (.func f) ⟨a'⟩ ⟨c'⟩ := by
  cases h with
  | atom h =>
    cases a with
    | cons _ _ => simp [Abs.atom] at h
    | nil =>
      cases c with
      | cons _ _ => simp [Abs.atom] at h
      | nil => exact ⟨[], [], .nil, .nil, rfl⟩
  | func ha hc => exact ⟨_, _, ha, hc, rfl⟩

theorem isAny_of_af {v : Value} (h : af v = true) : isAny v = false := by
  cases v <;> first | rfl | simp [af, Abs.atom] at h
theorem isAny_of_one {v : Value} (h : (cellsL v).all Abs.oneCell = true) : isAny v = false := by
  cases v with
  | chan c =>
    cases c with
    | some n => rfl
    | none => simp [cellsL, Value.cells, Abs.oneCell] at h
  | _ => rfl

/-- the cells of a value -/
theorem VR.cells {β : BM} {v v' : Value} (h : VR β v v') (hany : isAny v = false) : LR β (cellsL v) v'.cells.toList := by
  cases h with
  | agg h => exact h
  | atom h => cases v <;> first | exact .cons (.atom h) .nil | simp [Abs.atom] at h
  | ptr h => exact .cons (.ptr h) .nil
  | slice h hc => exact .cons (.slice h hc) .nil
  | eslice => exact .cons .eslice .nil
  | map h => exact .cons (.map h) .nil
  | func ha hc => exact .cons (.func ha hc) .nil
  | yield h => exact .cons (.yield h) .nil
  | iface h => exact .cons (.iface h) .nil
  | tuple h => exact .cons (.tuple h) .nil
  | opq h =>
    rename_i c
    cases c with
    | none => cases hany
    | some n => rw [h.cell]; exact .cons (.opq h) .nil

theorem VR.oneCell {β : BM} {v v' : Value} (h : VR β v v') (ho : Abs.oneCell v = true) : v'.oneCell' = true := by
  cases h with
  | atom h => cases v <;> simp_all [Abs.oneCell, Value.oneCell']
  | agg h => simp [Abs.oneCell] at ho
  | tuple h => simp [Abs.oneCell] at ho
  | opq h =>
    rename_i c
    cases c with
    | none => cases ho
    | some n => exact h.one
  | _ => rfl

/-! ## deferred calls -/
inductive DR (β : BM) : Deferred → Deferred → Prop where
  | fn {f : FuncId} {c c' a a' : List Value} (hc : LR β c c') (ha : LR β a a') : DR β ⟨.fn (.func f) ⟨c⟩, ⟨a⟩⟩ ⟨.fn (.func f) ⟨c'⟩, ⟨a'⟩⟩
  | coll {b : Nat} {i : BI} (h : β b = some i) : DR β ⟨.collected b, ⟨[]⟩⟩ ⟨.collected i.blk, ⟨[]⟩⟩
inductive DLR (β : BM) : List Deferred → List Deferred → Prop where
  | nil : DLR β [] []
  | cons {d d' : Deferred} {l l' : List Deferred} (h : DR β d d') (hs : DLR β l l') : DLR β (d :: l) (d' :: l')
theorem DR.mono {β β' : BM} (hb : β.le β') {d d' : Deferred} (h : DR β d d') : DR β' d d' := by
  cases h with
  | fn hc ha => exact .fn (hc.mono hb) (ha.mono hb)
  | coll h => exact .coll (hb _ _ h)
theorem DLR.mono {β β' : BM} (hb : β.le β') {l l' : List Deferred} (h : DLR β l l') : DLR β' l l' := by
  induction h with
  | nil => exact .nil
  | cons h _ ih => exact .cons (h.mono hb) ih
theorem DLR.append {β : BM} {a a' b b' : List Deferred} (h : DLR β a a') (h' : DLR β b b') : DLR β (a ++ b) (a' ++ b') := by
  induction h with
  | nil => exact h'
  | cons h _ ih => exact .cons h ih

/-! ## objects -/
def keyAtom : Value → Bool
  | .int _ _ | .string _ | .bool _ => true
  | _ => false
/-- entries, one by one; exact: their stamps too -/
inductive ER (β : BM) (ex : Bool) : List (Value × Value × Nat) → List MapEntry → Prop where
  | nil : ER β ex [] []
  | cons {k v v' : Value} {n n' : Nat} {l : List (Value × Value × Nat)} {l' : List MapEntry} (hk : keyAtom k = true) (hv : VR β v v') (hn : ex = true → n' = n) (hs : ER β ex l l') :
      ER β ex ((k, v, n) :: l) (⟨k, v', n'⟩ :: l')
theorem ER.mono {β β' : BM} {ex : Bool} (hb : β.le β') {l : List (Value × Value × Nat)} {l' : List MapEntry} (h : ER β ex l l') : ER β' ex l l' := by
  induction h with
  | nil => exact .nil
  | cons hk hv hn _ ih => exact .cons hk (hv.mono hb) hn ih

/-- a map's entries; exact: in this order, with these stamps -/
def MR (β : BM) (ex : Bool) (es : List (Value × Value × Nat)) (es' : List MapEntry) : Prop :=
  ∃ es1, es1.Perm es ∧ (ex = true → es1 = es) ∧ ER β ex es1 es'
theorem MR.mono {β β' : BM} (hb : β.le β') {ex : Bool} {es : List (Value × Value × Nat)} {es' : List MapEntry} : MR β ex es es' → MR β' ex es es'
  | ⟨es1, h1, h2, h3⟩ => ⟨es1, h1, h2, h3.mono hb⟩

/-- the stamps of a map's entries: below its clock, each once -/
def BornOk (clock : Nat) (es : List MapEntry) : Prop := (∀ e ∈ es, e.born < clock) ∧ (es.map (·.born)).Nodup
theorem BornOk.nil (clock : Nat) : BornOk clock [] := ⟨fun _ h => (by cases h), .nil⟩
theorem BornOk.push {clock : Nat} {es : List MapEntry} (h : BornOk clock es) (k v : Value) : BornOk (clock + 1) (es ++ [⟨k, v, clock⟩]) := by
  refine ⟨fun e he => ?_, ?_⟩
  · rcases List.mem_append.1 he with he | he
    · have := h.1 e he; omega
    · simp only [List.mem_singleton] at he; subst he; exact Nat.lt_succ_self _
  · rw [List.map_append, List.nodup_append]
    refine ⟨h.2, by simp, fun a ha b hb e => ?_⟩
    simp only [List.map_cons, List.map_nil, List.mem_singleton] at hb
    subst hb e
    obtain ⟨e, he, h1⟩ := List.mem_map.1 ha
    have := h.1 e he
    omega
theorem BornOk.of_map {clock : Nat} {es es' : List MapEntry} (h : BornOk clock es) (he : es'.map (·.born) = es.map (·.born)) : BornOk clock es' := by
  refine ⟨fun e hm => ?_, by rw [he]; exact h.2⟩
  have : e.born ∈ es.map (·.born) := by rw [← he]; exact List.mem_map.2 ⟨e, hm, rfl⟩
  obtain ⟨e', h1, h2⟩ := List.mem_map.1 this
  rw [← h2]; exact h.1 e' h1

/-- each entry has a place -/
def SRel (β : BM) (i : BI) (es : List (Value × Value × Nat)) (es' : List MapEntry) : Prop :=
  ∀ e' ∈ es', ∃ (p : Nat) (e : Value × Value × Nat), es[p]? = some e ∧ MapEntry.born e' = i.st p ∧ MapEntry.key e' = e.1 ∧ keyAtom e.1 = true ∧ VR β e.2.1 (MapEntry.val e')
theorem SRel.mono {β β' : BM} (hb : β.le β') {i : BI} {es : List (Value × Value × Nat)} {es' : List MapEntry} (h : SRel β i es es') : SRel β' i es es' :=
  fun e' he => let ⟨p, e, h1, h2, h3, h4, h5⟩ := h e' he; ⟨p, e, h1, h2, h3, h4, h5.mono hb⟩

theorem ER.perm {β : BM} {ex : Bool} {a b : List (Value × Value × Nat)} (hp : a.Perm b) : ∀ {c : List MapEntry}, ER β ex a c → ∃ d, d.Perm c ∧ ER β ex b d := by
  induction hp with
  | nil => intro c h; exact ⟨c, .refl _, h⟩
  | cons x _ ih =>
    intro c h
    cases h with
    | cons hk hv hn hs =>
      obtain ⟨d, h1, h2⟩ := ih hs
      exact ⟨_, .cons _ h1, .cons hk hv hn h2⟩
  | swap x y l =>
    intro c h
    cases h with
    | cons hk hv hn hs =>
      cases hs with
      | cons hk' hv' hn' hs => exact ⟨_, .swap _ _ _, .cons hk' hv' hn' (.cons hk hv hn hs)⟩
  | trans _ _ ih1 ih2 =>
    intro c h
    obtain ⟨d, h1, h2⟩ := ih1 h
    obtain ⟨e, h3, h4⟩ := ih2 h2
    exact ⟨e, h3.trans h1, h4⟩

def OptR (β : BM) : Option Nat → Option Nat → Prop
  | none, none => True
  | some b, some k => ∃ i, β b = some i ∧ i.blk = k
  | _, _ => False
theorem OptR.mono {β β' : BM} (hb : β.le β') : ∀ {m m' : Option Nat}, OptR β m m' → OptR β' m m'
  | none, none, _ => trivial
  | some _, some _, ⟨i, h, e⟩ => ⟨i, hb _ _ h, e⟩
  | none, some _, h => h.elim
  | some _, none, h => h.elim

structure LoopR (β : BM) (r : ALoop) (r' : Loop) : Prop where
  state : r'.state = r.state
  pending : r'.pending = r.pending
  fn : r'.fn = r.fn
  tmps : LR β r.tmps r'.tmps.toList
  params : r'.params.toList = r.params
  assign : r'.assign = r.assign
  body : r'.body = r.body
  defers : ∃ j, β r.defers = some j ∧ r'.defers = j.blk
theorem LoopR.mono {β β' : BM} (hb : β.le β') {r : ALoop} {r' : Loop} (h : LoopR β r r') : LoopR β' r r' :=
  ⟨h.state, h.pending, h.fn, h.tmps.mono hb, h.params, h.assign, h.body, let ⟨j, h1, h2⟩ := h.defers; ⟨j, hb _ _ h1, h2⟩⟩

/-- the cells of a block -/
structure CR (N0 : Nat) (β : BM) (i : BI) (l : List Value) (kind : Nat) (c : Array Value) (fz : Nat × Nat) : Prop where
  size : c.size = i.cells
  get : ∀ (j : Nat) (v : Value), l[j]? = some v → ∃ v', c[i.base + j]? = some v' ∧ VR β v v'
  free : kind < 2 → ∀ j, (j < c.size ∨ (kind = 0 ∧ j = c.size)) → ¬ (fz.1 ≤ j ∧ j < fz.2)
  own : kind < 2 → N0 ≤ i.blk
  whole : kind = 0 → i.base = 0 ∧ c.size = l.length

def OR (C : Ctx) (N0 : Nat) (β : BM) (w : World) (i : BI) : AObj → Prop
  | .cells l et kind => ∃ c fz, w.heap[i.blk]? = some (.cells c et fz) ∧ CR N0 β i l kind c fz ∧ (kind = 1 → size? C et = some i.esz)
  | .map es clock ex => ∃ es', w.heap[i.blk]? = some (.map es' clock) ∧ N0 ≤ i.blk ∧ MR β ex es es'.toList ∧ BornOk clock es'.toList
  | .miter m since seen stepped => ∃ m', w.heap[i.blk]? = some (.mapIter m' since seen.toArray stepped) ∧ N0 ≤ i.blk ∧ OptR β m m' ∧ i.base = 0
  | .miterU m since => ∃ j seen stepped, w.heap[i.blk]? = some (.mapIter (some (BI.blk j)) since seen stepped) ∧ N0 ≤ i.blk ∧ β m = some j ∧ i.base = 0 ∧ since ≤ stepped
  | .miterC k v => ∃ mb since seen stepped es' stamp e, w.heap[i.blk]? = some (.mapIter (some mb) since seen stepped) ∧ i.blk < N0 ∧ w.heap[mb]? = some (.map es' stepped) ∧ mb < N0 ∧ seen.back? = some stamp ∧
      es'.find? (fun x => MapEntry.born x == stamp) = some e ∧ e.key = k ∧ keyAtom k = true ∧ VR β v e.val ∧ i.base = 0
  | .mapS es clock => ∃ es', w.heap[i.blk]? = some (.map es' clock) ∧ N0 ≤ i.blk ∧ SRel β i es es'.toList ∧ BornOk clock es'.toList
  | .miterS m since p => ∃ j seen stepped, w.heap[i.blk]? = some (.mapIter (some (BI.blk j)) since seen stepped) ∧ N0 ≤ i.blk ∧ β m = some j ∧ i.base = 0 ∧ since ≤ stepped ∧ j.st p ∈ seen
  | .loop r => ∃ r', w.heap[i.blk]? = some (.loop r') ∧ N0 ≤ i.blk ∧ LoopR β r r'
  | .defs none => w.heap[i.blk]? = some (.deferred none) ∧ N0 ≤ i.blk
  | .defs (some ds) => ∃ ds', w.heap[i.blk]? = some (.deferred (some ds')) ∧ N0 ≤ i.blk ∧ DLR β ds ds'

theorem CR.mono {N0 : Nat} {β β' : BM} (hb : β.le β') {i : BI} {l : List Value} {kind : Nat} {c : Array Value} {fz : Nat × Nat} (h : CR N0 β i l kind c fz) : CR N0 β' i l kind c fz :=
  ⟨h.size, fun j v hv => let ⟨v', h1, h2⟩ := h.get j v hv; ⟨v', h1, h2.mono hb⟩, h.free, h.own, h.whole⟩

theorem OR.mono {C : Ctx} {N0 : Nat} {β β' : BM} (hb : β.le β') {w w' : World} {i : BI} (hw : w'.heap[i.blk]? = w.heap[i.blk]?) (hN : ∀ k, k < N0 → w'.heap[k]? = w.heap[k]?) : ∀ {x : AObj}, OR C N0 β w i x → OR C N0 β' w' i x
  | .cells _ _ _, ⟨c, fz, h1, h2, h3⟩ => ⟨c, fz, hw.trans h1, h2.mono hb, h3⟩
  | .map _ _ _, ⟨es', h1, h2, h3, h4⟩ => ⟨es', hw.trans h1, h2, h3.mono hb, h4⟩
  | .miter _ _ _ _, ⟨m', h1, h2, h3, h4⟩ => ⟨m', hw.trans h1, h2, h3.mono hb, h4⟩
  | .miterU _ _, ⟨j, seen, stepped, h1, h2, h3, h4⟩ => ⟨j, seen, stepped, hw.trans h1, h2, hb _ _ h3, h4⟩
  | .miterC _ _, ⟨mb, since, seen, stepped, es', stamp, e, h1, h2, h3, h4, h5, h6, h7, h8, h9, h10⟩ => ⟨mb, since, seen, stepped, es', stamp, e, hw.trans h1, h2, (hN _ h4).trans h3, h4, h5, h6, h7, h8, h9.mono hb, h10⟩
  | .mapS _ _, ⟨es', h1, h2, h3, h4⟩ => ⟨es', hw.trans h1, h2, h3.mono hb, h4⟩
  | .miterS _ _ _, ⟨j, seen, stepped, h1, h2, h3, h4⟩ => ⟨j, seen, stepped, hw.trans h1, h2, hb _ _ h3, h4⟩
  | .loop _, ⟨r', h1, h2, h3⟩ => ⟨r', hw.trans h1, h2, h3.mono hb⟩
  | .defs none, ⟨h1, h2⟩ => ⟨hw.trans h1, h2⟩
  | .defs (some _), ⟨ds', h1, h2, h3⟩ => ⟨ds', hw.trans h1, h2, h3.mono hb⟩

/-! ## the heap -/
structure HR (C : Ctx) (N0 : Nat) (w0 : World) (β : BM) (H : AHeap) (nx : Nat) (w : World) : Prop where
  obj : ∀ b x, H.get b = some x → ∃ i, β b = some i ∧ OR C N0 β w i x
  inj : ∀ b b' x x' i i', H.get b = some x → H.get b' = some x' → β b = some i → β b' = some i' → i.blk = i'.blk → b = b'
  lt : ∀ b i, β b = some i → i.blk < w.heap.size
  fresh : ∀ b, nx ≤ b → β b = none
  below : Below N0 w0 w
  n0 : N0 ≤ w.heap.size

theorem HR.none_of_fresh {C : Ctx} {N0 : Nat} {w0 : World} {β : BM} {H : AHeap} {nx : Nat} {w : World} (h : HR C N0 w0 β H nx w) {b : Nat} (hb : nx ≤ b) : H.get b = none := by
  cases e : H.get b with
  | none => rfl
  | some x =>
    obtain ⟨i, h1, _⟩ := h.obj b x e
    rw [h.fresh b hb] at h1
    cases h1

theorem hput_same {H : AHeap} {b : Nat} {x : AObj} (hb : b < LIMIT) : (hput H b x).get b = some x :=
  BT.get_put_same _ _ _ _ (by unfold LIMIT at hb; unfold DEPTH; omega)
theorem hput_ne {H : AHeap} {b m : Nat} {x : AObj} (h : b ≠ m) : (hput H b x).get m = H.get m := BT.get_put_ne _ _ _ _ _ h
theorem hdel_same {H : AHeap} {b : Nat} (hb : b < LIMIT) : (hdel H b).get b = none :=
  BT.get_put_same _ _ _ _ (by unfold LIMIT at hb; unfold DEPTH; omega)
theorem hdel_ne {H : AHeap} {b m : Nat} (h : b ≠ m) : (hdel H b).get m = H.get m := BT.get_put_ne _ _ _ _ _ h

theorem HR.lt_nx {C : Ctx} {N0 : Nat} {w0 : World} {β : BM} {H : AHeap} {nx : Nat} {w : World} (h : HR C N0 w0 β H nx w) {b : Nat} {i : BI} (hb : β b = some i) : b < nx := by
  rcases Nat.lt_or_ge b nx with h' | h'
  · exact h'
  · rw [h.fresh b h'] at hb; cases hb

/-- nothing but one live block is another one -/
theorem HR.update {C : Ctx} {N0 : Nat} {w0 : World} {β : BM} {H : AHeap} {nx : Nat} {w w' : World} (h : HR C N0 w0 β H nx w) (hnx : nx < LIMIT) {b : Nat} {x x' : AObj} {i : BI}
    (hg : H.get b = some x) (hb : β b = some i) (hs : w'.heap.size = w.heap.size) (hw : ∀ k, k ≠ i.blk → w'.heap[k]? = w.heap[k]?)
    (hbe : Below N0 w w') (ho : OR C N0 β w' i x') : HR C N0 w0 β (hput H b x') nx w' := by
  have hlt := h.lt_nx hb
  refine ⟨fun c y hc => ?_, fun c d y y' j j' hc hd hj hj' e => ?_, fun c j hc => by rw [hs]; exact h.lt c j hc, h.fresh, h.below.trans hbe, by rw [hs]; exact h.n0⟩
  · by_cases e : b = c
    · subst e
      rw [hput_same (by omega)] at hc
      cases hc
      exact ⟨i, hb, ho⟩
    · rw [hput_ne e] at hc
      obtain ⟨j, hj, hoj⟩ := h.obj c y hc
      refine ⟨j, hj, hoj.mono (BM.le_refl _) (hw _ fun e' => e ?_) hbe.block⟩
      exact (h.inj c b y x j i hc hg hj hb e').symm
  · have live : ∀ c y, (hput H b x').get c = some y → ∃ y, H.get c = some y := fun c y hc => by
      by_cases e : b = c
      · subst e; exact ⟨x, hg⟩
      · rw [hput_ne e] at hc; exact ⟨y, hc⟩
    obtain ⟨z, hz⟩ := live c y hc
    obtain ⟨z', hz'⟩ := live d y' hd
    exact h.inj c d z z' j j' hz hz' hj hj' e

/-- a draw from the tape -/
theorem HR.drew {C : Ctx} {N0 : Nat} {w0 : World} {β : BM} {H : AHeap} {nx : Nat} {w : World} (h : HR C N0 w0 β H nx w) : HR C N0 w0 β H nx w.drew :=
  ⟨fun c y hc => let ⟨i, h1, h2⟩ := h.obj c y hc; ⟨i, h1, h2.mono (BM.le_refl _) rfl (fun _ _ => rfl)⟩, h.inj, h.lt, h.fresh, h.below.drew, h.n0⟩

/-- a new block -/
theorem HR.alloc {C : Ctx} {N0 : Nat} {w0 : World} {β : BM} {H : AHeap} {nx : Nat} {w : World} (h : HR C N0 w0 β H nx w) (hnx : nx < LIMIT) (o : Obj) {i : BI} {x : AObj}
    (hi : i.blk = w.heap.size) (ho : OR C N0 (β.set nx i) (w.alloc o) i x) : HR C N0 w0 (β.set nx i) (hput H nx x) (nx + 1) (w.alloc o) := by
  have hn := h.fresh nx (Nat.le_refl _)
  have hle := BM.le_set β i hn
  have old : ∀ k, k < w.heap.size → (w.alloc o).heap[k]? = w.heap[k]? := fun k hk => Below.heap_alloc w o k hk
  refine ⟨fun c y hc => ?_, fun c d y y' j j' hc hd hj hj' e => ?_, fun c j hc => ?_, fun c hc => ?_, h.below.alloc h.n0 _, by simp; have := h.n0; omega⟩
  · by_cases e : nx = c
    · subst e
      rw [hput_same hnx] at hc
      cases hc
      exact ⟨i, BM.set_same _ _ _, ho⟩
    · rw [hput_ne e] at hc
      obtain ⟨j, hj, hoj⟩ := h.obj c y hc
      exact ⟨j, hle _ _ hj, hoj.mono hle (old _ (h.lt _ _ hj)) (fun k hk => old k (Nat.lt_of_lt_of_le hk h.n0))⟩
  · by_cases e1 : nx = c
    · by_cases e2 : nx = d
      · exact e1.symm.trans e2
      · exfalso
        rw [hput_ne e2] at hd
        subst e1
        rw [BM.set_same] at hj
        rw [BM.set_ne _ _ (fun e => e2 e.symm)] at hj'
        cases hj
        have := h.lt _ _ hj'
        omega
    · by_cases e2 : nx = d
      · exfalso
        rw [hput_ne e1] at hc
        subst e2
        rw [BM.set_same] at hj'
        rw [BM.set_ne _ _ (fun e => e1 e.symm)] at hj
        cases hj'
        have := h.lt _ _ hj
        omega
      · rw [hput_ne e1] at hc
        rw [hput_ne e2] at hd
        rw [BM.set_ne _ _ (fun e => e1 e.symm)] at hj
        rw [BM.set_ne _ _ (fun e => e2 e.symm)] at hj'
        exact h.inj c d y y' j j' hc hd hj hj' e
  · by_cases e : c = nx
    · subst e
      rw [BM.set_same] at hc
      cases hc
      simp [hi]
    · rw [BM.set_ne _ _ e] at hc
      have := h.lt _ _ hc
      simp; omega
  · rw [BM.set_ne _ _ (by omega)]
    exact h.fresh c (by omega)

/-- a live block goes on under another number, where it lies, and is another one then -/
theorem HR.move {C : Ctx} {N0 : Nat} {w0 : World} {β : BM} {H : AHeap} {nx : Nat} {w w' : World} (h : HR C N0 w0 β H nx w) (hnx : nx < LIMIT) {b : Nat} {x x' : AObj} {i i' : BI}
    (hg : H.get b = some x) (hb : β b = some i) (hi : i'.blk = i.blk) (hs : w'.heap.size = w.heap.size) (hw : ∀ k, k ≠ i.blk → w'.heap[k]? = w.heap[k]?)
    (hbe : Below N0 w w') (ho : OR C N0 (β.set nx i') w' i' x') : HR C N0 w0 (β.set nx i') (hput (hdel H b) nx x') (nx + 1) w' := by
  have hn := h.fresh nx (Nat.le_refl _)
  have hle := BM.le_set β i' hn
  have hlt := h.lt_nx hb
  have live : ∀ c y, (hput (hdel H b) nx x').get c = some y → c = nx ∨ (c ≠ nx ∧ c ≠ b ∧ H.get c = some y) := fun c y hc => by
    by_cases e : nx = c
    · exact .inl e.symm
    · rw [hput_ne e] at hc
      by_cases e' : b = c
      · subst e'; rw [hdel_same (by omega)] at hc; cases hc
      · rw [hdel_ne e'] at hc
        exact .inr ⟨fun e2 => e e2.symm, fun e2 => e' e2.symm, hc⟩
  refine ⟨fun c y hc => ?_, fun c d y y' j j' hc hd hj hj' e => ?_, fun c j hc => ?_, fun c hc => ?_, h.below.trans hbe, by rw [hs]; exact h.n0⟩
  · rcases live c y hc with rfl | ⟨e, e', hc'⟩
    · rw [hput_same hnx] at hc
      cases hc
      exact ⟨i', BM.set_same _ _ _, ho⟩
    · obtain ⟨j, hj, hoj⟩ := h.obj c y hc'
      refine ⟨j, hle _ _ hj, hoj.mono hle (hw _ fun e2 => e' ?_) hbe.block⟩
      exact h.inj c b y x j i hc' hg hj hb e2
  · rcases live c y hc with rfl | ⟨e1, e1', hc'⟩
    · rcases live d y' hd with rfl | ⟨e2, e2', hd'⟩
      · rfl
      · exfalso
        rw [BM.set_same] at hj
        rw [BM.set_ne _ _ e2] at hj'
        cases hj
        exact e2' (h.inj d b y' x j' i hd' hg hj' hb (by omega))
    · rcases live d y' hd with rfl | ⟨e2, e2', hd'⟩
      · exfalso
        rw [BM.set_same] at hj'
        rw [BM.set_ne _ _ e1] at hj
        cases hj'
        exact e1' (h.inj c b y x j i hc' hg hj hb (by omega))
      · rw [BM.set_ne _ _ e1] at hj
        rw [BM.set_ne _ _ e2] at hj'
        exact h.inj c d y y' j j' hc' hd' hj hj' e
  · rw [hs]
    by_cases e : c = nx
    · subst e
      rw [BM.set_same] at hc
      cases hc
      rw [hi]
      exact h.lt _ _ hb
    · rw [BM.set_ne _ _ e] at hc
      exact h.lt _ _ hc
  · rw [BM.set_ne _ _ (by omega)]
    exact h.fresh c (by omega)

end Go.Abs
