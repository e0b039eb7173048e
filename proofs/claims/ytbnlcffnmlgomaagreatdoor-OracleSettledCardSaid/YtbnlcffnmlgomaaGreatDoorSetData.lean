/-
  Values as data: how they are read, and held against one another.
-/
import Derived.Test.YtbnlcffnmlgomaaGreatDoorSetPlain
import Derived.Below
set_option linter.unusedSectionVars false
set_option linter.unusedVariables false
set_option linter.unusedSimpArgs false
namespace Go.Proofs.YtbnlcffnmlgomaaGreatDoor
open Go Go.RowKit

mutual
inductive V where
  | mk (k : Int) (b : Bool) (n : Int) (t : ByteArray) (l : VL) (o : ML)
inductive VL where
  | nil
  | cons (v : V) (l : VL)
inductive ML where
  | nil
  | cons (k : ByteArray) (v : V) (l : ML)
end

def V.k : V → Int | .mk k _ _ _ _ _ => k
def V.b : V → Bool | .mk _ b _ _ _ _ => b
def V.n : V → Int | .mk _ _ n _ _ _ => n
def V.t : V → ByteArray | .mk _ _ _ t _ _ => t
def V.l : V → VL | .mk _ _ _ _ l _ => l
def V.o : V → ML | .mk _ _ _ _ _ o => o
def VL.len : VL → Nat | .nil => 0 | .cons _ l => l.len + 1
def ML.len : ML → Nat | .nil => 0 | .cons _ _ l => l.len + 1
def VL.get? : VL → Nat → Option V
  | .nil, _ => none
  | .cons v _, 0 => some v
  | .cons _ l, i + 1 => l.get? i
def ML.get? : ML → Nat → Option (ByteArray × V)
  | .nil, _ => none
  | .cons k v _, 0 => some (k, v)
  | .cons _ _ l, i + 1 => l.get? i
def VL.drop : VL → Nat → VL
  | l, 0 => l
  | .nil, _ + 1 => .nil
  | .cons _ l, i + 1 => l.drop i
def ML.drop : ML → Nat → ML
  | l, 0 => l
  | .nil, _ + 1 => .nil
  | .cons _ _ l, i + 1 => l.drop i

def truth (b : Bool) : Int := if b = true then 1 else 0

mutual
def cmpV : V → V → Int
  | .mk k b n t l o, y => if k = y.k then (if k = 2 then truth b - truth y.b else if k = 3 then cmpI n y.n else if k = 4 then cmpB t y.t else if k = 5 then cmpVL l y.l else if k = 6 then cmpML o y.o else 0) else cmpI k y.k
def cmpVL : VL → VL → Int
  | .nil, .nil => 0
  | .nil, .cons _ _ => -1
  | .cons _ _, .nil => 1
  | .cons v l, .cons v' l' => if cmpV v v' = 0 then cmpVL l l' else cmpV v v'
def cmpML : ML → ML → Int
  | .nil, .nil => 0
  | .nil, .cons _ _ _ => -1
  | .cons _ _ _, .nil => 1
  | .cons k v l, .cons k' v' l' => if cmpB k k' = 0 then (if cmpV v v' = 0 then cmpML l l' else cmpV v v') else cmpB k k'
end

mutual
def V.deep : V → Nat | .mk _ _ _ _ l o => max l.deep o.deep + 1
def VL.deep : VL → Nat | .nil => 0 | .cons v l => max v.deep l.deep
def ML.deep : ML → Nat | .nil => 0 | .cons _ v l => max v.deep l.deep
end

theorem VL.deep_get : ∀ {l : VL} {i : Nat} {v : V}, l.get? i = some v → v.deep ≤ l.deep
  | .nil, _, _, h => by cases h
  | .cons x l, 0, v, h => by cases h; simp only [VL.deep]; omega
  | .cons x l, i + 1, v, h => by have := VL.deep_get (l := l) h; simp only [VL.deep]; omega
theorem ML.deep_get : ∀ {l : ML} {i : Nat} {p : ByteArray × V}, l.get? i = some p → p.2.deep ≤ l.deep
  | .nil, _, _, h => by cases h
  | .cons k x l, 0, v, h => by cases h; simp only [ML.deep]; omega
  | .cons k x l, i + 1, v, h => by have := ML.deep_get (l := l) h; simp only [ML.deep]; omega

theorem VL.get_some : ∀ {l : VL} {i : Nat}, i < l.len → ∃ v, l.get? i = some v
  | .nil, _, h => absurd h (Nat.not_lt_zero _)
  | .cons v l, 0, _ => ⟨v, rfl⟩
  | .cons v l, i + 1, h => VL.get_some (l := l) (by simp only [VL.len] at h; omega)
theorem ML.get_some : ∀ {l : ML} {i : Nat}, i < l.len → ∃ p, l.get? i = some p
  | .nil, _, h => absurd h (Nat.not_lt_zero _)
  | .cons k v l, 0, _ => ⟨(k, v), rfl⟩
  | .cons k v l, i + 1, h => ML.get_some (l := l) (by simp only [ML.len] at h; omega)
theorem VL.drop_get : ∀ {l : VL} {i : Nat} {v : V}, l.get? i = some v → l.drop i = .cons v (l.drop (i + 1))
  | .nil, _, _, h => by cases h
  | .cons x l, 0, v, h => by
    cases h
    cases l <;> rfl
  | .cons x l, i + 1, v, h => VL.drop_get (l := l) h
theorem ML.drop_get : ∀ {l : ML} {i : Nat} {p : ByteArray × V}, l.get? i = some p → l.drop i = .cons p.1 p.2 (l.drop (i + 1))
  | .nil, _, _, h => by cases h
  | .cons k x l, 0, v, h => by
    cases h
    cases l <;> rfl
  | .cons k x l, i + 1, v, h => ML.drop_get (l := l) h
theorem VL.drop_len : ∀ {l : VL} {i : Nat}, l.len ≤ i → l.drop i = .nil
  | .nil, 0, _ => rfl
  | .nil, _ + 1, _ => rfl
  | .cons v l, 0, h => by simp [VL.len] at h
  | .cons v l, i + 1, h => VL.drop_len (l := l) (by simp only [VL.len] at h; omega)
theorem ML.drop_len : ∀ {l : ML} {i : Nat}, l.len ≤ i → l.drop i = .nil
  | .nil, 0, _ => rfl
  | .nil, _ + 1, _ => rfl
  | .cons k v l, 0, h => by simp [ML.len] at h
  | .cons k v l, i + 1, h => ML.drop_len (l := l) (by simp only [ML.len] at h; omega)
theorem VL.drop_zero (l : VL) : l.drop 0 = l := by cases l <;> rfl
theorem ML.drop_zero (l : ML) : l.drop 0 = l := by cases l <;> rfl

/-- a step of two lists of values -/
theorem cmpVL_step {l l' : VL} {i : Nat} {v v' : V} (h : l.get? i = some v) (h' : l'.get? i = some v') :
    cmpVL (l.drop i) (l'.drop i) = if cmpV v v' = 0 then cmpVL (l.drop (i + 1)) (l'.drop (i + 1)) else cmpV v v' := by
  rw [VL.drop_get h, VL.drop_get h']; rfl
theorem cmpML_step {l l' : ML} {i : Nat} {p p' : ByteArray × V} (h : l.get? i = some p) (h' : l'.get? i = some p') :
    cmpML (l.drop i) (l'.drop i) = if cmpB p.1 p'.1 = 0 then (if cmpV p.2 p'.2 = 0 then cmpML (l.drop (i + 1)) (l'.drop (i + 1)) else cmpV p.2 p'.2) else cmpB p.1 p'.1 := by
  rw [ML.drop_get h, ML.drop_get h']; rfl
theorem cmpVL_end {l l' : VL} {i : Nat} (h : i ≤ l.len) (h' : i ≤ l'.len) (hn : ¬ (i < l.len ∧ i < l'.len)) : cmpVL (l.drop i) (l'.drop i) = cmpI l.len l'.len := by
  by_cases h1 : i < l.len
  · obtain ⟨v, hv⟩ := VL.get_some h1
    rw [VL.drop_get hv, VL.drop_len (by omega : l'.len ≤ i), cmpI_gt (by omega)]; rfl
  · rw [VL.drop_len (by omega : l.len ≤ i)]
    by_cases h2 : i < l'.len
    · obtain ⟨v, hv⟩ := VL.get_some h2
      rw [VL.drop_get hv, cmpI_lt (by omega)]; rfl
    · rw [VL.drop_len (by omega : l'.len ≤ i), cmpI_eq (by omega) (by omega)]; rfl
theorem cmpML_end {l l' : ML} {i : Nat} (h : i ≤ l.len) (h' : i ≤ l'.len) (hn : ¬ (i < l.len ∧ i < l'.len)) : cmpML (l.drop i) (l'.drop i) = cmpI l.len l'.len := by
  by_cases h1 : i < l.len
  · obtain ⟨v, hv⟩ := ML.get_some h1
    rw [ML.drop_get hv, ML.drop_len (by omega : l'.len ≤ i), cmpI_gt (by omega)]; rfl
  · rw [ML.drop_len (by omega : l.len ≤ i)]
    by_cases h2 : i < l'.len
    · obtain ⟨v, hv⟩ := ML.get_some h2
      rw [ML.drop_get hv, cmpI_lt (by omega)]; rfl
    · rw [ML.drop_len (by omega : l'.len ≤ i), cmpI_eq (by omega) (by omega)]; rfl

/-! ## how they lie in memory -/
def V.cells (v : V) (cl co : Value) : Array Value := #[.int .i64 v.k, .bool v.b, .int .i64 v.n, .string v.t, cl, co]
/-- a value's cells at a place -/
def ValAt (w : World) (b f : Nat) (v : V) (cl co : Value) : Prop :=
  w.cell? ⟨b, f, none⟩ = some (.int .i64 v.k) ∧ w.cell? ⟨b, f + 1, none⟩ = some (.bool v.b) ∧ w.cell? ⟨b, f + 2, none⟩ = some (.int .i64 v.n) ∧ w.cell? ⟨b, f + 3, none⟩ = some (.string v.t) ∧
    w.cell? ⟨b, f + 4, none⟩ = some cl ∧ w.cell? ⟨b, f + 5, none⟩ = some co

mutual
def RV (w : World) : V → Value → Value → Prop
  | .mk _ _ _ t l o, cl, co => t.size ≤ maxLen ∧ ((l = .nil ∧ ∃ p c, cl = .slice p 0 c) ∨ ∃ b f c, cl = .slice (some ⟨b, f, none⟩) l.len c ∧ l.len ≤ c ∧ c ≤ maxLen ∧ b < w.heap.size ∧ RowV w l b f) ∧
      ((o = .nil ∧ ∃ p c, co = .slice p 0 c) ∨ ∃ b f c, co = .slice (some ⟨b, f, none⟩) o.len c ∧ o.len ≤ c ∧ c ≤ maxLen ∧ b < w.heap.size ∧ RowM w o b f)
def RowV (w : World) : VL → Nat → Nat → Prop
  | .nil, _, _ => True
  | .cons v l, b, f => (∃ cl co, ValAt w b f v cl co ∧ RV w v cl co) ∧ RowV w l b (f + 6)
def RowM (w : World) : ML → Nat → Nat → Prop
  | .nil, _, _ => True
  | .cons k v l, b, f => (k.size ≤ maxLen ∧ w.cell? ⟨b, f, none⟩ = some (.string k) ∧ ∃ cl co, ValAt w b (f + 1) v cl co ∧ RV w v cl co) ∧ RowM w l b (f + 7)
end

theorem ValAt.mono {w w' : World} (hb : Below w.heap.size w w') {b f : Nat} {v : V} {cl co : Value} (hlt : b < w.heap.size) (h : ValAt w b f v cl co) : ValAt w' b f v cl co := by
  unfold ValAt at h ⊢
  have e : ∀ o, w'.cell? ⟨b, o, none⟩ = w.cell? ⟨b, o, none⟩ := fun o => hb.cell (p := ⟨b, o, none⟩) hlt
  simp only [e]; exact h
mutual
theorem RV.mono {w w' : World} (hb : Below w.heap.size w w') : ∀ {v : V} {cl co : Value}, RV w v cl co → RV w' v cl co
  | .mk _ _ _ t l o, cl, co, h => by
    unfold RV at h ⊢
    obtain ⟨h1, h2, h3⟩ := h
    refine ⟨h1, h2.imp id fun ⟨b, f, c, e, k1, k2, k3, k4⟩ => ⟨b, f, c, e, k1, k2, Nat.lt_of_lt_of_le k3 hb.size, RowV.mono hb k3 k4⟩, h3.imp id fun ⟨b, f, c, e, k1, k2, k3, k4⟩ => ⟨b, f, c, e, k1, k2, Nat.lt_of_lt_of_le k3 hb.size, RowM.mono hb k3 k4⟩⟩
theorem RowV.mono {w w' : World} (hb : Below w.heap.size w w') : ∀ {l : VL} {b f : Nat}, b < w.heap.size → RowV w l b f → RowV w' l b f
  | .nil, _, _, _, _ => by unfold RowV; trivial
  | .cons v l, b, f, hlt, h => by
    unfold RowV at h ⊢
    obtain ⟨⟨cl, co, h1, h2⟩, h3⟩ := h
    exact ⟨⟨cl, co, h1.mono hb hlt, RV.mono hb h2⟩, RowV.mono hb hlt h3⟩
theorem RowM.mono {w w' : World} (hb : Below w.heap.size w w') : ∀ {l : ML} {b f : Nat}, b < w.heap.size → RowM w l b f → RowM w' l b f
  | .nil, _, _, _, _ => by unfold RowM; trivial
  | .cons k v l, b, f, hlt, h => by
    unfold RowM at h ⊢
    obtain ⟨⟨h0, hk, cl, co, h1, h2⟩, h3⟩ := h
    exact ⟨⟨h0, by rw [hb.cell (p := ⟨b, f, none⟩) hlt]; exact hk, cl, co, h1.mono hb hlt, RV.mono hb h2⟩, RowM.mono hb hlt h3⟩
end

theorem RowV.at {w : World} : ∀ {l : VL} {b f i : Nat} {v : V}, RowV w l b f → l.get? i = some v → ∃ cl co, ValAt w b (f + 6 * i) v cl co ∧ RV w v cl co
  | .nil, _, _, _, _, _, h => by cases h
  | .cons x l, b, f, 0, v, hr, h => by
    unfold RowV at hr
    cases h
    exact hr.1
  | .cons x l, b, f, i + 1, v, hr, h => by
    unfold RowV at hr
    have := RowV.at hr.2 h
    rw [show f + 6 + 6 * i = f + 6 * (i + 1) by omega] at this
    exact this
theorem RowM.at {w : World} : ∀ {l : ML} {b f i : Nat} {p : ByteArray × V}, RowM w l b f → l.get? i = some p →
    p.1.size ≤ maxLen ∧ w.cell? ⟨b, f + 7 * i, none⟩ = some (.string p.1) ∧ ∃ cl co, ValAt w b (f + 7 * i + 1) p.2 cl co ∧ RV w p.2 cl co
  | .nil, _, _, _, _, _, h => by cases h
  | .cons k x l, b, f, 0, v, hr, h => by
    unfold RowM at hr
    cases h
    exact hr.1
  | .cons k x l, b, f, i + 1, v, hr, h => by
    unfold RowM at hr
    have := RowM.at hr.2 h
    rw [show f + 7 + 7 * i = f + 7 * (i + 1) by omega] at this
    exact this
end Go.Proofs.YtbnlcffnmlgomaaGreatDoor
