/-
  THE ABSTRACT MACHINE: plain facts on its trees and lists.
-/
import Derived.Test.YtbnlcffnmlgomaaGreatDoorAbsStep
set_option linter.unusedSectionVars false
set_option linter.unusedVariables false
set_option linter.unusedSimpArgs false
namespace Go.Abs
open Go

theorem half_eq {m n : Nat} (h : m / 2 = n / 2) (h2 : m % 2 = n % 2) : m = n := by omega

theorem BT.get_nil {α : Type} (n : Nat) : (BT.nil : BT α).get n = none := rfl

theorem BT.get_node {α : Type} (l r : BT α) (v : Option α) (n : Nat) :
    (BT.node l v r).get n = if n = 0 then v else if (n - 1) % 2 = 0 then l.get ((n - 1) / 2) else r.get ((n - 1) / 2) := by
  cases n with
  | zero => rfl
  | succ m =>
    simp only [BT.get, Nat.add_sub_cancel, Nat.succ_ne_zero, if_false]
    cases h : m % 2 with
    | zero => simp
    | succ k => simp

theorem BT.put_nil {α : Type} (x : Option α) (f n : Nat) :
    BT.put x (f + 1) .nil n = if n = 0 then .node .nil x .nil else if (n - 1) % 2 = 0 then .node (BT.put x f .nil ((n - 1) / 2)) none .nil else .node .nil none (BT.put x f .nil ((n - 1) / 2)) := by
  cases n with
  | zero => rfl
  | succ m =>
    simp only [BT.put, Nat.add_sub_cancel, Nat.succ_ne_zero, if_false]
    cases h : m % 2 with
    | zero => simp
    | succ k => simp

theorem BT.put_node {α : Type} (x : Option α) (f : Nat) (l r : BT α) (v : Option α) (n : Nat) :
    BT.put x (f + 1) (.node l v r) n = if n = 0 then .node l x r else if (n - 1) % 2 = 0 then .node (BT.put x f l ((n - 1) / 2)) v r else .node l v (BT.put x f r ((n - 1) / 2)) := by
  cases n with
  | zero => rfl
  | succ m =>
    simp only [BT.put, Nat.add_sub_cancel, Nat.succ_ne_zero, if_false]
    cases h : m % 2 with
    | zero => simp
    | succ k => simp

theorem BT.get_put_ne {α : Type} (x : Option α) : ∀ (f : Nat) (t : BT α) (n m : Nat), n ≠ m → (BT.put x f t n).get m = t.get m
  | 0, t, n, m, _ => rfl
  | f + 1, .nil, n, m, h => by
    rw [BT.put_nil, BT.get_nil]
    by_cases hn : n = 0
    · subst hn
      rw [if_pos rfl, BT.get_node]
      rw [if_neg (by omega)]
      split <;> rfl
    · rw [if_neg hn]
      by_cases hn2 : (n - 1) % 2 = 0
      · rw [if_pos hn2, BT.get_node]
        by_cases hm : m = 0
        · rw [if_pos hm]
        · rw [if_neg hm]
          by_cases hm2 : (m - 1) % 2 = 0
          · rw [if_pos hm2, BT.get_put_ne x f _ _ _ (by omega)]; rfl
          · rw [if_neg hm2]; rfl
      · rw [if_neg hn2, BT.get_node]
        by_cases hm : m = 0
        · rw [if_pos hm]
        · rw [if_neg hm]
          by_cases hm2 : (m - 1) % 2 = 0
          · rw [if_pos hm2]; rfl
          · rw [if_neg hm2, BT.get_put_ne x f _ _ _ (by omega)]; rfl
  | f + 1, .node l v r, n, m, h => by
    rw [BT.put_node, BT.get_node]
    by_cases hn : n = 0
    · subst hn
      have hm : m ≠ 0 := fun e => h e.symm
      rw [if_pos rfl, BT.get_node, if_neg hm, if_neg hm]
    · rw [if_neg hn]
      by_cases hn2 : (n - 1) % 2 = 0
      · rw [if_pos hn2, BT.get_node]
        by_cases hm : m = 0
        · rw [if_pos hm, if_pos hm]
        · rw [if_neg hm, if_neg hm]
          by_cases hm2 : (m - 1) % 2 = 0
          · rw [if_pos hm2, if_pos hm2, BT.get_put_ne x f _ _ _ (by omega)]
          · rw [if_neg hm2, if_neg hm2]
      · rw [if_neg hn2, BT.get_node]
        by_cases hm : m = 0
        · rw [if_pos hm, if_pos hm]
        · rw [if_neg hm, if_neg hm]
          by_cases hm2 : (m - 1) % 2 = 0
          · rw [if_pos hm2, if_pos hm2]
          · rw [if_neg hm2, if_neg hm2, BT.get_put_ne x f _ _ _ (by omega)]

theorem BT.get_put_same {α : Type} (x : Option α) : ∀ (f : Nat) (t : BT α) (n : Nat), n + 1 < 2 ^ f → (BT.put x f t n).get n = x
  | 0, t, n, h => by simp at h
  | f + 1, .nil, n, h => by
    rw [BT.put_nil]
    by_cases hn : n = 0
    · rw [if_pos hn, BT.get_node, if_pos hn]
    · have h2 : (n - 1) / 2 + 1 < 2 ^ f := by rw [Nat.pow_succ] at h; omega
      rw [if_neg hn]
      by_cases hn2 : (n - 1) % 2 = 0
      · rw [if_pos hn2, BT.get_node, if_neg hn, if_pos hn2, BT.get_put_same x f _ _ h2]
      · rw [if_neg hn2, BT.get_node, if_neg hn, if_neg hn2, BT.get_put_same x f _ _ h2]
  | f + 1, .node l v r, n, h => by
    rw [BT.put_node]
    by_cases hn : n = 0
    · rw [if_pos hn, BT.get_node, if_pos hn]
    · have h2 : (n - 1) / 2 + 1 < 2 ^ f := by rw [Nat.pow_succ] at h; omega
      rw [if_neg hn]
      by_cases hn2 : (n - 1) % 2 = 0
      · rw [if_pos hn2, BT.get_node, if_neg hn, if_pos hn2, BT.get_put_same x f _ _ h2]
      · rw [if_neg hn2, BT.get_node, if_neg hn, if_neg hn2, BT.get_put_same x f _ _ h2]

theorem BT.get_put_or {α : Type} (x : Option α) : ∀ (f : Nat) (t : BT α) (n : Nat), (BT.put x f t n).get n = x ∨ (BT.put x f t n).get n = t.get n
  | 0, t, n => .inr rfl
  | f + 1, .nil, n => by
    rw [BT.put_nil]
    by_cases hn : n = 0
    · rw [if_pos hn, BT.get_node, if_pos hn]; exact .inl rfl
    · rw [if_neg hn]
      by_cases hn2 : (n - 1) % 2 = 0
      · rw [if_pos hn2, BT.get_node, if_neg hn, if_pos hn2]; exact BT.get_put_or x f .nil _
      · rw [if_neg hn2, BT.get_node, if_neg hn, if_neg hn2]; exact BT.get_put_or x f .nil _
  | f + 1, .node l v r, n => by
    rw [BT.put_node]
    by_cases hn : n = 0
    · rw [if_pos hn, BT.get_node, if_pos hn]; exact .inl rfl
    · rw [if_neg hn]
      by_cases hn2 : (n - 1) % 2 = 0
      · rw [if_pos hn2, BT.get_node, BT.get_node, if_neg hn, if_neg hn, if_pos hn2, if_pos hn2]; exact BT.get_put_or x f l _
      · rw [if_neg hn2, BT.get_node, BT.get_node, if_neg hn, if_neg hn, if_neg hn2, if_neg hn2]; exact BT.get_put_or x f r _

theorem BT.get_ofListFrom {α : Type} : ∀ (l : List α) (i : Nat) (t : BT α) (j : Nat) (x : α), (BT.ofListFrom l i t).get j = some x → (i ≤ j ∧ l[j - i]? = some x) ∨ t.get j = some x
  | [], _, _, _, _, h => .inr h
  | y :: ys, i, t, j, x, h => by
    rcases BT.get_ofListFrom ys (i + 1) _ j x h with ⟨h1, h2⟩ | h
    · refine .inl ⟨by omega, ?_⟩
      rw [show j - i = (j - (i + 1)) + 1 from by omega]
      exact h2
    · by_cases e : i = j
      · subst e
        rcases BT.get_put_or (some y) 20 t i with h' | h'
        · rw [h'] at h
          refine .inl ⟨Nat.le_refl _, ?_⟩
          rw [Nat.sub_self]
          exact h
        · rw [h'] at h; exact .inr h
      · rw [BT.get_put_ne _ _ _ _ _ e] at h; exact .inr h

theorem BT.get_ofList {α : Type} {l : List α} {j : Nat} {x : α} (h : (BT.ofList l).get j = some x) : l[j]? = some x := by
  rcases BT.get_ofListFrom l 0 .nil j x h with ⟨_, h⟩ | h
  · simpa using h
  · cases h

/-! ## lists -/
theorem lget_eq {α : Type} : ∀ (l : List α) (n : Nat), lget l n = l[n]?
  | [], n => by simp [lget]
  | x :: xs, 0 => rfl
  | x :: xs, n + 1 => by simp [lget, lget_eq xs n]

theorem lset_eq {α : Type} (v : α) : ∀ (l : List α) (n : Nat), lset v l n = l.set n v
  | [], n => by simp [lset]
  | x :: xs, 0 => rfl
  | x :: xs, n + 1 => by simp [lset, lset_eq v xs n]

theorem ldrop_eq {α : Type} : ∀ (l : List α) (n : Nat), ldrop l n = l.drop n
  | [], n => by simp [ldrop]
  | x :: xs, 0 => rfl
  | x :: xs, n + 1 => by simp [ldrop, ldrop_eq xs n]

theorem llen_eq {α : Type} : ∀ (l : List α) (n : Nat), llen l n = l.length + n
  | [], n => by simp [llen]
  | x :: xs, n => by simp [llen, llen_eq xs (n + 1)]; omega

theorem ltake?_spec {α : Type} : ∀ {l : List α} {n : Nat} {r : List α}, ltake? l n = some r → n ≤ l.length ∧ r = l.take n
  | l, 0, r, h => by simp [ltake?] at h; simp [h]
  | [], n + 1, r, h => by simp [ltake?] at h
  | x :: xs, n + 1, r, h => by
    simp only [ltake?] at h
    cases hx : ltake? xs n with
    | none => simp [hx] at h
    | some s =>
      simp only [hx, Option.some.injEq] at h
      obtain ⟨h1, h2⟩ := ltake?_spec hx
      subst h
      exact ⟨by simp; omega, by simp [h2]⟩

theorem lput?_spec {α : Type} : ∀ {l : List α} {o : Nat} {vs r : List α}, lput? l o vs = some r → o + vs.length ≤ l.length ∧ r = l.take o ++ vs ++ l.drop (o + vs.length)
  | l, 0, [], r, h => by simp [lput?] at h; simp [h]
  | [], 0, v :: vs, r, h => by simp [lput?] at h
  | x :: xs, 0, v :: vs, r, h => by
    simp only [lput?] at h
    cases hx : lput? xs 0 vs with
    | none => simp [hx] at h
    | some s =>
      simp only [hx, Option.some.injEq] at h
      obtain ⟨h1, h2⟩ := lput?_spec hx
      subst h
      exact ⟨by simp at h1 ⊢; omega, by simp at h2 ⊢; exact h2⟩
  | [], o + 1, vs, r, h => by cases vs <;> simp [lput?] at h
  | x :: xs, o + 1, vs, r, h => by
    have h' : (match lput? xs o vs with | some r => some (x :: r) | none => none) = some r := by cases vs <;> exact h
    cases hx : lput? xs o vs with
    | none => simp [hx] at h'
    | some s =>
      simp only [hx, Option.some.injEq] at h'
      obtain ⟨h1, h2⟩ := lput?_spec hx
      subst h'
      refine ⟨by simp; omega, ?_⟩
      rw [h2, show o + 1 + vs.length = (o + vs.length) + 1 from by omega]
      simp

theorem rep_eq {α : Type} (l : List α) : ∀ (n : Nat) (acc : List α), rep l n acc = (List.replicate n l).flatten ++ acc
  | 0, acc => by simp [rep]
  | n + 1, acc => by
    rw [rep, rep_eq l n]
    rw [List.replicate_succ', List.flatten_append]
    simp

theorem fill_eq {α : Type} (x : α) : ∀ (n : Nat) (acc : List α), fill x n acc = List.replicate n x ++ acc
  | 0, acc => by simp [fill]
  | n + 1, acc => by
    rw [fill, fill_eq x n, List.replicate_succ']
    simp

theorem qrun_sound {α : Type} {P : Program} : ∀ {s : Sem α} {a : α}, qrun P s = some a → ∀ w, s.run P w = .ok a w
  | .pure a, b, h, w => by simp only [qrun, Option.some.injEq] at h; subst h; rfl
  | .program k, b, h, w => by simp only [qrun] at h; simp only [Sem.run]; exact qrun_sound h w
  | .mark m k, b, h, w => by simp only [qrun] at h; simp only [Sem.run]; exact qrun_sound h w
  | .load .., b, h, w => by simp [qrun] at h
  | .store .., b, h, w => by simp [qrun] at h
  | .new .., b, h, w => by simp [qrun] at h
  | .shape .., b, h, w => by simp [qrun] at h
  | .freeze .., b, h, w => by simp [qrun] at h
  | .frozen .., b, h, w => by simp [qrun] at h
  | .getObj .., b, h, w => by simp [qrun] at h
  | .setObj .., b, h, w => by simp [qrun] at h
  | .choose .., b, h, w => by simp [qrun] at h
  | .sys .., b, h, w => by simp [qrun] at h
  | .halt _, b, h, w => by simp [qrun] at h

end Go.Abs
