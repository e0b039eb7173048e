/-
  THE ABSTRACT MACHINE: A CALL THAT WAS RUN ONCE serves wherever it is made with the like arguments, over the like memory.
-/
import Derived.Test.YtahpijfhoopilaaGreatDoorAbsLoop4
set_option linter.unusedSectionVars false
set_option linter.unusedVariables false
set_option linter.unusedSimpArgs false
namespace Go.Abs
open Go

abbrev NN := List (Nat × Nat)

def look : NN → Nat → Option Nat
  | [], _ => none
  | (a, c) :: m, b => match Nat.beq a b with
    | true => some c
    | false => look m b

def bind1 (b c : Nat) (m : NN) : Option NN :=
  match look m b with
  | some c' => match Nat.beq c c' with
    | true => some m
    | false => none
  | none => some ((b, c) :: m)

def unifL (u : Value → Value → NN → Option NN) : List Value → List Value → NN → Option NN
  | [], [], m => some m
  | a :: as, b :: bs, m => match u a b m with
    | some m => unifL u as bs m
    | none => none
  | _, _, _ => none

/-- a pattern's blocks, told by a value: -/
def unifV : Nat → Value → Value → NN → Option NN
  | 0, a, b, m => match atom a && eqv 1 a b with
    | true => some m
    | false => none
  | n + 1, a, b, m => match atom a with
    | true => match eqv 1 a b with
      | true => some m
      | false => none
    | false => match a with
      | .pointer (some ⟨p, o, none⟩) => match b with
        | .pointer (some ⟨q, o', none⟩) => match Nat.beq o o' with
          | true => bind1 p q m
          | false => none
        | _ => none
      | .slice (some ⟨p, o, none⟩) l k => match b with
        | .slice (some ⟨q, o', none⟩) l' k' => match Nat.beq o o' && (Nat.beq l l' && Nat.beq k k') with
          | true => bind1 p q m
          | false => none
        | _ => none
      | .func (.func f) ⟨x⟩ ⟨c⟩ => match b with
        | .func (.func g) ⟨x'⟩ ⟨c'⟩ => match Nat.beq f g with
          | true => match unifL (unifV n) x x' m with
            | some m => unifL (unifV n) c c' m
            | none => none
          | false => none
        | _ => none
      | .iface t v => match b with
        | .iface t' v' => match Nat.beq t t' with
          | true => unifV n v v' m
          | false => none
        | _ => none
      | .agg ⟨x⟩ => match b with
        | .agg ⟨x'⟩ => unifL (unifV n) x x' m
        | _ => none
      | .tuple ⟨x⟩ => match b with
        | .tuple ⟨x'⟩ => unifL (unifV n) x x' m
        | _ => none
      | .chan (some i) => match b with
        | .chan (some j) => match Nat.beq i j with
          | true => some m
          | false => none
        | _ => none
      | _ => none

/-- the pattern's blocks, one by one -/
def unifO : List (List Value × TypeId) → Nat → AHeap → NN → Option NN
  | [], _, _, m => some m
  | (l, et) :: ps, j, H, m => match look m j with
    | some c => match H.get c with
      | some (.cells l' et' _) => match Nat.beq et et' with
        | true => match unifL (unifV 6) l l' m with
          | some m => unifO ps (j + 1) H m
          | none => none
        | false => none
      | _ => none
    | none => none

def notIn (c : Nat) : NN → Bool
  | [] => true
  | (_, d) :: m => !(Nat.beq c d) && notIn c m
def distinct : NN → Bool
  | [] => true
  | (_, c) :: m => notIn c m && distinct m

def keysLt (p : Nat) : NN → Bool
  | [] => true
  | (b, _) :: m => Nat.blt b p && keysLt p m

def renL (r : Value → Option Value) : List Value → Option (List Value)
  | [] => some []
  | v :: vs => match r v, renL r vs with
    | some u, some us => some (u :: us)
    | _, _ => none

/-- a value under other numbers -/
def renV (f : Nat → Option Nat) : Nat → Value → Option Value
  | 0, v => match atom v with
    | true => some v
    | false => none
  | n + 1, v => match v with
    | .pointer (some ⟨b, o, none⟩) => match f b with
      | some c => some (.pointer (some ⟨c, o, none⟩))
      | none => none
    | .slice (some ⟨b, o, none⟩) l k => match f b with
      | some c => some (.slice (some ⟨c, o, none⟩) l k)
      | none => none
    | .map (some b) => match f b with
      | some c => some (.map (some c))
      | none => none
    | .func (.func g) ⟨x⟩ ⟨c⟩ => match renL (renV f n) x, renL (renV f n) c with
      | some x, some c => some (.func (.func g) ⟨x⟩ ⟨c⟩)
      | _, _ => none
    | .iface t v => match renV f n v with
      | some v => some (.iface t v)
      | none => none
    | .agg ⟨x⟩ => match renL (renV f n) x with
      | some x => some (.agg ⟨x⟩)
      | none => none
    | .tuple ⟨x⟩ => match renL (renV f n) x with
      | some x => some (.tuple ⟨x⟩)
      | none => none
    | .chan c => some (.chan c)
    | v => match atom v with
      | true => some v
      | false => none

def renE (f : Nat → Option Nat) : List (Value × Value × Nat) → Option (List (Value × Value × Nat))
  | [] => some []
  | (k, v, n) :: es => match renV f 8 v, renE f es with
    | some u, some us => some ((k, u, n) :: us)
    | _, _ => none

/-- an object under other numbers -/
def renO (f : Nat → Option Nat) : AObj → Option AObj
  | .cells l et k => match renL (renV f 8) l with
    | some l => some (.cells l et k)
    | none => none
  | .map es c ex => match renE f es with
    | some es => some (.map es c ex)
    | none => none
  | _ => none
def renOs (f : Nat → Option Nat) : List AObj → Option (List AObj)
  | [] => some []
  | x :: xs => match renO f x, renOs f xs with
    | some y, some ys => some (y :: ys)
    | _, _ => none

/-- a call that was run: its arguments' blocks are numbered from 0 on, those that it made go on behind them -/
structure Memo where
  pre : List (List Value × TypeId)
  args : List Value
  v : Value
  xs : List AObj

def inst (m : NN) (p nx : Nat) (b : Nat) : Option Nat :=
  match Nat.blt b p with
  | true => look m b
  | false => some (nx + (b - p))

def conM (M : Memo) : Con := fun H nx args =>
  match unifL (unifV 8) M.args args [] with
  | some m => match unifO M.pre 0 H m with
    | some m => match distinct m && keysLt (llen M.pre 0) m with
      | true => match renV (inst m (llen M.pre 0) nx) 8 M.v, renOs (inst m (llen M.pre 0) nx) M.xs with
        | some v, some xs => some (v, xs)
        | _, _ => none
      | false => none
    | none => none
  | none => none

def idx : List Nat → Nat → Nat → Option Nat
  | [], _, _ => none
  | c :: cs, b, k => match Nat.beq c b with
    | true => some k
    | false => idx cs b (k + 1)
def canon (p : Nat) (out : List Nat) (b : Nat) : Option Nat :=
  match Nat.blt b p with
  | true => some b
  | false => idx out b p

def ownObj : AObj → Bool
  | .cells _ _ k => Nat.blt k 2
  | .map .. => true
  | _ => false
def grab (f : Nat → Option Nat) (H : AHeap) : List Nat → Option (List AObj)
  | [] => some []
  | b :: bs => match H.get b with
    | some x => match ownObj x, renO f x, grab f H bs with
      | true, some y, some ys => some (y :: ys)
      | _, _, _ => none
    | none => none
def nodupN : List Nat → Bool
  | [] => true
  | b :: bs => !(memN b bs) && nodupN bs

def preHeap (pre : List (List Value × TypeId)) : AHeap := hputs .nil 0 (pre.map fun x => .cells x.1 x.2 2)

/-- the run that a memo tells of -/
def memoRun (E : Env) (hints : BT (List Nat)) (g : FuncId) (n : Nat) (pre : List (List Value × TypeId)) (args : List Value) (out : List Nat) : Option ((Value × List AObj) × List Obl) :=
  match enterF E g args .normal with
  | some fr => match runL E hints n { top := fr, callers := [], heap := preHeap pre, next := llen pre 0 } [] with
    | some (s, os) => match atEnd s && (Nat.beq s.top.fn g && (nodupN out && Nat.blt (llen pre 0) 490000)), s.top.kind, E.fns.get g with
      | true, .normal, some fn => match resultsL E.toCtx s.heap s.top.tmps fn.results.toList with
        | some vs => match renV (canon (llen pre 0) out) 8 (oneV vs), grab (canon (llen pre 0) out) s.heap out with
          | some v, some xs => some ((v, xs), os)
          | _, _ => none
        | none => none
      | _, _, _ => none
    | none => none
  | none => none

def memoL (r : Option ((Value × List AObj) × List Obl)) : Option ((Value × List AObj) × List (List AItem × List Value)) :=
  match r with
  | some (p, os) => some (p, os.map (·.a))
  | none => none
def memoR (v : Value) (xs : List AObj) (r : Option ((Value × List AObj) × List Obl)) : Option ((Value × List AObj) × List (List AItem × List Value)) :=
  match r with
  | some (_, os) => some ((v, xs), os.map (·.b))
  | none => some ((v, xs), [])
theorem memo_split {v : Value} {xs : List AObj} {r : Option ((Value × List AObj) × List Obl)} (h : memoL r = memoR v xs r) : ∃ os, r = some ((v, xs), os) ∧ ∀ x ∈ os, x.a = x.b := by
  cases r with
  | none => cases h
  | some q =>
    obtain ⟨p, os⟩ := q
    simp only [memoL, memoR, Option.some.injEq, Prod.mk.injEq] at h
    refine ⟨os, by rw [h.1], fun x hx => ?_⟩
    have hm := h.2
    clear h
    induction os with
    | nil => cases hx
    | cons y ys ih =>
      simp only [List.map_cons, List.cons.injEq] at hm
      rcases List.mem_cons.1 hx with rfl | hx
      · exact hm.1
      · exact ih hx hm.2

/-! ## that it stands for the call -/
def NExt (m m' : NN) : Prop := ∀ b c, look m b = some c → look m' b = some c
theorem NExt.refl (m : NN) : NExt m m := fun _ _ h => h
theorem NExt.trans {a b c : NN} (h : NExt a b) (k : NExt b c) : NExt a c := fun x y hx => k x y (h x y hx)

def bm (β : BM) (m : NN) : BM := fun b => (look m b).bind β
theorem bm_le {β : BM} {m m' : NN} (h : NExt m m') : (bm β m).le (bm β m') := fun b i hi => by
  unfold bm at hi ⊢
  cases hl : look m b with
  | none => rw [hl] at hi; cases hi
  | some c => rw [hl] at hi; rw [h b c hl]; exact hi

theorem bind1_spec {b c : Nat} {m m' : NN} (h : bind1 b c m = some m') : NExt m m' ∧ look m' b = some c := by
  unfold bind1 at h
  split at h
  · rename_i c' hl
    split at h
    · rename_i hc
      have := Nat.eq_of_beq_eq_true hc
      subst this
      cases h
      exact ⟨NExt.refl _, hl⟩
    · cases h
  · rename_i hl
    cases h
    refine ⟨fun x y hx => ?_, ?_⟩
    · simp only [look]
      by_cases e : b = x
      · subst e; rw [hl] at hx; cases hx
      · have : Nat.beq b x = false := by cases hq : Nat.beq b x with
          | false => rfl
          | true => exact absurd (Nat.eq_of_beq_eq_true hq) e
        rw [this]; exact hx
    · simp only [look, Nat.beq_refl]

variable [Ops]

def UnifOk (u : Value → Value → NN → Option NN) : Prop :=
  ∀ (a b : Value) (m m' : NN), u a b m = some m' → NExt m m' ∧ ∀ (β : BM) (v' : Value), VR β b v' → VR (bm β m') a v'

theorem unifL_ok {u : Value → Value → NN → Option NN} (hu : UnifOk u) : ∀ {as bs : List Value} {m m' : NN}, unifL u as bs m = some m' →
    NExt m m' ∧ ∀ (β : BM) (vs' : List Value), LR β bs vs' → LR (bm β m') as vs'
  | [], [], m, m', h => by
    simp only [unifL, Option.some.injEq] at h
    subst h
    exact ⟨NExt.refl _, fun β vs' hl => by rw [LR.nil_inv hl]; exact .nil⟩
  | [], _ :: _, m, m', h => by simp [unifL] at h
  | _ :: _, [], m, m', h => by simp [unifL] at h
  | a :: as, b :: bs, m, m', h => by
    simp only [unifL] at h
    split at h
    · rename_i m1 h1
      obtain ⟨e1, k1⟩ := hu _ _ _ _ h1
      obtain ⟨e2, k2⟩ := unifL_ok hu h
      refine ⟨e1.trans e2, fun β vs' hl => ?_⟩
      obtain ⟨y, ys, rfl, p1, p2⟩ := LR.cons_inv hl
      exact .cons ((k1 β y p1).mono (bm_le e2)) (k2 β ys p2)
    · cases h

theorem unifV_ok : ∀ (n : Nat), UnifOk (unifV n)
  | 0 => fun a b m m' h => by
    unfold unifV at h
    split at h
    · rename_i hc
      simp only [Bool.and_eq_true] at hc
      cases h
      have := eqv_eq _ _ _ hc.2
      subst this
      exact ⟨NExt.refl _, fun β v' hv => by rw [hv.atom_eq hc.1]; exact .atom hc.1⟩
    · cases h
  | n + 1 => fun a b m m' h => by
    have ih := unifV_ok n
    unfold unifV at h
    split at h
    · rename_i ha
      split at h
      · rename_i hc
        cases h
        have := eqv_eq _ _ _ hc
        subst this
        exact ⟨NExt.refl _, fun β v' hv => by rw [hv.atom_eq ha]; exact .atom ha⟩
      · cases h
    · split at h
      · split at h
        · split at h
          · rename_i ho
            have := Nat.eq_of_beq_eq_true ho
            subst this
            obtain ⟨e1, e2⟩ := bind1_spec h
            refine ⟨e1, fun β v' hv => ?_⟩
            obtain ⟨i, hi, rfl⟩ := hv.ptr_inv
            exact .ptr (by unfold bm; rw [e2]; exact hi)
          · cases h
        · cases h
      · split at h
        · split at h
          · rename_i ho
            simp only [Bool.and_eq_true] at ho
            have e1 := Nat.eq_of_beq_eq_true ho.1
            have e2 := Nat.eq_of_beq_eq_true ho.2.1
            have e3 := Nat.eq_of_beq_eq_true ho.2.2
            subst e1 e2 e3
            obtain ⟨e1, e2⟩ := bind1_spec h
            refine ⟨e1, fun β v' hv => ?_⟩
            obtain ⟨i, c', hi, hc, rfl⟩ := hv.slice_inv
            exact .slice (by unfold bm; rw [e2]; exact hi) hc
          · cases h
        · cases h
      · split at h
        · split at h
          · rename_i hf
            have := Nat.eq_of_beq_eq_true hf
            subst this
            split at h
            · rename_i m1 h1
              obtain ⟨e1, k1⟩ := unifL_ok ih h1
              obtain ⟨e2, k2⟩ := unifL_ok ih h
              refine ⟨e1.trans e2, fun β v' hv => ?_⟩
              obtain ⟨x', c', p1, p2, rfl⟩ := hv.func_inv
              exact .func ((k1 β _ p1).mono (bm_le e2)) (k2 β _ p2)
            · cases h
          · cases h
        · cases h
      · split at h
        · split at h
          · rename_i ht
            have := Nat.eq_of_beq_eq_true ht
            subst this
            obtain ⟨e1, k1⟩ := ih _ _ _ _ h
            refine ⟨e1, fun β v' hv => ?_⟩
            cases hv with
            | atom h => simp [Abs.atom] at h
            | iface hv => exact .iface (k1 β _ hv)
          · cases h
        · cases h
      · split at h
        · obtain ⟨e1, k1⟩ := unifL_ok ih h
          refine ⟨e1, fun β v' hv => ?_⟩
          obtain ⟨l', hl, rfl⟩ := hv.agg_inv
          exact .agg (k1 β _ hl)
        · cases h
      · split at h
        · obtain ⟨e1, k1⟩ := unifL_ok ih h
          refine ⟨e1, fun β v' hv => ?_⟩
          obtain ⟨l', hl, rfl⟩ := hv.tuple_inv
          exact .tuple (k1 β _ hl)
        · cases h
      · split at h
        · split at h
          · rename_i hi
            have := Nat.eq_of_beq_eq_true hi
            subst this
            cases h
            refine ⟨NExt.refl _, fun β v' hv => ?_⟩
            cases hv with
            | atom h => simp [Abs.atom] at h
            | opq ho => exact .opq ho
          · cases h
        · cases h
      · cases h

theorem unifO_ok : ∀ {ps : List (List Value × TypeId)} {j : Nat} {H : AHeap} {m m' : NN}, unifO ps j H m = some m' →
    NExt m m' ∧ ∀ (k : Nat) (l : List Value) (et : TypeId), ps[k]? = some (l, et) → ∃ c l' kind, look m' (j + k) = some c ∧ H.get c = some (.cells l' et kind) ∧ ∀ (β : BM) (vs' : List Value), LR β l' vs' → LR (bm β m') l vs'
  | [], j, H, m, m', h => by
    simp only [unifO, Option.some.injEq] at h
    subst h
    exact ⟨NExt.refl _, fun k l et hk => by simp at hk⟩
  | (l, et) :: ps, j, H, m, m', h => by
    simp only [unifO] at h
    split at h
    · rename_i c hc
      split at h
      · rename_i l' et' kind hg
        split at h
        · rename_i he
          have := Nat.eq_of_beq_eq_true he
          subst this
          split at h
          · rename_i m1 h1
            obtain ⟨e1, k1⟩ := unifL_ok (unifV_ok 6) h1
            obtain ⟨e2, k2⟩ := unifO_ok h
            refine ⟨e1.trans e2, fun k l2 et2 hk => ?_⟩
            cases k with
            | zero =>
              simp only [List.getElem?_cons_zero, Option.some.injEq, Prod.mk.injEq] at hk
              obtain ⟨rfl, rfl⟩ := hk
              exact ⟨c, l', kind, e2 _ _ (e1 _ _ hc), hg, fun β vs' hl => (k1 β vs' hl).mono (bm_le e2)⟩
            | succ k =>
              obtain ⟨c2, l2', kind2, q1, q2, q3⟩ := k2 k l2 et2 (by simpa using hk)
              exact ⟨c2, l2', kind2, by rw [show j + (k + 1) = j + 1 + k from by omega]; exact q1, q2, q3⟩
          · cases h
        · cases h
      · cases h
    · cases h

omit [Ops] in
theorem notIn_spec {c : Nat} : ∀ {m : NN}, notIn c m = true → ∀ b, look m b ≠ some c
  | [], _, b, h => by simp [look] at h
  | (a, d) :: m, hn, b, h => by
    simp only [notIn, Bool.and_eq_true, Bool.not_eq_true'] at hn
    simp only [look] at h
    split at h
    · cases h
      simp at hn
    · exact notIn_spec hn.2 b h
omit [Ops] in
theorem distinct_spec : ∀ {m : NN}, distinct m = true → ∀ {b b' c : Nat}, look m b = some c → look m b' = some c → b = b'
  | [], _, b, b', c, h, _ => by simp [look] at h
  | (a, d) :: m, hd, b, b', c, h, h' => by
    simp only [distinct, Bool.and_eq_true] at hd
    simp only [look] at h h'
    split at h
    · rename_i e1
      cases h
      split at h'
      · rename_i e2
        rw [← Nat.eq_of_beq_eq_true e1, ← Nat.eq_of_beq_eq_true e2]
      · exact absurd h' (notIn_spec hd.1 b')
    · split at h'
      · cases h'
        exact absurd h (notIn_spec hd.1 b)
      · exact distinct_spec hd.2 h h'

omit [Ops] in
theorem keysLt_spec {p : Nat} : ∀ {m : NN}, keysLt p m = true → ∀ {b c : Nat}, look m b = some c → b < p
  | [], _, b, c, h => by simp [look] at h
  | (a, d) :: m, hd, b, c, h => by
    simp only [keysLt, Bool.and_eq_true] at hd
    simp only [look] at h
    split at h
    · rename_i e
      rw [← Nat.eq_of_beq_eq_true e]
      exact Nat.le_of_ble_eq_true hd.1
    · exact keysLt_spec hd.2 h

def RenOk (β β' : BM) (r : Value → Option Value) : Prop := ∀ (v u : Value), r v = some u → ∀ (v' : Value), VR β v v' → VR β' u v'
theorem renL_ok {β β' : BM} {r : Value → Option Value} (hr : RenOk β β' r) : ∀ {l us : List Value}, renL r l = some us → ∀ {vs' : List Value}, LR β l vs' → LR β' us vs'
  | [], us, h, vs', hl => by
    simp only [renL, Option.some.injEq] at h
    subst h
    rw [LR.nil_inv hl]; exact .nil
  | v :: vs, us, h, vs', hl => by
    simp only [renL] at h
    split at h
    · rename_i u us' h1 h2
      cases h
      obtain ⟨y, ys, rfl, p1, p2⟩ := LR.cons_inv hl
      exact .cons (hr _ _ h1 _ p1) (renL_ok hr h2 p2)
    · cases h

theorem renV_ok {β β' : BM} {f : Nat → Option Nat} (hf : ∀ b c i, f b = some c → β b = some i → β' c = some i) : ∀ (n : Nat), RenOk β β' (renV f n)
  | 0 => fun v u h v' hv => by
    unfold renV at h
    split at h
    · rename_i ha
      cases h
      rw [hv.atom_eq ha]; exact .atom ha
    · cases h
  | n + 1 => fun v u h v' hv => by
    have ih := renV_ok hf n
    unfold renV at h
    split at h
    · split at h
      · rename_i hc
        cases h
        obtain ⟨i, hi, rfl⟩ := hv.ptr_inv
        exact .ptr (hf _ _ _ hc hi)
      · cases h
    · split at h
      · rename_i hc
        cases h
        obtain ⟨i, c', hi, hcap, rfl⟩ := hv.slice_inv
        exact .slice (hf _ _ _ hc hi) hcap
      · cases h
    · split at h
      · rename_i hc
        cases h
        obtain ⟨i, hi, rfl⟩ := hv.map_inv
        exact .map (hf _ _ _ hc hi)
      · cases h
    · split at h
      · rename_i h1 h2
        cases h
        obtain ⟨x', c', p1, p2, rfl⟩ := hv.func_inv
        exact .func (renL_ok ih h1 p1) (renL_ok ih h2 p2)
      · cases h
    · split at h
      · rename_i h1
        cases h
        cases hv with
        | atom h => simp [Abs.atom] at h
        | iface hv => exact .iface (ih _ _ h1 _ hv)
      · cases h
    · split at h
      · rename_i h1
        cases h
        obtain ⟨l', hl, rfl⟩ := hv.agg_inv
        exact .agg (renL_ok ih h1 hl)
      · cases h
    · split at h
      · rename_i h1
        cases h
        obtain ⟨l', hl, rfl⟩ := hv.tuple_inv
        exact .tuple (renL_ok ih h1 hl)
      · cases h
    · cases h
      cases hv with
      | atom h => simp [Abs.atom] at h
      | opq ho => exact .opq ho
    · split at h
      · rename_i ha
        cases h
        rw [hv.atom_eq ha]; exact .atom ha
      · cases h

omit [Ops] in
theorem renL_get {r : Value → Option Value} : ∀ {l us : List Value}, renL r l = some us → us.length = l.length ∧ ∀ (j : Nat) (u : Value), us[j]? = some u → ∃ v, l[j]? = some v ∧ r v = some u
  | [], us, h => by
    simp only [renL, Option.some.injEq] at h
    subst h
    exact ⟨rfl, fun j u hu => by simp at hu⟩
  | v :: vs, us, h => by
    simp only [renL] at h
    split at h
    · rename_i u us' h1 h2
      cases h
      obtain ⟨k1, k2⟩ := renL_get h2
      refine ⟨by simp [k1], fun j u hu => ?_⟩
      cases j with
      | zero => simp only [List.getElem?_cons_zero, Option.some.injEq] at hu; subst hu; exact ⟨v, by simp, h1⟩
      | succ j => simpa using k2 j u (by simpa using hu)
    · cases h

omit [Ops] in
theorem renE_perm {f : Nat → Option Nat} {a b : List (Value × Value × Nat)} (hp : a.Perm b) : ∀ {u : List (Value × Value × Nat)}, renE f b = some u → ∃ u1, renE f a = some u1 ∧ u1.Perm u := by
  induction hp with
  | nil => intro u h; exact ⟨u, h, .refl _⟩
  | cons x _ ih =>
    intro u h
    obtain ⟨k, v, n⟩ := x
    simp only [renE] at h
    split at h
    · rename_i h1 h2
      cases h
      obtain ⟨u1, k1, k2⟩ := ih h2
      exact ⟨_, by simp only [renE, h1, k1], .cons _ k2⟩
    · cases h
  | swap x y l =>
    intro u h
    obtain ⟨k, v, n⟩ := x
    obtain ⟨k', v', n'⟩ := y
    simp only [renE] at h
    split at h
    · rename_i h1 h2
      cases h
      split at h2
      · rename_i h3 h4
        cases h2
        exact ⟨_, by simp only [renE, h1, h3, h4], .swap _ _ _⟩
      · cases h2
    · cases h
  | trans _ _ ih1 ih2 =>
    intro u h
    obtain ⟨u1, k1, k2⟩ := ih2 h
    obtain ⟨u2, k3, k4⟩ := ih1 k1
    exact ⟨u2, k3, k4.trans k2⟩

theorem renE_ok {β β' : BM} {f : Nat → Option Nat} (hf : ∀ b c i, f b = some c → β b = some i → β' c = some i) {ex : Bool} {es : List (Value × Value × Nat)} {es' : List MapEntry} (h : ER β ex es es') :
    ∀ {us : List (Value × Value × Nat)}, renE f es = some us → ER β' ex us es' := by
  induction h with
  | nil => intro us h; simp only [renE, Option.some.injEq] at h; subst h; exact .nil
  | cons hk hv hn _ ih =>
    intro us h
    simp only [renE] at h
    split at h
    · rename_i h1 h2
      cases h
      exact .cons hk (renV_ok hf 8 _ _ h1 _ hv) hn (ih h2)
    · cases h

/-- an object goes on under another number -/
theorem renO_ok {C : Ctx} {N0 N1 : Nat} {β β' : BM} {w : World} {i : BI} {f : Nat → Option Nat} (hf : ∀ b c i, f b = some c → β b = some i → β' c = some i) {x y : AObj} (hx : OR C N0 β w i x) (hN : N1 ≤ N0) (h : renO f x = some y) : OR C N1 β' w i y := by
  cases x with
  | cells l et k =>
    simp only [renO] at h
    split at h
    · rename_i us hu
      cases h
      obtain ⟨c, fz, h1, h2, h3⟩ := hx
      obtain ⟨r1, r2⟩ := renL_get hu
      refine ⟨c, fz, h1, ⟨h2.size, fun j u hj => ?_, h2.free, fun hk => Nat.le_trans hN (h2.own hk), fun hk => ?_⟩, h3⟩
      · obtain ⟨v, hv, hr⟩ := r2 j u hj
        obtain ⟨v', k1, k2⟩ := h2.get j v hv
        exact ⟨v', k1, renV_ok hf 8 _ _ hr _ k2⟩
      · obtain ⟨q1, q2⟩ := h2.whole hk
        exact ⟨q1, by rw [q2, r1]⟩
    · cases h
  | map es c ex =>
    simp only [renO] at h
    split at h
    · rename_i us hu
      cases h
      obtain ⟨es', h1, h2, ⟨es1, h3, h4, h5⟩, h6⟩ := hx
      obtain ⟨u1, k1, k2⟩ := renE_perm h3 hu
      refine ⟨es', h1, Nat.le_trans hN h2, ⟨u1, k2, fun he => ?_, renE_ok hf h5 k1⟩, h6⟩
      rw [h4 he, hu] at k1
      cases k1; rfl
    · cases h
  | _ => cases h

theorem hputs_get : ∀ {xs : List AObj} {H : AHeap} {nx : Nat}, nx + xs.length < LIMIT → ∀ {b : Nat} {x : AObj}, (hputs H nx xs).get b = some x →
    (nx ≤ b ∧ xs[b - nx]? = some x) ∨ ((b < nx ∨ nx + xs.length ≤ b) ∧ H.get b = some x)
  | [], H, nx, _, b, x, h => .inr ⟨by rcases Nat.lt_or_ge b nx with h | h; exact .inl h; exact .inr (by simpa using h), h⟩
  | y :: ys, H, nx, hlt, b, x, h => by
    simp only [List.length_cons] at hlt
    rcases hputs_get (xs := ys) (H := hput H nx y) (nx := nx + 1) (by omega) h with ⟨h1, h2⟩ | ⟨h1, h2⟩
    · refine .inl ⟨by omega, ?_⟩
      rw [show b - nx = (b - (nx + 1)) + 1 from by omega]
      simpa using h2
    · by_cases e : nx = b
      · subst e
        rw [hput_same (by omega)] at h2
        cases h2
        exact .inl ⟨Nat.le_refl _, by simp⟩
      · rw [hput_ne e] at h2
        refine .inr ⟨?_, h2⟩
        simp only [List.length_cons]
        omega

omit [Ops] in
theorem idx_spec : ∀ {out : List Nat} {b k c : Nat}, idx out b k = some c → ∃ i, out[i]? = some b ∧ c = k + i
  | [], b, k, c, h => by simp [idx] at h
  | d :: out, b, k, c, h => by
    simp only [idx] at h
    split at h
    · rename_i e
      cases h
      exact ⟨0, by simp [Nat.eq_of_beq_eq_true e], rfl⟩
    · obtain ⟨i, h1, h2⟩ := idx_spec h
      exact ⟨i + 1, by simpa using h1, by omega⟩

omit [Ops] in
theorem memN_spec {t : Nat} : ∀ {l : List Nat}, memN t l = false → t ∉ l
  | [], _, h => by cases h
  | x :: xs, hm, h => by
    simp only [memN, Bool.or_eq_false_iff] at hm
    rcases List.mem_cons.1 h with rfl | h
    · simp at hm
    · exact memN_spec hm.2 h
omit [Ops] in
theorem nodupN_spec : ∀ {l : List Nat}, nodupN l = true → l.Nodup
  | [], _ => .nil
  | x :: xs, h => by
    simp only [nodupN, Bool.and_eq_true, Bool.not_eq_true'] at h
    exact List.nodup_cons.2 ⟨memN_spec h.1, nodupN_spec h.2⟩

omit [Ops] in
theorem grab_spec {f : Nat → Option Nat} {H : AHeap} : ∀ {out : List Nat} {ys : List AObj}, grab f H out = some ys →
    ys.length = out.length ∧ ∀ (i : Nat) (b : Nat), out[i]? = some b → ∃ x y, H.get b = some x ∧ ownObj x = true ∧ renO f x = some y ∧ ys[i]? = some y
  | [], ys, h => by
    simp only [grab, Option.some.injEq] at h
    subst h
    exact ⟨rfl, fun i b hb => by simp at hb⟩
  | d :: out, ys, h => by
    simp only [grab] at h
    split at h
    · rename_i x hx
      split at h
      · rename_i y ys' h1 h2 h3
        cases h
        obtain ⟨k1, k2⟩ := grab_spec h3
        refine ⟨by simp [k1], fun i b hb => ?_⟩
        cases i with
        | zero => simp only [List.getElem?_cons_zero, Option.some.injEq] at hb; subst hb; exact ⟨x, y, hx, h1, h2, by simp⟩
        | succ i => simpa using k2 i b (by simpa using hb)
      · cases h
    · cases h

omit [Ops] in
theorem renOs_spec {f : Nat → Option Nat} : ∀ {xs ys : List AObj}, renOs f xs = some ys → ys.length = xs.length ∧ ∀ (i : Nat) (y : AObj), ys[i]? = some y → ∃ x, xs[i]? = some x ∧ renO f x = some y
  | [], ys, h => by
    simp only [renOs, Option.some.injEq] at h
    subst h
    exact ⟨rfl, fun i y hy => by simp at hy⟩
  | x :: xs, ys, h => by
    simp only [renOs] at h
    split at h
    · rename_i y ys' h1 h2
      cases h
      obtain ⟨k1, k2⟩ := renOs_spec h2
      refine ⟨by simp [k1], fun i y hy => ?_⟩
      cases i with
      | zero => simp only [List.getElem?_cons_zero, Option.some.injEq] at hy; subst hy; exact ⟨x, by simp, h1⟩
      | succ i => simpa using k2 i y (by simpa using hy)
    · cases h

theorem own_of {C : Ctx} {N0 : Nat} {β : BM} {w : World} {i : BI} {x : AObj} (h : OR C N0 β w i x) (ho : ownObj x = true) : N0 ≤ i.blk := by
  cases x with
  | cells l et k =>
    obtain ⟨c, fz, h1, h2, h3⟩ := h
    exact h2.own (Nat.le_of_ble_eq_true ho)
  | map es c ex => obtain ⟨es', h1, h2, _⟩ := h; exact h2
  | _ => cases ho

/-- the cells that a row of values stands for -/
theorem CR.list {N0 : Nat} {β : BM} {i : BI} {l : List Value} {kind : Nat} {c : Array Value} {fz : Nat × Nat} (h : CR N0 β i l kind c fz) : ∃ vs, LR β l vs ∧ ∀ j, j < l.length → c[i.base + j]? = vs[j]? := by
  refine ⟨(c.toList.drop i.base).take l.length, LR.of_get ?_ fun j v v' hv hv' => ?_, fun j hj => ?_⟩
  · rw [List.length_take, List.length_drop]
    rcases Nat.eq_zero_or_pos l.length with h0 | h0
    · omega
    · obtain ⟨v', hv', _⟩ := h.get (l.length - 1) _ (List.getElem?_eq_getElem (by omega))
      have := (Array.getElem?_eq_some_iff.1 hv').1
      have e : c.toList.length = c.size := by simp
      omega
  · have hj : j < l.length := (List.getElem?_eq_some_iff.1 hv).1
    obtain ⟨u, hu, hr⟩ := h.get j v hv
    rw [List.getElem?_take_of_lt hj, List.getElem?_drop, Array.getElem?_toList, hu] at hv'
    cases hv'
    exact hr
  · rw [List.getElem?_take_of_lt hj, List.getElem?_drop, Array.getElem?_toList]

theorem resultsL_sub {C : Ctx} {H Hs : AHeap} (hs : Sub H Hs) {tm : List Value} : ∀ (rs : List ResultVar) (vs : List Value), resultsL C H tm rs = some vs → resultsL C Hs tm rs = some vs
  | [], vs, h => h
  | .tmp t :: rs, vs, h => by
    simp only [resultsL] at h ⊢
    split at h
    · rename_i us hu; rw [resultsL_sub hs rs _ hu]; exact h
    · cases h
  | .cell a t :: rs, vs, h => by
    simp only [resultsL] at h ⊢
    split at h
    · split at h
      · rename_i hv hu; rw [loadV_sub hs hv, resultsL_sub hs rs _ hu]; exact h
      · cases h
    · cases h

/-- A CALL THAT WAS RUN is a contract. -/
theorem conOk_of_memo {E : Env} (ok : E.Ok) (hng : E.ng = 0) {hints : BT (List Nat)} {g : FuncId} {n : Nat} {M : Memo} {out : List Nat} {os : List Obl}
    (hrun : memoRun E hints g n M.pre M.args out = some ((M.v, M.xs), os)) (hob : ∀ x ∈ os, x.a = x.b) : ConOk E.toCtx g (conM M) := by
  intro N0 w0 β H Hs nx w args args' v xs hr hs ha hc hlim
  -- the arguments are as they were
  unfold conM at hc
  split at hc
  · rename_i m1 hm1
    split at hc
    · rename_i m hm2
      split at hc
      · rename_i hdis
        split at hc
        · rename_i v2 xs2 hv2 hxs2
          cases hc
          obtain ⟨e1, k1⟩ := unifL_ok (unifV_ok 8) hm1
          obtain ⟨e2, k2⟩ := unifO_ok hm2
          have hargs : LR (bm β m) M.args args' := (k1 β args' ha).mono (bm_le e2)
          -- the start
          unfold memoRun at hrun
          split at hrun
          · rename_i fr0 hfr0
            split at hrun
            · rename_i s os' hL
              split at hrun
              · rename_i fn hend hkind hfn
                split at hrun
                · rename_i vs hvs
                  split at hrun
                  · rename_i v1 xs1 hv1 hxs1
                    cases hrun
                    simp only [Bool.and_eq_true] at hend
                    have hf := Nat.eq_of_beq_eq_true hend.2.1
                    have hnd := And.intro (nodupN_spec hend.2.2.1) True.intro
                    have hat := hend.1
                    unfold atEnd at hat
                    simp only [Bool.and_eq_true, List.isEmpty_iff] at hat
                    obtain ⟨⟨hret, hcal⟩, hdef⟩ := hat
                    have hp : llen M.pre 0 = M.pre.length := by rw [llen_eq, Nat.add_zero]
                    rw [hp] at hL hv1 hxs1 hv2 hxs2
                    have hp4 : M.pre.length < 490000 := by rw [← hp]; exact Nat.le_of_ble_eq_true hend.2.2.2
                    simp only [Bool.and_eq_true] at hdis
                    have hkl : ∀ {b c : Nat}, look m b = some c → b < M.pre.length := fun h => by
                      have := keysLt_spec hdis.2 h
                      rw [hp] at this; exact this
                    have hpre : ∀ {b : Nat} {x : AObj}, (preHeap M.pre).get b = some x → ∃ l et, M.pre[b]? = some (l, et) ∧ x = .cells l et 2 := fun {b x} hx => by
                      rcases hputs_get (by simp only [List.length_map]; unfold LIMIT; omega) hx with ⟨_, h2⟩ | ⟨_, h2⟩
                      · rw [Nat.sub_zero, List.getElem?_map] at h2
                        cases hq : M.pre[b]? with
                        | none => rw [hq] at h2; cases h2
                        | some y => rw [hq] at h2; cases h2; exact ⟨y.1, y.2, rfl, rfl⟩
                      · cases h2
                    have hblk : ∀ {b : Nat} {l : List Value} {et : TypeId}, M.pre[b]? = some (l, et) → ∃ c i x, look m b = some c ∧ H.get c = some x ∧ β c = some i ∧ bm β m b = some i ∧ OR E.toCtx w.heap.size (bm β m) w i (.cells l et 2) := fun {b l et} hb => by
                      obtain ⟨c, l', kind, q1, q2, q3⟩ := k2 b l et hb
                      rw [Nat.zero_add] at q1
                      obtain ⟨i, hi, c', fz, h1, h2, h3⟩ := hr.obj c _ (hs _ _ q2)
                      obtain ⟨us, hus, hcs⟩ := h2.list
                      have hl := q3 β us hus
                      refine ⟨c, i, _, q1, q2, hi, by unfold bm; rw [q1]; exact hi, c', fz, h1, ⟨h2.size, fun j v hv => ?_, fun h => absurd h (by decide), fun h => absurd h (by decide), fun h => by cases h⟩, fun h => by cases h⟩
                      obtain ⟨v', hv', hr'⟩ := hl.get hv
                      have hlen : l.length = l'.length := by rw [hl.length, hus.length]
                      have hj : j < l.length := (List.getElem?_eq_some_iff.1 hv).1
                      exact ⟨v', by rw [hcs j (by omega)]; exact hv', hr'⟩
                    have hstart : HR E.toCtx w.heap.size w (bm β m) (preHeap M.pre) M.pre.length w := by
                      refine ⟨fun b x hx => ?_, fun b b' x x' i i' hx hx' hi hi' e => ?_, fun b i hi => ?_, fun b hb => ?_, RowKit.Below.refl _ _, Nat.le_refl _⟩
                      · obtain ⟨l, et, hb, rfl⟩ := hpre hx
                        obtain ⟨c, i, _, _, _, _, q1, q2⟩ := hblk hb
                        exact ⟨i, q1, q2⟩
                      · obtain ⟨l, et, hb, rfl⟩ := hpre hx
                        obtain ⟨l', et', hb', rfl⟩ := hpre hx'
                        obtain ⟨c, j, y, q1, q2, q3, q4, _⟩ := hblk hb
                        obtain ⟨c', j', y', q1', q2', q3', q4', _⟩ := hblk hb'
                        rw [hi] at q4; cases q4
                        rw [hi'] at q4'; cases q4'
                        have := hr.inj c c' _ _ i i' (hs _ _ q2) (hs _ _ q2') q3 q3' e
                        subst this
                        exact distinct_spec hdis.1 q1 q1'
                      · unfold bm at hi
                        cases hq : look m b with
                        | none => rw [hq] at hi; cases hi
                        | some c => rw [hq] at hi; exact hr.lt _ _ hi
                      · unfold bm
                        cases hq : look m b with
                        | none => rfl
                        | some c => exact absurd (hkl hq) (by omega)
                    intro cs
                    obtain ⟨f1, f2⟩ := enterF_sound ok hfr0 hargs (H := preHeap M.pre) (Hs := preHeap M.pre) (nx := M.pre.length) false
                    have hSR : SR E w.heap.size w cs false (bm β m) (preHeap M.pre) { top := fr0, callers := [], heap := preHeap M.pre, next := M.pre.length } (Frame.enter E.P g ⟨args'⟩ .normal) cs w := by
                      refine ⟨hstart, fun _ _ h => h, fun g hg => by rw [hng] at hg; exact absurd hg (Nat.not_lt_zero _), f1, .nil, ?_⟩
                      show (fblocks fr0 ++ []).Nodup
                      rw [f2]; simp
                    obtain ⟨⟨β', Hs', fr', cs', w', hst, hle, hS⟩, _⟩ := runL_sound ok hints n hSR hL hob
                    have hrest := hS.rest
                    rw [hcal] at hrest
                    generalize hc' : cs' = c at hrest
                    cases hrest
                    have hn := hS.inN (hS.top.ret_todo hret)
                    have hm : fr'.mode = .returning := by rw [hn.mode, hret]; rfl
                    have hdl := hS.top.base.defers
                    rw [hdef] at hdl
                    have hd' : fr'.defers = [] := by
                      generalize fr'.defers = q at hdl
                      cases hdl; rfl
                    have hP := ok.ctx.fns _ _ hfn
                    have hff : fr'.fn = g := hS.top.base.fn.trans hf
                    obtain ⟨v', hres, hv'⟩ := results_sound ok.ctx hS.hr hn.tmps (resultsL_sub hS.sub _ _ hvs)
                    subst hc'
                    have hb := hS.hr.below
                    obtain ⟨g1, g2⟩ := grab_spec hxs1
                    obtain ⟨g3, g4⟩ := renOs_spec hxs2
                    have hlen : xs.length = out.length := by rw [g3, g1]
                    -- how the numbers go
                    let βc : BM := fun b => if b < M.pre.length then β' b else (out[b - M.pre.length]?).bind β'
                    let βf : BM := fun b => if b < nx then β b else (out[b - nx]?).bind β'
                    have c1 : ∀ b c i, canon M.pre.length out b = some c → β' b = some i → βc c = some i := fun b c i hbc hi => by
                      unfold canon at hbc
                      split at hbc
                      · rename_i hlt
                        cases hbc
                        have : b < M.pre.length := Nat.le_of_ble_eq_true hlt
                        show (if b < M.pre.length then β' b else _) = _
                        rw [if_pos this]; exact hi
                      · obtain ⟨k, q1, rfl⟩ := idx_spec hbc
                        show (if M.pre.length + k < M.pre.length then _ else (out[M.pre.length + k - M.pre.length]?).bind β') = _
                        rw [if_neg (by omega), Nat.add_sub_cancel_left, q1]; exact hi
                    have c2 : ∀ b c i, inst m M.pre.length nx b = some c → βc b = some i → βf c = some i := fun b c i hbc hi => by
                      unfold inst at hbc
                      split at hbc
                      · rename_i hlt
                        have hlt : b < M.pre.length := Nat.le_of_ble_eq_true hlt
                        have hi' : β' b = some i := by
                          have hi2 : (if b < M.pre.length then β' b else _) = some i := hi
                          rw [if_pos hlt] at hi2; exact hi2
                        obtain ⟨c', j, _, q1, q2, q3, q4, _⟩ := hblk (b := b) (l := M.pre[b].1) (et := M.pre[b].2) (List.getElem?_eq_getElem hlt)
                        rw [hbc] at q1; cases q1
                        have := hle _ _ q4
                        rw [hi'] at this; cases this
                        show (if c < nx then β c else _) = _
                        rw [if_pos (hr.lt_nx q3)]; exact q3
                      · rename_i hlt
                        cases hbc
                        have hlt : ¬ b < M.pre.length := fun h => by
                          have : Nat.blt b M.pre.length = true := Nat.ble_eq_true_of_le h
                          rw [this] at hlt; cases hlt
                        have hi2 : (if b < M.pre.length then β' b else (out[b - M.pre.length]?).bind β') = some i := hi
                        rw [if_neg hlt] at hi2
                        show (if nx + (b - M.pre.length) < nx then _ else (out[nx + (b - M.pre.length) - nx]?).bind β') = _
                        rw [if_neg (by omega), Nat.add_sub_cancel_left]; exact hi2
                    have hvf : VR βf v v' := renV_ok c2 8 _ _ hv2 _ (renV_ok c1 8 _ _ hv1 _ hv')
                    have hold : ∀ {b : Nat} {i : BI}, β b = some i → βf b = some i := fun {b i} hi => by
                      show (if b < nx then β b else _) = _
                      rw [if_pos (hr.lt_nx hi)]; exact hi
                    have hnew : ∀ {b : Nat} {x : AObj}, nx ≤ b → xs[b - nx]? = some x → ∃ ob x0 i, out[b - nx]? = some ob ∧ s.heap.get ob = some x0 ∧ β' ob = some i ∧ βf b = some i ∧ OR E.toCtx N0 βf w' i x ∧ w.heap.size ≤ i.blk := fun {b x} hnb hx => by
                      have hlt : b - nx < out.length := by rw [← hlen]; exact (List.getElem?_eq_some_iff.1 hx).1
                      obtain ⟨x0, y, q1, q2, q3, q4⟩ := g2 (b - nx) _ (List.getElem?_eq_getElem hlt)
                      obtain ⟨x1, q5, q6⟩ := g4 _ _ hx
                      rw [q4] at q5; cases q5
                      obtain ⟨i, hi, ho⟩ := hS.hr.obj _ _ (hS.sub _ _ q1)
                      refine ⟨_, x0, i, List.getElem?_eq_getElem hlt, q1, hi, ?_, renO_ok c2 (renO_ok c1 ho (Nat.le_refl _) q3) hr.n0 q6, own_of ho q2⟩
                      show (if b < nx then _ else (out[b - nx]?).bind β') = _
                      rw [if_neg (by omega), List.getElem?_eq_getElem hlt]; exact hi
                    refine ⟨.returned v', w', fr', ⟨βf, v', rfl, hvf, ⟨fun b i hi => hold hi, fun b hb => if_pos hb⟩, ?_⟩, hst, hff, hm, hd', hS.top.base.kind.trans hkind, fn, by rw [hff]; exact hP, hres⟩
                    refine ⟨fun b x hx => ?_, fun b b' x x' i i' hx hx' hi hi' e => ?_, fun b i hi => ?_, fun b hb => ?_, hr.below.trans (hb.mono hr.n0), Nat.le_trans hr.n0 hb.size⟩
                    · rcases hputs_get hlim hx with ⟨h1, h2⟩ | ⟨_, h2⟩
                      · obtain ⟨_, _, i, _, _, _, q1, q2, _⟩ := hnew h1 h2
                        exact ⟨i, q1, q2⟩
                      · obtain ⟨i, hi, ho⟩ := hr.obj b x h2
                        exact ⟨i, hold hi, ho.mono (fun b i hi => hold hi) (hb.block _ (hr.lt _ _ hi)) (fun k hk => hb.block k (Nat.lt_of_lt_of_le hk hr.n0))⟩
                    · rcases hputs_get hlim hx with ⟨h1, h2⟩ | ⟨_, h2⟩
                      · obtain ⟨ob, x0, j, p1, p2, p3, p4, _, p5⟩ := hnew h1 h2
                        rw [hi] at p4; cases p4
                        rcases hputs_get hlim hx' with ⟨h1', h2'⟩ | ⟨_, h2'⟩
                        · obtain ⟨ob', x0', j', p1', p2', p3', p4', _, p5'⟩ := hnew h1' h2'
                          rw [hi'] at p4'; cases p4'
                          have := hS.hr.inj ob ob' _ _ i i' (hS.sub _ _ p2) (hS.sub _ _ p2') p3 p3' e
                          subst this
                          have hk : b - nx < out.length := (List.getElem?_eq_some_iff.1 p1).1
                          have hk' : b' - nx < out.length := (List.getElem?_eq_some_iff.1 p1').1
                          have := (List.getElem_inj hnd.1 (h₀ := hk) (h₁ := hk')).1 (by rw [(List.getElem?_eq_some_iff.1 p1).2, (List.getElem?_eq_some_iff.1 p1').2])
                          omega
                        · obtain ⟨j', hj', _⟩ := hr.obj b' x' h2'
                          have := hold hj'
                          rw [hi'] at this; cases this
                          have := hr.lt _ _ hj'
                          omega
                      · obtain ⟨j, hj, _⟩ := hr.obj b x h2
                        have := hold hj
                        rw [hi] at this; cases this
                        rcases hputs_get hlim hx' with ⟨h1', h2'⟩ | ⟨_, h2'⟩
                        · obtain ⟨ob', x0', j', p1', p2', p3', p4', _, p5'⟩ := hnew h1' h2'
                          rw [hi'] at p4'; cases p4'
                          have := hr.lt _ _ hj
                          omega
                        · obtain ⟨j', hj', _⟩ := hr.obj b' x' h2'
                          have := hold hj'
                          rw [hi'] at this; cases this
                          exact hr.inj b b' _ _ _ _ h2 h2' hj hj' e
                    · by_cases hbn : b < nx
                      · have hi2 : (if b < nx then β b else _) = some i := hi
                        rw [if_pos hbn] at hi2
                        exact Nat.lt_of_lt_of_le (hr.lt _ _ hi2) hb.size
                      · have hi2 : (if b < nx then β b else (out[b - nx]?).bind β') = some i := hi
                        rw [if_neg hbn] at hi2
                        cases hq : out[b - nx]? with
                        | none => rw [hq] at hi2; cases hi2
                        | some ob => rw [hq] at hi2; exact hS.hr.lt _ _ hi2
                    · show (if b < nx then _ else (out[b - nx]?).bind β') = none
                      rw [if_neg (by omega), List.getElem?_eq_none (by omega)]; rfl
                  · cases hrun
                · cases hrun
              · cases hrun
            · cases hrun
          · cases hrun
        · cases hc
      · cases hc
    · cases hc
  · cases hc

/-- one contract more -/
def orCon (a : Option Con) (b : Con) : Con := fun H nx args =>
  match a with
  | some c => match c H nx args with
    | some r => some r
    | none => b H nx args
  | none => b H nx args
def addTo (cs : BT Con) (g : FuncId) (M : Memo) : BT Con := BT.put (some (orCon (cs.get g) (conM M))) 20 cs g
def conEnv (E : Env) (cs : BT Con) : Env := { E with con := cs }

/-- texts, and rows of bytes, as they are printed -/
def bs (l : List Nat) : ByteArray := ⟨⟨l.map UInt8.ofNat⟩⟩
def bytes8 (l : List Nat) : List Value := l.map fun n => .int .u8 (.ofNat n)

theorem addTo_con {E : Env} {cs : BT Con} (ok : (conEnv E cs).Ok) {g : FuncId} (hg : Nat.blt g 400000 = true) {M : Memo} (h : ConOk (conEnv E cs).toCtx g (conM M)) (f : FuncId) (c : Con) (hf' : (addTo cs g M).get f = some c) :
    ConOk (conEnv E cs).toCtx f c := by
  have hg : (g : Nat) < 400000 := Nat.le_of_ble_eq_true hg
  unfold addTo at hf'
  rcases Nat.decEq g f with e | e
  rotate_left
  · subst e
    rw [BT.get_put_same _ _ _ _ (Nat.lt_of_lt_of_le (Nat.succ_lt_succ hg) (by decide))] at hf'
    cases hf'
    intro N0 w0 β H Hs nx w args args' v xs hr hs ha hc hlim
    unfold orCon at hc
    split at hc
    · rename_i c0 hc0
      split at hc
      · rename_i r hr0
        cases hc
        exact ok.con g c0 hc0 hr hs ha hr0 hlim
      · exact h hr hs ha hc hlim
    · exact h hr hs ha hc hlim
  · rw [BT.get_put_ne _ _ _ _ _ e] at hf'
    exact @Env.Ok.con _ _ ok f c hf'
theorem addTo_ok {E : Env} {cs : BT Con} (ok : (conEnv E cs).Ok) {g : FuncId} (hg : Nat.blt g 400000 = true) {M : Memo} (h : ConOk (conEnv E cs).toCtx g (conM M)) : (conEnv E (addTo cs g M)).Ok :=
  { con := addTo_con ok hg h, ctx := ok.ctx, mixed := ok.mixed, names := ok.names, ext := ok.ext }
end Go.Abs
