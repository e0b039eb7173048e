/-
  THE ABSTRACT MACHINE: loops over maps of several entries: entries whose round changes nothing may come whenever they like.
-/
import Derived.Test.YtahpijfhoopilaaGreatDoorAbsTop
set_option linter.unusedSectionVars false
set_option linter.unusedVariables false
set_option linter.unusedSimpArgs false
namespace Go.Abs
open Go

/-! ## the machine's side -/
def maskT (W : List Nat) : List Value → Nat → List Value
  | [], _ => []
  | v :: vs, i => (match memN i W with
    | true => .chan none
    | false => v) :: maskT W vs (i + 1)

def freezeO : Option AObj → Option AObj
  | some (.cells l et _) => some (.cells l et 2)
  | _ => none
def freezeH : AHeap → AHeap
  | .nil => .nil
  | .node l v r => .node (freezeH l) (freezeO v) (freezeH r)

/-- an item that names no block -/
def plainI : AItem → Bool
  | .code _ | .inBlock _ | .inLoop _ | .inScope _ | .inRegion .. | .beginRound => true
  | _ => false

structure Pt where
  o : Oper
  r : Nat
  m : Nat
  since : Nat
  fresh : Bool
  es : List (Value × Value × Nat)
  /-- that one was seen, and is not among these -/
  skip : Option Nat

/-- the frame on top is at a map's iterator -/
def ptOf (s : AState) : Option Pt :=
  match s.top.ret, s.top.todo with
  | false, .inRegion _ (o :: _) :: _ => match o.op, o.guard with
    | .next (.tmp t) false, none => match ev s.top.tmps (.tmp t) with
      | .pointer (some ⟨r, 0, none⟩) => match s.heap.get r with
        | some (.miter (some m) since [] stepped) => match s.heap.get m with
          | some (.map es clock _) => match Nat.ble since stepped && Nat.beq clock since with
            | true => some ⟨o, r, m, since, true, es, none⟩
            | false => none
          | _ => none
        | some (.miterU m since) => match s.heap.get m with
          | some (.map es clock _) => match Nat.beq clock since with
            | true => some ⟨o, r, m, since, false, es, none⟩
            | false => none
          | _ => none
        | some (.miterS m since p0) => match s.heap.get m with
          | some (.mapS es clock) => match Nat.beq clock since with
            | true => some ⟨o, r, m, since, false, lerase es p0, some p0⟩
            | false => none
          | _ => none
        | _ => none
      | _ => none
    | _, _ => none
  | _, _ => none

/-- is a frame of its own at an iterator? -/
def atNext (s : AState) : Bool :=
  match s.callers, s.top.ret, s.top.todo with
  | [], false, .inRegion _ (o :: _) :: _ => match o.op with
    | .next _ false => true
    | _ => false
  | _, _, _ => false

/-- on, until a round has come to its end -/
def runTo (E : Env) : Nat → AState → Option AState
  | 0, _ => none
  | n + 1, s => match atNext s with
    | true => some s
    | false => match Nat.blt s.next 490000 with
      | true => match astep E s with
        | some s => runTo E n s
        | none => none
      | false => none

/-- a plain frame, to which a round may come back -/
def plainF (fr : AFrame) : Bool :=
  match fr.defers, fr.roundOf, fr.kind with
  | [], none, .normal => fr.todo.all plainI
  | _, _, _ => false

/-- a round's first state: its entry is known, and nothing is written -/
def roundS (s : AState) (top : AFrame) (r : Nat) (e : Value × Value × Nat) : AState :=
  { top, callers := [], heap := hput (freezeH s.heap) r (.miterC e.1 e.2.1), next := s.next }

/-- is a frame of its own about to read an iterator's present entry? -/
def atEntry (s : AState) : Bool :=
  match s.callers, s.top.ret, s.top.todo with
  | [], false, .inRegion _ (o :: _) :: _ => match o.op with
    | .entry _ => true
    | _ => false
  | _, _, _ => false

/-- on, until the present entry was read -/
def runEn (E : Env) : Nat → AState → Option AState
  | 0, _ => none
  | n + 1, s => match Nat.blt s.next 490000 with
    | true => match astep E s with
      | some s2 => match atEntry s with
        | true => some s2
        | false => runEn E n s2
      | none => none
    | false => none

/-- slots that hold nothing but what is known -/
def okSlots (t v : Value) : List Value → List Value → Bool
  | [], [] => true
  | a :: as, b :: bs => (isAny a || (af a || (eqv 5 a b || (eqv 5 a v || eqv 5 a t)))) && okSlots t v as bs
  | _, _ => false

/-- the one entry that does more: as far as its entry is read, nothing is written -/
def badS (E : Env) (s0 : AState) (r : Nat) (e : Value × Value × Nat) (top : AFrame) : AState :=
  match runEn E 60 (roundS s0 top r e) with
  | some s2 => match s2.callers, (plainF s2.top && Nat.beq s2.top.fn s0.top.fn) && ((!s2.top.ret) && okSlots (.tuple ⟨[e.1, e.2.1]⟩) e.2.1 s2.top.tmps top.tmps) with
    | [], true => { s0 with top := s2.top }
    | _, _ => { s0 with top }
  | none => { s0 with top }

/-- an entry's round, which changes nothing but slots -/
def neutral (E : Env) (F : Nat) (s : AState) (r : Nat) (e : Value × Value × Nat) : Option AState :=
  match finish s.top (.tuple ⟨[.bool true, e.1, e.2.1]⟩) with
  | some top => match runTo E F (roundS s top r e) with
    | some s2 => match plainF s2.top && Nat.beq s2.top.fn s.top.fn with
      | true => some s2
      | false => none
    | none => none
  | none => none

/-- what is left to show: two lists of items are one, and two of slots -/
structure Obl where
  a : List AItem × List Value
  b : List AItem × List Value

/-- entries whose rounds change more -/
def sift (E : Env) (F : Nat) (W : List Nat) (s : AState) (r : Nat) : List (Value × Value × Nat) → List (Value × Value × Nat) × List Obl
  | [] => ([], [])
  | e :: es => match sift E F W s r es with
    | (bad, obls) => match neutral E F s r e with
      | some s2 => (bad, ⟨(s2.top.todo, maskT W s2.top.tmps 0), (s.top.todo, s.top.tmps)⟩ :: obls)
      | none => (e :: bad, obls)

/-- does a slot still hold the iterator? -/
def holds (tmps : List Value) (o : Oper) (r : Nat) : Bool :=
  match o.op with
  | .next x _ => match ev tmps x with
    | .pointer (some ⟨r', 0, none⟩) => Nat.beq r' r
    | _ => false
  | _ => false

/-- a key's place, if it is there once -/
def absentK (k : Value) : List (Value × Value × Nat) → Bool
  | [] => true
  | (k', _, _) :: es => match sameKey k k' with
    | some false => absentK k es
    | _ => false
def posK (k : Value) : List (Value × Value × Nat) → Nat → Option Nat
  | [], _ => none
  | (k', _, _) :: es, i => match sameKey k k' with
    | some true => match absentK k es with
      | true => some i
      | false => none
    | some false => posK k es (i + 1)
    | none => none
/-- that entry was seen -/
def stampS (s : AState) (r m since : Nat) (es : List (Value × Value × Nat)) (k : Value) : AState :=
  match posK k es 0 with
  | some p0 => { s with heap := hput (hput (hdel s.heap m) s.next (.mapS es since)) r (.miterS s.next since p0), next := s.next + 1 }
  | none => s

/-- a loop's step -/
def loopStep (E : Env) (F : Nat) (W : List Nat) (s : AState) (p : Pt) : Option (AState × List Obl) :=
  match p.skip with
  | some _ =>
    let s0 := { s with top := { s.top with tmps := maskT W s.top.tmps 0 } }
    match plainF s.top && holds s0.top.tmps p.o p.r with
    | false => none
    | true =>
      match sift E F W s0 p.r p.es with
      | ([], obls) => match finish s0.top (.tuple ⟨[.bool false]⟩) with
        | some top => some ({ s0 with top }, obls)
        | none => none
      | _ => none
  | none =>
  let s0 := { s with top := { s.top with tmps := maskT W s.top.tmps 0 }, heap := hput s.heap p.r (.miterU p.m p.since) }
  match plainF s.top && holds s0.top.tmps p.o p.r with
  | false => none
  | true =>
    match sift E F W s0 p.r p.es with
    | ([], obls) => match finish s0.top (.tuple ⟨[.bool false]⟩) with
      | some top => some ({ s0 with top }, obls)
      | none => none
    | ([e], obls) => match p.fresh, finish s0.top (.tuple ⟨[.bool true, e.1, e.2.1]⟩) with
      | true, some top => match memN 999999 W with
        | true => some (badS E s0 p.r e top, obls)
        | false => some (stampS (badS E s0 p.r e top) p.r p.m p.since p.es e.1, obls)
      | _, _ => none
    | _ => none

/-- is the frame on top at an iterator that the machine leaves to us? -/
def wantsLoop (s : AState) : Option Pt :=
  match s.top.todo with
  | .inRegion _ (o :: _) :: _ => match o.op with
    | .next _ false => match ptOf s with
      | some p => match s.heap.get p.r, p.es with
        | some (.miterU ..), _ => some p
        | some (.miterS ..), _ => some p
        | _, _ :: _ :: _ => some p
        | _, _ => none
      | none => none
    | _ => none
  | _ => none

def runL (E : Env) (hints : BT (List Nat)) : Nat → AState → List Obl → Option (AState × List Obl)
  | 0, s, os => some (s, os)
  | n + 1, s, os => match atEnd s with
    | true => some (s, os)
    | false => match Nat.blt s.next 490000 with
      | true => match wantsLoop s with
        | none => match astep E s with
          | some s => runL E hints n s os
          | none => none
        | some p => match loopStep E 2000 (match hints.get s.top.fn with | some W => W | none => []) s p with
          | some (s, o2) => runL E hints n s (o2 ++ os)
          | none => none
      | false => none

/-! ## that it stands for what the model's machine does -/
variable [Ops]

theorem maskT_get (W : List Nat) : ∀ (l : List Value) (i j : Nat), (maskT W l i)[j]? = l[j]?.map fun v => match memN (i + j) W with | true => .chan none | false => v
  | [], _, _ => by simp [maskT]
  | v :: vs, i, 0 => by simp [maskT]
  | v :: vs, i, j + 1 => by
    simp only [maskT, List.getElem?_cons_succ]
    rw [maskT_get W vs (i + 1) j]
    have : i + 1 + j = i + (j + 1) := by omega
    rw [this]
theorem maskT_length (W : List Nat) : ∀ (l : List Value) (i : Nat), (maskT W l i).length = l.length
  | [], _ => rfl
  | v :: vs, i => by simp [maskT, maskT_length W vs]

theorem LR.mask {β : BM} (W : List Nat) : ∀ {l l' : List Value} (i : Nat), LR β l l' → LR β (maskT W l i) l'
  | _, _, _, .nil => .nil
  | v :: vs, _, i, .cons h hs => by
    simp only [maskT]
    refine .cons ?_ (hs.mask W (i + 1))
    split
    · exact .opq (c := none) trivial
    · exact h

theorem freezeH_get : ∀ (H : AHeap) (b : Nat), (freezeH H).get b = freezeO (H.get b)
  | .nil, _ => rfl
  | .node l v r, b => by
    cases b with
    | zero => rfl
    | succ b =>
      simp only [freezeH, BT.get]
      split
      · exact freezeH_get l _
      · exact freezeH_get r _

/-! ### what was known of values stays known -/
mutual
theorem VR.back {β β' : BM} (hle : β.le β') {v u v' : Value} (h : VR β v u) (h' : VR β' v v') : VR β v v' := by
  cases h with
  | atom ha => have := h'.atom_eq ha; subst this; exact .atom ha
  | ptr hi =>
    obtain ⟨i', hi', rfl⟩ := h'.ptr_inv
    have := hle _ _ hi
    rw [hi'] at this; cases this
    exact .ptr hi
  | eslice =>
    cases h' with
    | atom h => simp [Abs.atom] at h
    | eslice => exact .eslice
  | slice hi hc =>
    cases h' with
    | atom h => simp [Abs.atom] at h
    | slice hi' hc' =>
      have := hle _ _ hi
      rw [hi'] at this; cases this
      exact .slice hi hc'
  | map hi =>
    cases h' with
    | atom h => simp [Abs.atom] at h
    | map hi' =>
      have := hle _ _ hi
      rw [hi'] at this; cases this
      exact .map hi
  | func ha hc =>
    cases h' with
    | atom h =>
      rename_i a c _ _
      cases a with
      | cons _ _ => simp [Abs.atom] at h
      | nil =>
        cases c with
        | cons _ _ => simp [Abs.atom] at h
        | nil => exact .atom rfl
    | func ha' hc' => exact .func (LR.back hle ha ha') (LR.back hle hc hc')
  | yield hi =>
    cases h' with
    | atom h => simp [Abs.atom] at h
    | yield hi' =>
      have := hle _ _ hi
      rw [hi'] at this; cases this
      exact .yield hi
  | iface hv =>
    cases h' with
    | atom h => simp [Abs.atom] at h
    | iface hv' => exact .iface (VR.back hle hv hv')
  | agg hl =>
    cases h' with
    | atom h => simp [Abs.atom] at h
    | agg hl' => exact .agg (LR.back hle hl hl')
  | tuple hl =>
    cases h' with
    | atom h => simp [Abs.atom] at h
    | tuple hl' => exact .tuple (LR.back hle hl hl')
  | opq ho =>
    cases h' with
    | atom h => simp [Abs.atom] at h
    | opq ho' => exact .opq ho'
theorem LR.back {β β' : BM} (hle : β.le β') {l u l' : List Value} (h : LR β l u) (h' : LR β' l l') : LR β l l' := by
  cases h with
  | nil => have := LR.nil_inv h'; subst this; exact .nil
  | cons hv hs =>
    obtain ⟨y, ys, rfl, h1, h2⟩ := LR.cons_inv h'
    exact .cons (VR.back hle hv h1) (LR.back hle hs h2)
end

theorem IR.back {β β' : BM} {x : AItem} {x' : Item} (hp : plainI x = true) (h' : IR β' x x') : IR β x x' := by
  cases h' with
  | code => exact .code _
  | inBlock => exact .inBlock _
  | inLoop => exact .inLoop _
  | inScope => exact .inScope _
  | inRegion k => exact .inRegion k
  | inRange h => cases hp
  | endRange h => cases hp
  | beginRound => exact .beginRound
theorem TR.back {β β' : BM} : ∀ {k : List AItem} {k' : List Item}, k.all plainI = true → TR β' k k' → TR β k k'
  | _, _, _, .nil => .nil
  | _, _, hp, .cons h hs => by
    simp only [List.all_cons, Bool.and_eq_true] at hp
    exact .cons (h.back hp.1) (TR.back hp.2 hs)
end Go.Abs
