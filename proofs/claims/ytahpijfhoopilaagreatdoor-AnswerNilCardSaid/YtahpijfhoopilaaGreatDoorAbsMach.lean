/-
  THE ABSTRACT MACHINE: a deterministic, executable machine over Go's translated code, whose runs stand for all runs of the model's machine (whatever the tape says, and wherever blocks lie).
-/
import GoSem.Step
import GoSem.Claims
import Derived.Orders
set_option linter.unusedSectionVars false
set_option linter.unusedVariables false
set_option linter.unusedSimpArgs false
namespace Go.Abs
open Go

/-! ## a tree keyed by numbers -/
inductive BT (α : Type) where
  | nil
  | node (l : BT α) (v : Option α) (r : BT α)

def BT.get {α : Type} : BT α → Nat → Option α
  | .nil, _ => none
  | .node l v r, n => match n with
    | 0 => v
    | m + 1 => match m % 2 with
      | 0 => l.get (m / 2)
      | _ + 1 => r.get (m / 2)

def BT.put {α : Type} (x : Option α) : Nat → BT α → Nat → BT α
  | 0, t, _ => t
  | f + 1, .nil, n => match n with
    | 0 => .node .nil x .nil
    | m + 1 => match m % 2 with
      | 0 => .node (BT.put x f .nil (m / 2)) none .nil
      | _ + 1 => .node .nil none (BT.put x f .nil (m / 2))
  | f + 1, .node l v r, n => match n with
    | 0 => .node l x r
    | m + 1 => match m % 2 with
      | 0 => .node (BT.put x f l (m / 2)) v r
      | _ + 1 => .node l v (BT.put x f r (m / 2))

def BT.ofListFrom {α : Type} : List α → Nat → BT α → BT α
  | [], _, t => t
  | x :: xs, i, t => BT.ofListFrom xs (i + 1) (BT.put (some x) 20 t i)
def BT.ofList {α : Type} (l : List α) : BT α := BT.ofListFrom l 0 .nil

/-! ## objects -/
structure ALoop where
  state : LoopState
  pending : Option Code
  fn : FuncId
  tmps : List Value
  params : List Tmp
  assign : Code
  body : Code
  defers : Nat

inductive AObj where
  /-- kind 0: a whole block, just these cells; 1: a row that may lie within another, and be longer; 2: as 1, and not to be written -/
  | cells (l : List Value) (et : TypeId) (kind : Nat)
  | map (es : List (Value × Value × Nat)) (clock : Nat) (exact : Bool)
  | miter (m : Option Nat) (since : Nat) (seen : List Nat) (stepped : Nat)
  /-- an iterator of which is not known what was seen -/
  | miterU (m since : Nat)
  /-- an iterator of which the present entry is known; neither it nor its map is written meanwhile -/
  | miterC (k v : Value)
  /-- a map, and an iterator of it: of which entry (by its place) it is known that it was seen -/
  | mapS (es : List (Value × Value × Nat)) (clock : Nat)
  | miterS (m since p : Nat)
  | loop (l : ALoop)
  | defs (ds : Option (List Deferred))

abbrev AHeap := BT AObj
def DEPTH : Nat := 20
def LIMIT : Nat := 500000
def OPEN : Nat := 4611686018427387904

/-- an operation that may not have been carried out as yet: its number, its value, the block that it makes -/
structure Pend where
  i : Nat
  v : Value
  obj : Option (Nat × AObj)
  ins : Option (Nat × Value × Value)
  /-- of a store: what was there before; 'obj' is what is there behind it -/
  st : Option AObj

inductive AItem where
  | code (c : Code)
  | inBlock (id : Nat)
  | inLoop (body : Code)
  | inScope (body : Code)
  | inRegion (ops rest : List Oper)
  | dreg (ops : Array Oper) (bef : List Nat) (done cur : Nat) (pend : List Pend) (chk : Bool)
  | inRangeFunc (l : Nat)
  | endRangeFunc (l : Nat)
  | beginRound

structure AFrame where
  fn : FuncId
  tmps : List Value
  todo : List AItem
  defers : List Deferred
  ret : Bool
  kind : CallKind
  roundOf : Option Nat

structure AState where
  top : AFrame
  callers : List AFrame
  heap : AHeap
  next : Nat

/-- what is fixed: the program, and its tables as trees -/
structure Ctx where
  P : Program
  ty : BT TypeInfo
  fns : BT Func

def lget {α : Type} : List α → Nat → Option α
  | [], _ => none
  | x :: xs, n => match n with
    | 0 => some x
    | m + 1 => lget xs m

def lset {α : Type} (v : α) : List α → Nat → List α
  | [], _ => []
  | x :: xs, n => match n with
    | 0 => v :: xs
    | m + 1 => x :: lset v xs m

def ldrop {α : Type} : List α → Nat → List α
  | [], _ => []
  | x :: xs, n => match n with
    | 0 => x :: xs
    | m + 1 => ldrop xs m

/-- just the first n: none, if there are fewer -/
def ltake? {α : Type} : List α → Nat → Option (List α)
  | l, 0 => some []
  | [], _ + 1 => none
  | x :: xs, n + 1 => match ltake? xs n with
    | some r => some (x :: r)
    | none => none

/-- the segment from a place on is another one: none, if it doesn't lie within -/
def lput? {α : Type} : List α → Nat → List α → Option (List α)
  | l, 0, [] => some l
  | x :: xs, 0, v :: vs => match lput? xs 0 vs with
    | some r => some (v :: r)
    | none => none
  | [], 0, _ :: _ => none
  | x :: xs, n + 1, vs => match lput? xs n vs with
    | some r => some (x :: r)
    | none => none
  | [], _ + 1, _ => none

def llen {α : Type} : List α → Nat → Nat
  | [], n => n
  | _ :: xs, n => llen xs (n + 1)

def atom : Value → Bool
  | .bool _ | .int _ _ | .string _ | .pointer none | .slice none 0 0 | .map none | .nilFunc | .nilIface => true
  | .func (.func _) ⟨[]⟩ ⟨[]⟩ => true
  | _ => false
/-- address-free values -/
def af : Value → Bool
  | .agg ⟨l⟩ => l.all atom
  | .tuple ⟨l⟩ => l.all atom
  | v => atom v

def qrun {α : Type} (P : Program) : Sem α → Option α
  | .pure a => some a
  | .program k => qrun P (k P)
  | .mark _ k => qrun P k
  | _ => none

def und (C : Ctx) (t : TypeId) : Option TypeDesc :=
  match C.ty.get t with
  | some i => match i.desc with
    | .named _ u => match C.ty.get u with
      | some j => some j.desc
      | none => none
    | d => some d
  | none => none

def size? (C : Ctx) (t : TypeId) : Option Nat :=
  match C.ty.get t with
  | some i => some i.size
  | none => none
def zero? (C : Ctx) (t : TypeId) : Option Value :=
  match C.ty.get t with
  | some i => match i.zero with
    | some z => match af z with
      | true => some z
      | false => none
    | none => none
  | none => none
def aggD : TypeDesc → Bool
  | .struct _ | .array _ _ => true
  | _ => false

/-- is it a value of which nothing is known? -/
def isAny : Value → Bool
  | .chan none => true
  | _ => false
def cellsL (v : Value) : List Value := v.cells.toList
def oneCell : Value → Bool
  | .agg _ | .tuple _ | .chan none => false
  | _ => true

def ev (tmps : List Value) : Operand → Value
  | .tmp t => match lget tmps t with
    | some v => v
    | none => undef
  | .const v => v
  | .global g => .pointer (some ⟨g, 0, none⟩)
  | .func f => .func (.func f) #[] #[]

def constsOk (ng : Nat) (o : Oper) : Bool := o.op.operands.toList.all fun | .const v => af v | .global g => Nat.blt g ng | _ => true

def getCells (H : AHeap) (b : Nat) : Option (List Value) :=
  match H.get b with
  | some (.cells l _ _) => some l
  | _ => none

/-- n cells from a place on -/
def readCells (H : AHeap) (b o n : Nat) : Option (List Value) :=
  match getCells H b with
  | some l => ltake? (ldrop l o) n
  | none => none

def loadV (C : Ctx) (H : AHeap) (t : TypeId) (b o : Nat) : Option Value :=
  match und C t with
  | none => none
  | some d =>
    match aggD d with
    | true => match size? C t with
      | some n => match readCells H b o n with
        | some l => some (.agg ⟨l⟩)
        | none => none
      | none => none
    | false => match getCells H b with
      | some l => lget l o
      | none => none

def partV (C : Ctx) (t : TypeId) (cs : List Value) (off : Nat) : Option Value :=
  match und C t with
  | none => none
  | some d =>
    match aggD d with
    | true => match size? C t with
      | some n => match ltake? (ldrop cs off) n with
        | some l => some (.agg ⟨l⟩)
        | none => none
      | none => none
    | false => lget cs off

def natOf : Value → Option Nat
  | .int _ (.ofNat n) => some n
  | _ => none

def optNat : Option Value → Nat → Option Nat
  | none, d => some d
  | some v, _ => natOf v

def sameKey : Value → Value → Option Bool
  | .int k a, .int k' b => if k = k' then some (a == b) else none
  | .string a, .string b => some (a == b)
  | .bool a, .bool b => some (a == b)
  | _, _ => none
/-- a key's place and value: none, if that can't be told -/
def findK (k : Value) : List (Value × Value × Nat) → Nat → Option (Option (Nat × Value))
  | [], _ => some none
  | (k', v, _) :: es, i => match sameKey k k' with
    | some true => some (some (i, v))
    | some false => findK k es (i + 1)
    | none => none

/-- a key's value, where no other entry has that key: none, if that can't be told -/
def findU (k : Value) : List (Value × Value × Nat) → Option (Option Value)
  | [] => some none
  | (k', v, _) :: es => match sameKey k k', findU k es with
    | some true, some none => some (some v)
    | some false, some r => some r
    | _, _ => none

def keyD : TypeDesc → Value → Bool
  | .int _, .int _ _ | .string, .string _ | .bool, .bool _ => true
  | _, _ => false

def nilEq : Value → Value → Option Bool
  | .pointer none, .pointer b => some b.isNone
  | .pointer (some _), .pointer none => some false
  | .slice none _ _, .slice b _ _ => some b.isNone
  | .slice (some _) _ _, .slice none _ _ => some false
  | .map none, .map b => some b.isNone
  | .map (some _), .map none => some false
  | .nilFunc, .func _ _ _ => some false
  | .func _ _ _, .nilFunc => some false
  | .nilFunc, .nilFunc => some true
  | .nilIface, .iface _ _ => some false
  | .iface _ _, .nilIface => some false
  | .nilIface, .nilIface => some true
  | .pointer (some a), .pointer (some b) => if a.block == b.block then some (a == b) else none
  | _, _ => none
/-- may two values of this type be told apart by nilEq? -/
def nilD (C : Ctx) : TypeDesc → Value → Bool
  | .pointer e, .pointer _ => match size? C e with
    | some (_ + 1) => true
    | _ => false
  | .unsafePointer, .pointer _ => true
  | .slice _, .slice _ _ _ => true
  | .map _ _, .map _ => true
  | .func _ _ _, .func _ _ _ => true
  | .func _ _ _, .nilFunc => true
  | .interface _, .iface _ _ => true
  | .interface _, .nilIface => true
  | _, _ => false
def isConst : Operand → Bool
  | .const _ => true
  | _ => false
def bothNilIface : Value → Value → Bool
  | .nilIface, .nilIface => true
  | _, _ => false

def fillL (place : Nat → Option (Nat × Nat)) : List Value → List (Nat × Value) → Option (List Value)
  | cs, [] => some cs
  | cs, (i, v) :: rest => match place i with
    | none => none
    | some (off, size) =>
      let vs := cellsL v
      match Nat.beq (llen vs 0) size && !(isAny v) with
      | true => match lput? cs off vs with
        | some cs => fillL place cs rest
        | none => none
      | false => none

def rep {α : Type} (l : List α) : Nat → List α → List α
  | 0, acc => acc
  | n + 1, acc => rep l n (l ++ acc)

def fieldPlaceL (C : Ctx) (fields : List Field) (i : Nat) : Option (Nat × Nat) :=
  match lget fields i with
  | some f => match size? C f.type with
    | some n => some (f.offset, n)
    | none => none
  | none => none

def ptr (b o : Nat) : Value := .pointer (some ⟨b, o, none⟩)

def capAt (c l : Nat) : Nat := match Nat.ble OPEN c with
  | true => c
  | false => c - l

/-- a map's entries -/
def entriesOf (H : AHeap) : Value → Option (List (Value × Value × Nat))
  | .map none => some []
  | .map (some r) => match H.get r with
    | some (.map es _ _) => some es
    | _ => none
  | _ => none

/-- are an element's bytes few? -/
def smallElem (C : Ctx) (e : TypeId) : Bool :=
  match C.ty.get e with
  | some i => Nat.ble i.bytes 100000
  | none => false

/-- THE QUIET OPERATIONS: they change no block that there is: a value, and the block that is made (its number is 'nx'). -/
def quiet (C : Ctx) (H : AHeap) (nx : Nat) (ρ : Operand → Value) (o : Oper) : Option (Value × Option AObj) :=
  match o.op with
  | .move x | .assign x => some (ρ x, none)
  | .pick c a b => match ρ c with
    | .bool true => some (ρ a, none)
    | .bool false => some (ρ b, none)
    | _ => none
  | .alloc e => match zero? C e with
    | some z => some (ptr nx 0, some (.cells (cellsL z) e 0))
    | none => none
  | .box e x => match isAny (ρ x) with
    | true => none
    | false => some (ptr nx 0, some (.cells (cellsL (ρ x)) e 0))
  | .build t parts => match zero? C t, und C t with
    | some z, some (.struct fields) =>
      match fields.toList.all (fun f => (size? C f.type).isSome), fillL (fieldPlaceL C fields.toList) (cellsL z) (parts.toList.map fun p => (p.1, ρ p.2)) with
      | true, some l => some (.agg ⟨l⟩, none)
      | _, _ => none
    | _, _ => none
  | .buildSlice t len parts => match und C t with
    | some (.slice e) => match size? C e, zero? C e with
      | some n, some z =>
        match n, Nat.ble (len * n) 1000 && Nat.beq (llen (cellsL z) 0) n with
        | _ + 1, true =>
          match fillL (fun i => some (i * n, n)) (rep (cellsL z) len []) (parts.toList.map fun p => (p.1, ρ p.2)) with
          | some l => some (.slice (some ⟨nx, 0, none⟩) len len, some (.cells l e 0))
          | none => none
        | _, _ => none
      | _, _ => none
    | _ => none
  | .load t a => match ρ a with
    | .pointer (some ⟨b, o, none⟩) => match loadV C H t b o with
      | some v => some (v, none)
      | none => none
    | _ => none
  | .nilCheck x => match ρ x with
    | .pointer (some a) => some (.pointer (some a), none)
    | .func (.func f) a b => some (.func (.func f) a b, none)
    | _ => none
  | .binOp op t x y _ =>
    match af (ρ x) && af (ρ y) with
    | true => match qrun C.P (execOp ρ o) with
      | some (.value v) => match af v with
        | true => some (v, none)
        | false => none
      | _ => none
    | false => match und C t with
      | some d => match nilD C d (ρ x) && !(bothNilIface (ρ x) (ρ y)) with
        | true => match nilEq (ρ x) (ρ y), op with
          | some r, .eql => some (.bool r, none)
          | some r, .neq => some (.bool (!r), none)
          | _, _ => none
        | false => none
      | none => none
  | .unOp .. | .index .. => match o.op.operands.toList.all (fun x => af (ρ x)) with
    | true => match qrun C.P (execOp ρ o) with
      | some (.value v) => match af v with
        | true => some (v, none)
        | false => none
      | _ => none
    | false => none
  | .convert s d x => match ρ x with
    | .pointer (some ⟨b, o, none⟩) => match und C s, und C d, H.get b with
      | some (.pointer t), some .unsafePointer, some (.cells l _ _) => match size? C t, Nat.blt o (llen l 0) with
        | some (_ + 1), true => some (ptr b o, none)
        | _, _ => none
      | some .unsafePointer, some (.pointer u), some (.cells l et 0) => match size? C u, size? C et with
        | some (_ + 1), some (m + 1) => match liesAt C.P C.P.depth et (llen l 0 / (m + 1)) o u 1 with
          | true => some (ptr b o, none)
          | false => none
        | _, _ => none
      | _, _, _ => none
    | .int .. => match qrun C.P (execOp ρ o) with
      | some (.value v) => match af v with
        | true => some (v, none)
        | false => none
      | _ => none
    | _ => none
  | .fieldAddr s x f => match und C s, ρ x with
    | some (.struct fields), .pointer (some ⟨b, o, none⟩) => match lget fields.toList f with
      | some fd => match size? C fd.type with
        | some (_ + 1) => some (ptr b (o + fd.offset), none)
        | _ => none
      | none => none
    | _, _ => none
  | .field t x f => match und C t, ρ x with
    | some (.struct fields), .agg ⟨cs⟩ => match lget fields.toList f with
      | some fd => match partV C fd.type cs fd.offset with
        | some v => some (v, none)
        | none => none
      | none => none
    | _, _ => none
  | .indexAddr t x ix => match und C t, ρ x, natOf (ρ ix) with
    | some (.slice e), .slice (some ⟨b, o, none⟩) len _, some i => match Nat.blt i len, size? C e with
      | true, some n => some (ptr b (o + i * n), none)
      | _, _ => none
    | some (.array len e), .pointer (some ⟨b, o, none⟩), some i => match Nat.blt i len, size? C e with
      | true, some n => some (ptr b (o + i * n), none)
      | _, _ => none
    | _, _, _ => none
  | .slice t x lo hi mx => match ρ x with
    | .string _ => match o.op.operands.toList.all (fun x => af (ρ x)) with
      | true => match qrun C.P (execOp ρ o) with
        | some (.value v) => match af v with
          | true => some (v, none)
          | false => none
        | _ => none
      | false => none
    | .slice a len c => match und C t with
      | some (.slice e) => match size? C e, optNat (lo.map ρ) 0, optNat (hi.map ρ) len, optNat (mx.map ρ) 0 with
        | some n, some l, some h, some m =>
          -- the bound of what there surely is: a slice that is open has its length at least
          let top := match Nat.ble OPEN c with
            | true => len
            | false => c
          match mx, hi with
          | none, _ =>
            match Nat.ble l h && Nat.ble h top with
            | true => match a with
              | none => some (.slice none 0 0, none)
              | some ⟨b, o, none⟩ => match Nat.ble OPEN c with
                | true => match l with
                  | 0 => some (.slice (some ⟨b, o, none⟩) h c, none)
                  | k + 1 => match Nat.beq (k + 1) len with   -- is the capacity behind the cut 0? nobody knows
                    | true => some (.slice (some ⟨0, 0, some 0⟩) 0 OPEN, none)
                    | false => match Nat.blt (k + 1) len, H.get b with   -- the capacity behind the cut isn't 0
                      | true, some (.cells _ et 1) => match Nat.beq et e with
                        | true => some (.slice (some ⟨b, o + (k + 1) * n, none⟩) (h - (k + 1)) c, none)
                        | false => none
                      | _, _ => none
                | false => match Nat.beq c l with
                  | true => some (.slice (some ⟨b, o, none⟩) (h - l) (c - l), none)
                  | false => some (.slice (some ⟨b, o + l * n, none⟩) (h - l) (c - l), none)
              | _ => none
            | false => none
          | some _, some _ =>
            match Nat.ble l h && (Nat.ble h m && (Nat.ble m top && Nat.blt m OPEN)) with
            | true => match a with
              | none => some (.slice none 0 0, none)
              | some ⟨b, o, none⟩ => match Nat.beq m l with
                | true => some (.slice (some ⟨b, o, none⟩) (h - l) (m - l), none)
                | false => some (.slice (some ⟨b, o + l * n, none⟩) (h - l) (m - l), none)
              | _ => none
            | false => none
          | some _, none => none
        | _, _, _, _ => none
      | _ => none
    | .pointer (some ⟨b, o, none⟩) => match und C t with
      | some (.array len e) => match size? C e, optNat (lo.map ρ) 0, optNat (hi.map ρ) len, mx, Nat.blt len OPEN with
        | some n, some l, some h, none, true =>
          match Nat.ble l h && Nat.ble h len with
          | true => match Nat.beq len l with
            | true => some (.slice (some ⟨b, o, none⟩) (h - l) (len - l), none)
            | false => some (.slice (some ⟨b, o + l * n, none⟩) (h - l) (len - l), none)
          | false => none
        | _, _, _, _, _ => none
      | _ => none
    | _ => none
  | .extract t ix => match ρ t with
    | .tuple ⟨l⟩ => match lget l ix with
      | some v => some (v, none)
      | none => none
    | _ => none
  | .makeFunc fn first captured => match fn with
    | .func f => some (.func (.func f) ⟨first.toList.map ρ⟩ ⟨captured.toList.map ρ⟩, none)
    | _ => none
  | .makeInterface t x => match und C t with
    | some (.interface _) => none
    | some _ => some (.iface t (ρ x), none)
    | none => none
  | .makeMap _ r => match r with
    | none => some (.map (some nx), some (.map [] 0 true))
    | some _ => none
  | .makeSlice t l c => match und C t, natOf (ρ l), natOf (ρ c) with
    | some (.slice e), some len, some cap => match size? C e, zero? C e with
      | some (n + 1), some z => match (Nat.ble len cap && Nat.ble cap 5000) && (Nat.beq (llen (cellsL z) 0) (n + 1) && smallElem C e) with
        | true => some (.slice (some ⟨nx, 0, none⟩) len cap, some (.cells (rep (cellsL z) cap []) e 0))
        | false => none
      | _, _ => none
    | _, _, _ => none
  | .lookup t x ix ok => match und C t with
    | some (.map kt e) => match und C kt with
      | some kd => match keyD kd (ρ ix), zero? C e with
        | true, some z =>
          match entriesOf H (ρ x) with
          | some es => match findU (ρ ix) es with
            | some (some v) => some (if ok then .tuple ⟨[v, .bool true]⟩ else v, none)
            | some none => some (if ok then .tuple ⟨[z, .bool false]⟩ else z, none)
            | none => none
          | none => none
        | _, _ => none
      | none => none
    | _ => none
  | .range t x => match und C t, ρ x with
    | some (.map _ _), .map none => some (ptr nx 0, some (.miter none 0 [] 0))
    | some (.map _ _), .map (some m) => match H.get m with
      | some (.map _ clock _) => some (ptr nx 0, some (.miter (some m) clock [] clock))
      | _ => none
    | _, _ => none
  | .entry it => match ρ it with
    | .pointer (some ⟨r, 0, none⟩) => match H.get r with
      | some (.miter (some m) _ [s] stepped) => match H.get m with
        | some (.map [(k, v, born)] clock true) => match Nat.beq clock stepped && Nat.beq s born with
          | true => some (.tuple ⟨[k, v]⟩, none)
          | false => none
        | _ => none
      | some (.miterC k v) => some (.tuple ⟨[k, v]⟩, none)
      | _ => none
    | _ => none
  | .call c => match c.callee with
    | .builtin .len => match lget c.args.toList 0, lget c.argTypes.toList 0 with
      | some x, some t => match und C t, ρ x with
        | some (.slice _), .slice _ n _ => some (goInt n, none)
        | some .string, .string s => some (goInt s.size, none)
        | some (.map _ _), .map none => some (goInt 0, none)
        | some (.map _ _), .map (some r) => match H.get r with
          | some (.map es _ _) => some (goInt (llen es 0), none)
          | _ => none
        | _, _ => none
      | _, _ => none
    | .builtin .cap => match lget c.args.toList 0, lget c.argTypes.toList 0 with
      | some x, some t => match und C t, ρ x with
        | some (.slice _), .slice _ _ n => match Nat.blt n OPEN with
          | true => some (goInt n, none)
          | false => none
        | _, _ => none
      | _, _ => none
    | .builtin .min | .builtin .max => match o.op.operands.toList.all (fun x => af (ρ x)) with
      | true => match qrun C.P (execOp ρ o) with
        | some (.value v) => match af v with
          | true => some (v, none)
          | false => none
        | _ => none
      | false => none
    | .builtin .unsafeSliceData => match c.args.toList with
      | [x] => match ρ x with
        | .slice (some ⟨b, o, none⟩) (_ + 1) (_ + 1) => some (ptr b o, none)
        | .slice none _ _ => some (.pointer none, none)
        | _ => none
      | _ => none
    | _ => none
  | _ => none

inductive Eff where
  | val (v : Value) (H : AHeap) (nx : Nat)
  | enter (f : FuncId) (args : List Value)
  | round (l : Nat) (args : List Value)
  | defer (d : Deferred)
  | recover

def hput (H : AHeap) (b : Nat) (x : AObj) : AHeap := BT.put (some x) DEPTH H b
def hdel (H : AHeap) (b : Nat) : AHeap := BT.put none DEPTH H b

def bytesL (s : ByteArray) : List Value := s.data.toList.map fun b => .int .u8 b.toNat

/-- the cells of what is appended, or copied: so many elements of such a size -/
def srcCells (H : AHeap) (n size : Nat) : Value → Option (List Value)
  | .slice (some ⟨b, o, none⟩) _ _ => readCells H b o (n * size)
  | .slice none _ _ => match n with
    | 0 => some []
    | _ + 1 => none
  | .string s => match size with
    | 1 => ltake? (bytesL s) n
    | _ => none
  | _ => none
def srcLen : Value → Option Nat
  | .slice _ n _ => some n
  | .string s => some s.size
  | _ => none

/-- cells as bytes -/
def bytesOf : List Value → Option (List UInt8)
  | [] => some []
  | .int .u8 (.ofNat x) :: vs => match Nat.blt x 256, bytesOf vs with
    | true, some bs => some (UInt8.ofNat x :: bs)
    | _, _ => none
  | _ :: _ => none

def append (C : Ctx) (H : AHeap) (nx : Nat) (t : TypeId) (s x : Value) : Option Eff :=
  match und C t with
  | some (.slice e) => match size? C e, zero? C e, srcLen x, s with
    | some (size + 1), some z, some n, .slice base len c =>
      match srcCells H n (size + 1) x, (Nat.ble (len + n) 1000000 && smallElem C e) && Nat.beq (llen (cellsL z) 0) (size + 1) with
      | some new, true =>
        match n with
        | 0 => match Nat.ble OPEN c || Nat.ble len c with
          | true => some (.val s H nx)
          | false => none
        | n + 1 => match Nat.blt c OPEN with
          | true => match Nat.ble (len + (n + 1)) c with
            | true => match base with   -- it fits: within
              | some ⟨b, o, none⟩ => match H.get b with
                | some (.cells l et 0) => match new.all oneCell, lput? l (o + len * (size + 1)) new with
                  | true, some l => some (.val (.slice (some ⟨b, o, none⟩) (len + (n + 1)) c) (hput H b (.cells l et 0)) nx)
                  | _, _ => none
                | _ => none
              | _ => none
            | false => match srcCells H len (size + 1) s with   -- it does not: a new row
              | some old => some (.val (.slice (some ⟨nx, 0, none⟩) (len + (n + 1)) OPEN) (hput H nx (.cells (old ++ new) e 1)) (nx + 1))
              | none => none
          | false => match base with   -- nobody knows
            | some ⟨b, o, none⟩ => match H.get b with
              | some (.cells l et 1) => match Nat.beq et e && new.all oneCell, ltake? (ldrop l o) (len * (size + 1)) with
                | true, some old => some (.val (.slice (some ⟨nx, 0, none⟩) (len + (n + 1)) OPEN) (hput (hdel H b) nx (.cells (old ++ new) e 1)) (nx + 1))
                | _, _ => none
              | _ => none
            | _ => none
      | _, _ => none
    | _, _, _, _ => none
  | _ => none

def mapPut (C : Ctx) (H : AHeap) (nx : Nat) (t : TypeId) (m k x : Value) : Option Eff :=
  match und C t, m with
  | some (.map kt _), .map (some r) => match und C kt, H.get r with
    | some kd, some (.map es clock true) => match keyD kd k with
      | true => match findK k es 0 with
        | some none => some (.val undef (hput H r (.map (es ++ [(k, x, clock)]) (clock + 1) true)) nx)
        | some (some (i, _)) => match lget es i with
          | some (_, _, born) => some (.val undef (hput H r (.map (lset (k, x, born) es i) clock true)) nx)
          | none => none
        | none => none
      | false => none
    | _, _ => none
  | _, _ => none

def lerase {α : Type} : List α → Nat → List α
  | [], _ => []
  | x :: xs, n => match n with
    | 0 => xs
    | m + 1 => x :: lerase xs m

def mapDel (C : Ctx) (H : AHeap) (nx : Nat) (t : TypeId) (m k : Value) : Option Eff :=
  match und C t, m with
  | some (.map kt _), .map (some r) => match und C kt, H.get r with
    | some kd, some (.map es clock true) => match keyD kd k with
      | true => match findK k es 0 with
        | some none => some (.val undef (hput H r (.map es clock true)) nx)
        | some (some (i, _)) => some (.val undef (hput H r (.map (lerase es i) clock true)) nx)
        | none => none
      | false => none
    | _, _ => none
  | _, _ => none

/-- what a call comes to -/
def callV (f : Value) (args : List Value) : Option Eff :=
  match f with
  | .func (.func g) ⟨first⟩ ⟨captured⟩ => some (.enter g (first ++ args ++ captured))
  | .func (.yield l) ⟨[]⟩ ⟨[]⟩ => some (.round l args)
  | _ => none

def effect (C : Ctx) (H : AHeap) (nx : Nat) (ρ : Operand → Value) (o : Oper) : Option Eff :=
  match o.op with
  | .store t a x => match ρ a, size? C t with
    | .pointer (some ⟨b, o, none⟩), some n =>
      let vs := cellsL (ρ x)
      match Nat.beq (llen vs 0) n && vs.all oneCell, H.get b with
      | true, some (.cells l et kind) => match Nat.blt kind 2, lput? l o vs with
        | true, some l => some (.val undef (hput H b (.cells l et kind)) nx)
        | _, _ => none
      | _, _ => none
    | _, _ => none
  | .mapUpdate t m k x | .insert t m k x => mapPut C H nx t (ρ m) (ρ k) (ρ x)
  | .binOp op t x y _ => match und C t, ρ x, ρ y with
    | some (.pointer e), .pointer (some ⟨b, f, none⟩), .pointer (some ⟨c, g, none⟩) => match size? C e, Nat.beq b c, H.get b, H.get c with
      | some (_ + 1), false, some (.cells l _ 0), some (.cells m _ 0) => match Nat.blt f (llen l 0) && Nat.blt g (llen m 0), op with
        | true, .eql => some (.val (.bool false) H nx)
        | true, .neq => some (.val (.bool true) H nx)
        | _, _ => none
      | _, _, _, _ => none
    | _, _, _ => none
  | .next it false => match ρ it with
    | .pointer (some ⟨r, 0, none⟩) => match H.get r with
      | some (.miter none _ _ _) => some (.val (.tuple ⟨[.bool false]⟩) H nx)
      | some (.miter (some m) since seen stepped) => match H.get m with
        | some (.map [] _ true) => some (.val (.tuple ⟨[.bool false]⟩) H nx)
        | some (.map [(k, v, born)] clock true) => match seen with
          | [] => match Nat.blt born since with
            | true => some (.val (.tuple ⟨[.bool true, k, v]⟩) (hput H r (.miter (some m) since [born] clock)) nx)
            | false => none
          | [s] => match Nat.beq s born && Nat.blt born stepped with
            | true => some (.val (.tuple ⟨[.bool false]⟩) H nx)
            | false => none
          | _ => none
        | _ => none
      | _ => none
    | _ => none
  | .defer c => match c.callee with
    | .value f => match ρ f with
      | .func (.func g) ⟨first⟩ captured => some (.defer { target := .fn (.func g) captured, args := ⟨first ++ c.args.toList.map ρ⟩ })
      | _ => none
    | _ => none
  | .convert s d x => match ρ x, und C s, und C d with
    | .string bs, some .string, some (.slice e) => match und C e, size? C e, Nat.ble bs.size 1000000 with
      | some (.int .u8), some 1, true => some (.val (.slice (some ⟨nx, 0, none⟩) bs.size OPEN) (hput H nx (.cells (bytesL bs) e 1)) (nx + 1))
      | _, _, _ => none
    | .slice (some ⟨b, f, none⟩) len _, some (.slice e), some .string => match und C e, readCells H b f len with
      | some (.int .u8), some cs => match bytesOf cs with
        | some bs => some (.val (.string ⟨⟨bs⟩⟩) H nx)
        | none => none
      | _, _ => none
    | _, _, _ => none
  | .call c => match c.callee with
    | .builtin .append => match c.args.toList, c.argTypes.toList with
      | [s, x], [t, u] => match und C u with
        | some (.slice _) | some .string => append C H nx t (ρ s) (ρ x)
        | _ => none
      | _, _ => none
    | .builtin .recover => some .recover
    | .builtin .delete => match c.args.toList, c.argTypes.toList with
      | [m, k], t :: _ => mapDel C H nx t (ρ m) (ρ k)
      | _, _ => none
    | .builtin .copy => match c.args.toList, c.argTypes.toList with
      | [d, x], t :: _ => match und C t, ρ d, srcLen (ρ x) with
        | some (.slice e), .slice _ len _, some n => match size? C e, Nat.min n len with
          | some _, 0 => some (.val (goInt 0) H nx)
          | _, _ => none
        | _, _, _ => none
      | _, _ => none
    | .builtin .unsafeString => match c.args.toList.map ρ, c.argTypes.toList with
      | [.pointer (some ⟨b, o, none⟩), l], pt :: _ => match natOf l, H.get b, und C pt with
        | some (n + 1), some (.cells cs et kind), some (.pointer u) => match ltake? (ldrop cs o) (n + 1), (Nat.beq u et && Nat.ble n 1000000) && Nat.blt kind 2, size? C et with
          | some vs, true, some 1 => match bytesOf vs with
            | some bs => some (.val (.string ⟨⟨bs⟩⟩) (hput H b (.cells cs et 2)) nx)
            | none => none
          | _, _, _ => none
        | _, _, _ => none
      | [.pointer none, l], _ :: _ => match natOf l with
        | some 0 => some (.val (.string ⟨⟨[]⟩⟩) H nx)
        | _ => none
      | _, _ => none
    | .value f => callV (ρ f) (c.args.toList.map ρ)
    | _ => none
  | _ => none

/-- an object behind a store -/
def stV (C : Ctx) (t : TypeId) (va vx : Value) (x0 : AObj) : Option (Nat × AObj) :=
  match va, size? C t with
  | .pointer (some ⟨b, f, none⟩), some n =>
    match Nat.beq (llen (cellsL vx) 0) n && (cellsL vx).all oneCell, x0 with
    | true, .cells l et kind => match Nat.blt kind 2, lput? l f (cellsL vx) with
      | true, some l2 => some (b, .cells l2 et kind)
      | _, _ => none
    | _, _ => none
  | _, _ => none

/-- which operations are quiet (by their text alone)? -/
def isQuiet (o : Oper) : Bool :=
  match o.op with
  | .store .. | .mapUpdate .. | .insert .. | .next .. | .defer _ | .panic _ | .entryStore .. | .mapEntry .. | .go _ | .send .. | .recv .. | .select .. => false
  | .call c => match c.callee with
    | .builtin .len | .builtin .cap | .builtin .min | .builtin .max | .builtin .unsafeSliceData => true
    | _ => false
  | _ => true

def wantedL (ops : List Oper) (tmps : List Value) (o : Oper) : Bool :=
  match o.guard with
  | none => true
  | some (j, want) => match lget ops j with
    | some oj => match oj.dst with
      | some d => match lget tmps d with
        | some (.bool b) => b == want
        | _ => false
      | none => false
    | none => false

/-- an operation's guard is a known one -/
def guardOk (ops : List Oper) (tmps : List Value) (o : Oper) : Bool :=
  match o.guard with
  | none => true
  | some (j, _) => match lget ops j with
    | some oj => match oj.dst with
      | some d => match lget tmps d with
        | some (.chan _) => false
        | _ => true
      | none => true
    | none => true

def putDst (tmps : List Value) (d : Option Tmp) (v : Value) : List Value :=
  match d with
  | some t => lset v tmps t
  | none => tmps

/-! ## regions that draw their order -/
def subset (a b : Nat) : Bool := Nat.beq (Nat.land a b) a

/-- within such a region: what may be carried out early -/
def isEarly (o : Oper) : Bool :=
  match o.op with
  | .range .. | .assign _ => false
  | .insert .. => true
  | _ => isQuiet o

def isStore (o : Oper) : Bool :=
  match o.op with
  | .store .. => true
  | _ => false

/-- the first that is not carried out, and all ahead of it is -/
def pickOne (early : Bool) : List Oper → List Nat → Nat → Nat → Option Nat
  | o :: ops, m :: bef, done, i => match (isEarly o == early) && ((!(Nat.testBit done i)) && subset m done) with
    | true => some i
    | false => pickOne early ops bef done (i + 1)
  | _, _, _, _ => none

/-- no other one that may not be early is ready -/
def sole (c : Nat) : List Oper → List Nat → Nat → Nat → Bool
  | o :: ops, m :: bef, done, i => (Nat.beq c i || (isEarly o || (Nat.testBit done i || !(subset m done)))) && sole c ops bef done (i + 1)
  | _, _, _, _ => true

def lnth (l : List Nat) (i : Nat) : Nat :=
  match lget l i with
  | some m => m
  | none => 0

/-- all that is ahead of an operation -/
def maskE (acc : List Nat) : List Edge → Nat
  | [] => 0
  | e :: es => match Region.binds .any e with
    | true => Nat.lor (Nat.lor (2 ^ e.on) (lnth acc e.on)) (maskE acc es)
    | false => maskE acc es
def befs : List Oper → List Nat → List Nat
  | [], acc => acc
  | o :: ops, acc => befs ops (acc ++ [maskE acc o.after.toList])

/-- what an operation looks at -/
def looks (ops : List Oper) (o : Oper) : List Tmp :=
  (o.op.operands.toList.filterMap fun | .tmp t => some t | _ => none) ++
  (match o.guard with
   | some (g, _) => match lget ops g with
     | some x => x.dst.toList
     | none => []
   | none => [])

def memN (t : Nat) : List Nat → Bool
  | [] => false
  | x :: xs => Nat.beq x t || memN t xs

/-- an operation doesn't look at what it writes -/
def selfOk (ops : List Oper) (o : Oper) : Bool :=
  match o.dst with
  | some d => !(memN d (looks ops o))
  | none => true

/-- an operation may be carried out while those have not been -/
def apart (ops : List Oper) (m : Nat) (o : Oper) : List Pend → Bool
  | [] => true
  | p :: ps => match lget ops p.i with
    | some q => ((match q.dst with
        | some d => Nat.testBit m p.i || !(memN d (looks ops o))
        | none => true) &&
      (match o.dst with
        | some d => !(memN d (looks ops q)) && (match q.dst with
          | some d' => !(Nat.beq d d')
          | none => true)
        | none => true)) && apart ops m o ps
    | none => false

/-- each edge leads back -/
def edgesBack : List Oper → Nat → Bool
  | [], _ => true
  | o :: rest, i => o.after.toList.all (fun e => (!Region.binds .any e) || Nat.blt e.on i) && edgesBack rest (i + 1)

/-- the entries that were put into a map while it may not have been there -/
def insOf (b : Nat) : List Pend → List (Value × Value × Nat)
  | [] => []
  | p :: ps => match p.ins with
    | some (c, k, v) => match Nat.beq c b with
      | true => (k, v, 0) :: insOf b ps
      | false => insOf b ps
    | none => insOf b ps

/-- an object with what was put into it -/
def whole (b : Nat) (x : AObj) (pend : List Pend) : AObj :=
  match insOf b pend with
  | [] => x
  | e :: es => .map (e :: es) (llen (e :: es) 0) false

/-- have all that were put into it a number in a mask? -/
def insIn (mask b : Nat) : List Pend → Bool
  | [] => true
  | p :: ps => (match p.ins with
    | some (c, _, _) => (!(Nat.beq c b)) || Nat.testBit mask p.i
    | none => true) && insIn mask b ps

/-- is a block's maker in a mask? -/
def madeIn (mask b : Nat) : List Pend → Bool
  | [] => false
  | p :: ps => (match p.obj with
    | some (c, _) => Nat.beq c b && Nat.testBit mask p.i
    | none => false) || madeIn mask b ps

/-- those in a mask have been carried out: what they made is there -/
def unlock (mask : Nat) (full : List Pend) : List Pend → AHeap → Option (List Pend × AHeap)
  | [], H => some ([], H)
  | p :: ps, H => match Nat.testBit mask p.i with
    | true => match p.obj with
      | some (b, x) => match insIn mask b full with
        | true => unlock mask full ps (hput H b (whole b x full))
        | false => none
      | none => match p.ins with
        | none => unlock mask full ps H
        | some (b, _, _) => match madeIn mask b full with
          | true => unlock mask full ps H
          | false => none
    | false => match unlock mask full ps H with
      | some (ps, H) => some (p :: ps, H)
      | none => none

/-- is that map a pending one, made ahead, and is the key another one than those that it has? -/
def insOk (m b : Nat) (k : Value) (pend : List Pend) : Bool :=
  pend.any (fun p => match p.obj with
    | some (c, .map [] 0 true) => Nat.beq c b && Nat.testBit m p.i
    | _ => false) &&
  (insOf b pend).all (fun e => match sameKey k e.1 with
    | some false => true
    | _ => false)

end Go.Abs

/-
  THE ABSTRACT MACHINE's STEP.
-/
namespace Go.Abs
open Go

/-- functions without a body -/
inductive Ext where
  | same
  | indexByte
  | makeNoZero (e : TypeId)

/-- a contract: of the heap, the number of the next block and the arguments: what is returned, and what is made -/
abbrev Con := AHeap → Nat → List Value → Option (Value × List AObj)

structure Env extends Ctx where
  ext : BT Ext
  con : BT Con
  /-- how many of the package variables are known -/
  ng : Nat

def fill {α : Type} (x : α) : Nat → List α → List α
  | 0, acc => acc
  | n + 1, acc => fill x n (x :: acc)

def enterF (E : Env) (f : FuncId) (args : List Value) (kind : CallKind) : Option AFrame :=
  match E.fns.get f with
  | some fn => match fn.body with
    | some c => some { fn := f, tmps := args ++ fill undef (fn.ntmps - llen args 0) [], todo := [.code c], defers := [], ret := false, kind, roundOf := none }
    | none => none
  | none => none

/-- a frame goes on with a value -/
def finish (fr : AFrame) (v : Value) : Option AFrame :=
  match fr.todo with
  | .inRegion ops (o :: rest) :: k => some { fr with tmps := putDst fr.tmps o.dst v, todo := .inRegion ops rest :: k }
  | .dreg ops bef done i pend _ :: k => match lget ops.toList i with
    | some o => some { fr with tmps := putDst fr.tmps o.dst v, todo := .dreg ops bef (Nat.lor done (2 ^ i)) 0 pend true :: k }
    | none => none
  | .inRangeFunc l :: k => some { fr with todo := .endRangeFunc l :: k }
  | _ => none

def exitTo (id : Nat) : List AItem → Option (List AItem)
  | .inBlock id' :: k => match Nat.beq id' id with
    | true => some k
    | false => exitTo id k
  | _ :: k => exitTo id k
  | [] => none

def getLoop (H : AHeap) (l : Nat) : Option ALoop :=
  match H.get l with
  | some (.loop r) => some r
  | _ => none

/-- a round ends: its frame is left -/
def leave (s : AState) (jump : Option Code) : Option AState :=
  match s.top.roundOf with
  | none => match jump with
    | none | some .ret => some { s with top := { s.top with ret := true } }
    | _ => none
  | some l => match getLoop s.heap l, s.callers, s.top.kind with
    | some r, c :: cs, .normal => match finish c (.bool jump.isNone) with
      | some c => some { s with top := c, callers := cs, heap := hput s.heap l (.loop { r with state := if jump.isNone then .ready else .done, pending := jump }) }
      | none => none
    | _, _, _ => none

def pushes (E : Env) (s : AState) (g : FuncId) (args : List Value) (kind : CallKind) : Option AState :=
  match enterF E g args kind with
  | some fr => some { s with top := fr, callers := s.top :: s.callers }
  | none => none

/-- a function without a body is called by an operation -/
def extern (E : Env) (s : AState) (g : FuncId) (args : List Value) : Option (Value × AHeap × Nat) :=
  match E.ext.get g, args with
  | some .same, [x] => some (x, s.heap, s.next)
  | some .indexByte, [.string b, .int .u8 (.ofNat c)] =>
    match (List.range b.size).find? (fun i => b[i]! == UInt8.ofNat c) with
    | some i => some (goInt i, s.heap, s.next)
    | none => some (goInt (-1), s.heap, s.next)
  | some (.makeNoZero e), [.int .i64 (.ofNat n)] => match Nat.ble n 100000 with
    | true => some (.slice (some ⟨s.next, 0, none⟩) n OPEN, hput s.heap s.next (.cells [] e 1), s.next + 1)
    | false => none
  | _, _ => none

/-- new objects, one by one -/
def hputs (H : AHeap) (nx : Nat) : List AObj → AHeap
  | [] => H
  | x :: xs => hputs (hput H nx x) (nx + 1) xs

/-- a call by its contract -/
def conV (E : Env) (H : AHeap) (nx : Nat) (g : FuncId) (args : List Value) : Option (Value × List AObj) :=
  match E.con.get g with
  | some c => match c H nx args with
    | some (v, xs) => match Nat.blt (nx + llen xs 0) LIMIT, E.fns.get g with
      | true, some fn => match fn.body with
        | some _ => some (v, xs)
        | none => none
      | _, _ => none
    | none => none
  | none => none

/-- a call -/
def enterE (E : Env) (s : AState) (g : FuncId) (args : List Value) : Option AState :=
  match E.fns.get g with
  | some fn => match fn.body with
    | some _ => pushes E s g args .normal
    | none => match extern E s g args with
      | some (v, H, nx) => match finish s.top v with
        | some top => some { s with top, heap := H, next := nx }
        | none => none
      | none => none
  | none => none

/-- an operation that isn't quiet -/
def doEff (E : Env) (s : AState) (e : Eff) : Option AState :=
  match e with
  | .val v H nx => match finish s.top v with
    | some top => some { s with top, heap := H, next := nx }
    | none => none
  | .enter g args => match conV E s.heap s.next g args with
    | some (v, xs) => match finish s.top v with
      | some top => some { s with top, heap := hputs s.heap s.next xs, next := s.next + llen xs 0 }
      | none => none
    | none => enterE E s g args
  | .round l args => match getLoop s.heap l with
    | some r => match Nat.beq (llen args 0) (llen r.params 0) with
      | true => some { s with
          top := { fn := r.fn, tmps := (r.params.zip args).foldl (fun t (d, v) => lset v t d) r.tmps, todo := [.code r.assign, .beginRound, .code r.body], defers := [], ret := false, kind := .normal, roundOf := some l }
          callers := s.top :: s.callers }
      | false => none
    | none => none
  | .defer d => match s.top.roundOf with
    | none => match finish { s.top with defers := d :: s.top.defers } undef with
      | some top => some { s with top }
      | none => none
    | some _ => none
  | .recover => match s.top.roundOf, s.top.kind, s.callers with
    | none, .deferred, c :: _ => match c.ret with
      | true => match finish s.top .nilIface with
        | some top => some { s with top }
        | none => none
      | false => none
    | _, _, _ => none

/-- are two values spelled the same? (of some depth) -/
def eqv : Nat → Value → Value → Bool
  | _, .bool a, .bool b => a == b
  | _, .int k a, .int j b => k == j && a == b
  | _, .string a, .string b => a == b
  | _, .pointer a, .pointer b => a == b
  | _, .slice a l c, .slice b m d => a == b && l == m && c == d
  | _, .map a, .map b => a == b
  | _, .nilFunc, .nilFunc => true
  | _, .nilIface, .nilIface => true
  | n + 1, .func f ⟨a⟩ ⟨c⟩, .func g ⟨b⟩ ⟨d⟩ => f == g && a.length == b.length && (a.zip b).all (fun (x, y) => eqv n x y) && c.length == d.length && (c.zip d).all (fun (x, y) => eqv n x y)
  | n + 1, .iface t a, .iface u b => t == u && eqv n a b
  | n + 1, .agg ⟨a⟩, .agg ⟨b⟩ => a.length == b.length && (a.zip b).all fun (x, y) => eqv n x y
  | n + 1, .tuple ⟨a⟩, .tuple ⟨b⟩ => a.length == b.length && (a.zip b).all fun (x, y) => eqv n x y
  | _, _, _ => false

/-- does an operation look into blocks? -/
def readsHeap (o : Oper) : Bool :=
  match o.op with
  | .load .. | .lookup .. | .entry .. | .range .. | .convert .. | .slice .. | .call _ => true
  | _ => false

/-- what may not have been carried out as yet would still come to the same -/
def recheck (C : Ctx) (H : AHeap) (tmps : List Value) (ops : List Oper) : List Pend → Bool
  | [] => true
  | p :: ps => match lget ops p.i with
    | some o => (match readsHeap o && wantedL ops tmps o with
      | true => match quiet C H 0 (ev tmps) o with
        | some (v, none) => eqv 5 v p.v
        | _ => false
      | false => true) && recheck C H tmps ops ps
    | none => false

def resultsL (C : Ctx) (H : AHeap) (tmps : List Value) : List ResultVar → Option (List Value)
  | [] => some []
  | .tmp t :: rs => match resultsL C H tmps rs with
    | some vs => some (ev tmps (.tmp t) :: vs)
    | none => none
  | .cell a t :: rs => match ev tmps (.tmp a) with
    | .pointer (some ⟨b, o, none⟩) => match loadV C H t b o, resultsL C H tmps rs with
      | some v, some vs => some (v :: vs)
      | _, _ => none
    | _ => none

def oneV : List Value → Value
  | [v] => v
  | vs => .tuple ⟨vs⟩

/-- a frame that returns -/
def returning (E : Env) (s : AState) : Option AState :=
  match s.top.defers with
  | { target := .collected b, .. } :: ds => match s.heap.get b with
    | some (.defs (some l)) => some { s with top := { s.top with defers := l ++ ds }, heap := hput s.heap b (.defs none) }
    | _ => none
  | { target := .fn (.func f) ⟨captured⟩, args := ⟨args⟩ } :: ds =>
    pushes E { s with top := { s.top with defers := ds } } f (args ++ captured) .deferred
  | _ :: _ => none
  | [] => match E.fns.get s.top.fn with
    | some fn => match resultsL E.toCtx s.heap s.top.tmps fn.results.toList with
      | some vs => match s.callers with
        | c :: cs => match s.top.kind with
          | .normal => match finish c (oneV vs) with
            | some c => some { s with top := c, callers := cs }
            | none => none
          | .deferred => match c.ret with
            | true => some { s with top := c, callers := cs }
            | false => none
          | _ => none
        | [] => none
      | none => none
    | none => none

def isTmp : Operand → Bool
  | .tmp _ | .func _ => true
  | _ => false
def loopEnter (E : Env) (s : AState) (f : Operand) (params : Array Tmp) (assign body : Code) (k : List AItem) : Option AState :=
  match isTmp f, ev s.top.tmps f with
  | true, .func (.func g) ⟨first⟩ ⟨captured⟩ =>
    match s.top.roundOf with
    | none =>
      let r := s.next
      let l := s.next + 1
      let lp : ALoop := { state := .ready, pending := none, fn := s.top.fn, tmps := s.top.tmps, params := params.toList, assign, body, defers := r }
      pushes E { s with top := { s.top with todo := .inRangeFunc l :: k, defers := { target := .collected r, args := #[] } :: s.top.defers }
                        heap := hput (hput s.heap r (.defs (some []))) l (.loop lp), next := s.next + 2 } g (first ++ [.func (.yield l) #[] #[]] ++ captured) .normal
    | some l0 => match getLoop s.heap l0 with
      | some r0 =>
        let l := s.next
        let lp : ALoop := { state := .ready, pending := none, fn := s.top.fn, tmps := s.top.tmps, params := params.toList, assign, body, defers := r0.defers }
        pushes E { s with top := { s.top with todo := .inRangeFunc l :: k }, heap := hput s.heap l (.loop lp), next := s.next + 1 } g (first ++ [.func (.yield l) #[] #[]] ++ captured) .normal
      | none => none
  | _, _ => none

/-- an entry that is put into a map: the map, the key, the value -/
def insP (C : Ctx) (ρ : Operand → Value) (o : Oper) : Option (Nat × Value × Value) :=
  match o.op with
  | .insert t m k x => match ρ m, und C t with
    | .map (some b), some (.map kt _) => match und C kt with
      | some kd => match keyD kd (ρ k) with
        | true => some (b, ρ k, ρ x)
        | false => none
      | none => none
    | _, _ => none
  | _ => none

/-- an operation of a region that draws, carried out early -/
def early (E : Env) (s : AState) (k : List AItem) (ops : Array Oper) (bef : List Nat) (done i : Nat) (pend : List Pend) (o : Oper) : Option AState :=
  match wantedL ops.toList s.top.tmps o with
  | false => some { s with top := { s.top with tmps := putDst s.top.tmps o.dst undef, todo := .dreg ops bef (Nat.lor done (2 ^ i)) 0 (⟨i, undef, none, none, none⟩ :: pend) false :: k } }
  | true => match insP E.toCtx (ev s.top.tmps) o with
    | some (b, k', v) => match insOk (lnth bef i) b k' pend with
      | true => some { s with top := { s.top with tmps := putDst s.top.tmps o.dst undef, todo := .dreg ops bef (Nat.lor done (2 ^ i)) 0 (⟨i, undef, none, some (b, k', v), none⟩ :: pend) false :: k } }
      | false => none
    | none => match quiet E.toCtx s.heap s.next (ev s.top.tmps) o with
      | some (v, none) => some { s with top := { s.top with tmps := putDst s.top.tmps o.dst v, todo := .dreg ops bef (Nat.lor done (2 ^ i)) 0 (⟨i, v, none, none, none⟩ :: pend) false :: k } }
      | some (v, some x) => match readsHeap o with
        | false => some { s with top := { s.top with tmps := putDst s.top.tmps o.dst v, todo := .dreg ops bef (Nat.lor done (2 ^ i)) 0 (⟨i, v, some (s.next, x), none, none⟩ :: pend) false :: k }, next := s.next + 1 }
        | true => none
      | none => none

/-- an operation that is carried out now -/
def execO (E : Env) (s : AState) (ops : List Oper) (o : Oper) : Option AState :=
  match guardOk ops s.top.tmps o with
  | false => none
  | true => match wantedL ops s.top.tmps o with
  | false => match finish s.top undef with
    | some top => some { s with top }
    | none => none
  | true => match constsOk E.ng o with
    | false => none
    | true => match isQuiet o with
      | true => match quiet E.toCtx s.heap s.next (ev s.top.tmps) o with
        | some (v, none) => match finish s.top v with
          | some top => some { s with top }
          | none => none
        | some (v, some x) => match finish s.top v with
          | some top => some { s with top, heap := hput s.heap s.next x, next := s.next + 1 }
          | none => none
        | none => match effect E.toCtx s.heap s.next (ev s.top.tmps) o with
          | some e => doEff E s e
          | none => none
      | false => match effect E.toCtx s.heap s.next (ev s.top.tmps) o with
        | some e => doEff E s e
        | none => none

/-- a store that may not have been carried out as yet: nobody looks at its block, meanwhile -/
def hold (E : Env) (s : AState) (k : List AItem) (ops : Array Oper) (bef : List Nat) (done i : Nat) (pend : List Pend) (o : Oper) : Option AState :=
  match (constsOk E.ng o && (selfOk ops.toList o && guardOk ops.toList s.top.tmps o)) && (apart ops.toList (lnth bef i) o pend && wantedL ops.toList s.top.tmps o) with
  | true => match o.op with
    | .store t a x => match ev s.top.tmps a with
      | .pointer (some ⟨b, f, none⟩) => match s.heap.get b with
        | some x0 => match stV E.toCtx t (.pointer (some ⟨b, f, none⟩)) (ev s.top.tmps x) x0 with
          | some (_, x1) => some { s with top := { s.top with tmps := putDst s.top.tmps o.dst undef, todo := .dreg ops bef (Nat.lor done (2 ^ i)) 0 (⟨i, undef, some (b, x1), none, some x0⟩ :: pend) true :: k }, heap := hdel s.heap b }
          | none => none
        | none => none
      | _ => none
    | _ => none
  | false => none

/-- a region that draws its order -/
def dstep (E : Env) (s : AState) (k : List AItem) (ops : Array Oper) (bef : List Nat) (done : Nat) (pend : List Pend) : Option AState :=
  match pickOne true ops.toList bef done 0 with
  | some i => match lget ops.toList i with
    | some o => match (constsOk E.ng o && (selfOk ops.toList o && guardOk ops.toList s.top.tmps o)) && apart ops.toList (lnth bef i) o pend with
      | true => early E s k ops bef done i pend o
      | false => none
    | none => none
  | none => match pickOne false ops.toList bef done 0 with
    | some i => match lget ops.toList i with
      | some o => match sole i ops.toList bef done 0 with
        | true => match unlock (lnth bef i) pend pend s.heap with
          | some (pend, H) => match apart ops.toList (lnth bef i) o pend with
            | true => execO E { s with top := { s.top with todo := .dreg ops bef done i pend false :: k }, heap := H } ops.toList o
            | false => none
          | none => none
        | false => hold E s k ops bef done i pend o
      | none => none
    | none => match Nat.beq (Nat.land done (2 ^ ops.size - 1)) (2 ^ ops.size - 1), unlock (2 ^ ops.size - 1) pend pend s.heap with
      | true, some ([], H) => some { s with top := { s.top with todo := k }, heap := H }
      | _, _ => none

/-- one step of the frame on top -/
def astep (E : Env) (s : AState) : Option AState :=
  match s.top.ret with
  | true => returning E s
  | false =>
    let to (todo : List AItem) : Option AState := some { s with top := { s.top with todo } }
    match s.top.todo with
    | [] => leave s none
    | .code c :: k => match c with
      | .ret => leave s (some .ret)
      | .skip | .label _ => to k
      | .seq a b => to (.code a :: .code b :: k)
      | .cond c a b => match ev s.top.tmps c with
        | .bool true => to (.code a :: k)
        | .bool false => to (.code b :: k)
        | _ => none
      | .block id body => to (.code body :: .inBlock id :: k)
      | .loop body => to (.code body :: .inLoop body :: k)
      | .scope body => to (.code body :: .inScope body :: k)
      | .exit id => match exitTo id k with
        | some k => to k
        | none => leave s (some (.exit id))
      | .rangeFunc f params assign body => loopEnter E s f params assign body k
      | .region _ ops false => to (.inRegion ops.toList ops.toList :: k)
      | .region _ ops true => match edgesBack ops.toList 0 with
        | true => to (.dreg ops (befs ops.toList []) 0 0 [] false :: k)
        | false => none
      | _ => none
    | .inBlock _ :: k | .inScope _ :: k => to k
    | .inLoop body :: k => to (.code body :: .inLoop body :: k)
    | .inRegion _ [] :: k => to k
    | .inRegion ops (o :: _) :: _ => execO E s ops o
    | .dreg ops bef done _ pend true :: k => match recheck E.toCtx s.heap s.top.tmps ops.toList pend with
      | true => to (.dreg ops bef done 0 pend false :: k)
      | false => none
    | .dreg ops bef done _ pend false :: k => dstep E s k ops bef done pend
    | .endRangeFunc l :: k => match getLoop s.heap l with
      | some r => match r.state with
        | .busy => none
        | _ => some { s with top := { s.top with todo := (match r.pending with | some c => AItem.code c :: k | none => k) }, heap := hput s.heap l (.loop { r with state := .exhausted }) }
      | none => none
    | .beginRound :: k => match s.top.roundOf with
      | some l => match getLoop s.heap l with
        | some r => match r.state with
          | .ready => some { s with top := { s.top with todo := k }, heap := hput s.heap l (.loop { r with state := .busy }) }
          | _ => none
        | none => none
      | none => none
    | .inRangeFunc _ :: _ => none

/-- has the run come to its end: the first frame has returned? -/
def atEnd (s : AState) : Bool := s.top.ret && s.callers.isEmpty && s.top.defers.isEmpty

def run (E : Env) : Nat → AState → Option AState
  | 0, s => some s
  | n + 1, s => match atEnd s with
    | true => some s
    | false => match Nat.blt s.next 490000 with
      | true => match astep E s with
        | some s => run E n s
        | none => none
      | false => none

end Go.Abs

/-
  THE ABSTRACT MACHINE: plain facts on its trees and lists.
-/
namespace Go.Abs
open Go

theorem half_eq {m n : Nat} (h : m / 2 = n / 2) (h2 : m % 2 = n % 2) : m = n := by omega

theorem BT.get_nil {α : Type} (n : Nat) : (BT.nil : BT α).get n = none := rfl

theorem BT.get_node {α : Type} (l r : BT α) (v : Option α) (n : Nat) :
    (BT.node l v r).get n = if n = 0 then v else if (n - 1) % 2 = 0 then l.get ((n - 1) / 2) else r.get ((n - 1) / 2) := by
  cases n with
  | zero => rfl
  | succ m =>
    simp only [BT.get, Nat.add_sub_cancel, Nat.succ_ne_zero, if_false]
    cases h : m % 2 with
    | zero => simp
    | succ k => simp

theorem BT.put_nil {α : Type} (x : Option α) (f n : Nat) :
    BT.put x (f + 1) .nil n = if n = 0 then .node .nil x .nil else if (n - 1) % 2 = 0 then .node (BT.put x f .nil ((n - 1) / 2)) none .nil else .node .nil none (BT.put x f .nil ((n - 1) / 2)) := by
  cases n with
  | zero => rfl
  | succ m =>
    simp only [BT.put, Nat.add_sub_cancel, Nat.succ_ne_zero, if_false]
    cases h : m % 2 with
    | zero => simp
    | succ k => simp

theorem BT.put_node {α : Type} (x : Option α) (f : Nat) (l r : BT α) (v : Option α) (n : Nat) :
    BT.put x (f + 1) (.node l v r) n = if n = 0 then .node l x r else if (n - 1) % 2 = 0 then .node (BT.put x f l ((n - 1) / 2)) v r else .node l v (BT.put x f r ((n - 1) / 2)) := by
  cases n with
  | zero => rfl
  | succ m =>
    simp only [BT.put, Nat.add_sub_cancel, Nat.succ_ne_zero, if_false]
    cases h : m % 2 with
    | zero => simp
    | succ k => simp

theorem BT.get_put_ne {α : Type} (x : Option α) : ∀ (f : Nat) (t : BT α) (n m : Nat), n ≠ m → (BT.put x f t n).get m = t.get m
  | 0, t, n, m, _ => rfl
  | f + 1, .nil, n, m, h => by
    rw [BT.put_nil, BT.get_nil]
    by_cases hn : n = 0
    · subst hn
      rw [if_pos rfl, BT.get_node]
      rw [if_neg (by omega)]
      split <;> rfl
    · rw [if_neg hn]
      by_cases hn2 : (n - 1) % 2 = 0
      · rw [if_pos hn2, BT.get_node]
        by_cases hm : m = 0
        · rw [if_pos hm]
        · rw [if_neg hm]
          by_cases hm2 : (m - 1) % 2 = 0
          · rw [if_pos hm2, BT.get_put_ne x f _ _ _ (by omega)]; rfl
          · rw [if_neg hm2]; rfl
      · rw [if_neg hn2, BT.get_node]
        by_cases hm : m = 0
        · rw [if_pos hm]
        · rw [if_neg hm]
          by_cases hm2 : (m - 1) % 2 = 0
          · rw [if_pos hm2]; rfl
          · rw [if_neg hm2, BT.get_put_ne x f _ _ _ (by omega)]; rfl
  | f + 1, .node l v r, n, m, h => by
    rw [BT.put_node, BT.get_node]
    by_cases hn : n = 0
    · subst hn
      have hm : m ≠ 0 := fun e => h e.symm
      rw [if_pos rfl, BT.get_node, if_neg hm, if_neg hm]
    · rw [if_neg hn]
      by_cases hn2 : (n - 1) % 2 = 0
      · rw [if_pos hn2, BT.get_node]
        by_cases hm : m = 0
        · rw [if_pos hm, if_pos hm]
        · rw [if_neg hm, if_neg hm]
          by_cases hm2 : (m - 1) % 2 = 0
          · rw [if_pos hm2, if_pos hm2, BT.get_put_ne x f _ _ _ (by omega)]
          · rw [if_neg hm2, if_neg hm2]
      · rw [if_neg hn2, BT.get_node]
        by_cases hm : m = 0
        · rw [if_pos hm, if_pos hm]
        · rw [if_neg hm, if_neg hm]
          by_cases hm2 : (m - 1) % 2 = 0
          · rw [if_pos hm2, if_pos hm2]
          · rw [if_neg hm2, if_neg hm2, BT.get_put_ne x f _ _ _ (by omega)]

theorem BT.get_put_same {α : Type} (x : Option α) : ∀ (f : Nat) (t : BT α) (n : Nat), n + 1 < 2 ^ f → (BT.put x f t n).get n = x
  | 0, t, n, h => by simp at h
  | f + 1, .nil, n, h => by
    rw [BT.put_nil]
    by_cases hn : n = 0
    · rw [if_pos hn, BT.get_node, if_pos hn]
    · have h2 : (n - 1) / 2 + 1 < 2 ^ f := by rw [Nat.pow_succ] at h; omega
      rw [if_neg hn]
      by_cases hn2 : (n - 1) % 2 = 0
      · rw [if_pos hn2, BT.get_node, if_neg hn, if_pos hn2, BT.get_put_same x f _ _ h2]
      · rw [if_neg hn2, BT.get_node, if_neg hn, if_neg hn2, BT.get_put_same x f _ _ h2]
  | f + 1, .node l v r, n, h => by
    rw [BT.put_node]
    by_cases hn : n = 0
    · rw [if_pos hn, BT.get_node, if_pos hn]
    · have h2 : (n - 1) / 2 + 1 < 2 ^ f := by rw [Nat.pow_succ] at h; omega
      rw [if_neg hn]
      by_cases hn2 : (n - 1) % 2 = 0
      · rw [if_pos hn2, BT.get_node, if_neg hn, if_pos hn2, BT.get_put_same x f _ _ h2]
      · rw [if_neg hn2, BT.get_node, if_neg hn, if_neg hn2, BT.get_put_same x f _ _ h2]

theorem BT.get_put_or {α : Type} (x : Option α) : ∀ (f : Nat) (t : BT α) (n : Nat), (BT.put x f t n).get n = x ∨ (BT.put x f t n).get n = t.get n
  | 0, t, n => .inr rfl
  | f + 1, .nil, n => by
    rw [BT.put_nil]
    by_cases hn : n = 0
    · rw [if_pos hn, BT.get_node, if_pos hn]; exact .inl rfl
    · rw [if_neg hn]
      by_cases hn2 : (n - 1) % 2 = 0
      · rw [if_pos hn2, BT.get_node, if_neg hn, if_pos hn2]; exact BT.get_put_or x f .nil _
      · rw [if_neg hn2, BT.get_node, if_neg hn, if_neg hn2]; exact BT.get_put_or x f .nil _
  | f + 1, .node l v r, n => by
    rw [BT.put_node]
    by_cases hn : n = 0
    · rw [if_pos hn, BT.get_node, if_pos hn]; exact .inl rfl
    · rw [if_neg hn]
      by_cases hn2 : (n - 1) % 2 = 0
      · rw [if_pos hn2, BT.get_node, BT.get_node, if_neg hn, if_neg hn, if_pos hn2, if_pos hn2]; exact BT.get_put_or x f l _
      · rw [if_neg hn2, BT.get_node, BT.get_node, if_neg hn, if_neg hn, if_neg hn2, if_neg hn2]; exact BT.get_put_or x f r _

theorem BT.get_ofListFrom {α : Type} : ∀ (l : List α) (i : Nat) (t : BT α) (j : Nat) (x : α), (BT.ofListFrom l i t).get j = some x → (i ≤ j ∧ l[j - i]? = some x) ∨ t.get j = some x
  | [], _, _, _, _, h => .inr h
  | y :: ys, i, t, j, x, h => by
    rcases BT.get_ofListFrom ys (i + 1) _ j x h with ⟨h1, h2⟩ | h
    · refine .inl ⟨by omega, ?_⟩
      rw [show j - i = (j - (i + 1)) + 1 from by omega]
      exact h2
    · by_cases e : i = j
      · subst e
        rcases BT.get_put_or (some y) 20 t i with h' | h'
        · rw [h'] at h
          refine .inl ⟨Nat.le_refl _, ?_⟩
          rw [Nat.sub_self]
          exact h
        · rw [h'] at h; exact .inr h
      · rw [BT.get_put_ne _ _ _ _ _ e] at h; exact .inr h

theorem BT.get_ofList {α : Type} {l : List α} {j : Nat} {x : α} (h : (BT.ofList l).get j = some x) : l[j]? = some x := by
  rcases BT.get_ofListFrom l 0 .nil j x h with ⟨_, h⟩ | h
  · simpa using h
  · cases h

/-! ## lists -/
theorem lget_eq {α : Type} : ∀ (l : List α) (n : Nat), lget l n = l[n]?
  | [], n => by simp [lget]
  | x :: xs, 0 => rfl
  | x :: xs, n + 1 => by simp [lget, lget_eq xs n]

theorem lset_eq {α : Type} (v : α) : ∀ (l : List α) (n : Nat), lset v l n = l.set n v
  | [], n => by simp [lset]
  | x :: xs, 0 => rfl
  | x :: xs, n + 1 => by simp [lset, lset_eq v xs n]

theorem ldrop_eq {α : Type} : ∀ (l : List α) (n : Nat), ldrop l n = l.drop n
  | [], n => by simp [ldrop]
  | x :: xs, 0 => rfl
  | x :: xs, n + 1 => by simp [ldrop, ldrop_eq xs n]

theorem llen_eq {α : Type} : ∀ (l : List α) (n : Nat), llen l n = l.length + n
  | [], n => by simp [llen]
  | x :: xs, n => by simp [llen, llen_eq xs (n + 1)]; omega

theorem ltake?_spec {α : Type} : ∀ {l : List α} {n : Nat} {r : List α}, ltake? l n = some r → n ≤ l.length ∧ r = l.take n
  | l, 0, r, h => by simp [ltake?] at h; simp [h]
  | [], n + 1, r, h => by simp [ltake?] at h
  | x :: xs, n + 1, r, h => by
    simp only [ltake?] at h
    cases hx : ltake? xs n with
    | none => simp [hx] at h
    | some s =>
      simp only [hx, Option.some.injEq] at h
      obtain ⟨h1, h2⟩ := ltake?_spec hx
      subst h
      exact ⟨by simp; omega, by simp [h2]⟩

theorem lput?_spec {α : Type} : ∀ {l : List α} {o : Nat} {vs r : List α}, lput? l o vs = some r → o + vs.length ≤ l.length ∧ r = l.take o ++ vs ++ l.drop (o + vs.length)
  | l, 0, [], r, h => by simp [lput?] at h; simp [h]
  | [], 0, v :: vs, r, h => by simp [lput?] at h
  | x :: xs, 0, v :: vs, r, h => by
    simp only [lput?] at h
    cases hx : lput? xs 0 vs with
    | none => simp [hx] at h
    | some s =>
      simp only [hx, Option.some.injEq] at h
      obtain ⟨h1, h2⟩ := lput?_spec hx
      subst h
      exact ⟨by simp at h1 ⊢; omega, by simp at h2 ⊢; exact h2⟩
  | [], o + 1, vs, r, h => by cases vs <;> simp [lput?] at h
  | x :: xs, o + 1, vs, r, h => by
    have h' : (match lput? xs o vs with | some r => some (x :: r) | none => none) = some r := by cases vs <;> exact h
    cases hx : lput? xs o vs with
    | none => simp [hx] at h'
    | some s =>
      simp only [hx, Option.some.injEq] at h'
      obtain ⟨h1, h2⟩ := lput?_spec hx
      subst h'
      refine ⟨by simp; omega, ?_⟩
      rw [h2, show o + 1 + vs.length = (o + vs.length) + 1 from by omega]
      simp

theorem rep_eq {α : Type} (l : List α) : ∀ (n : Nat) (acc : List α), rep l n acc = (List.replicate n l).flatten ++ acc
  | 0, acc => by simp [rep]
  | n + 1, acc => by
    rw [rep, rep_eq l n]
    rw [List.replicate_succ', List.flatten_append]
    simp

theorem fill_eq {α : Type} (x : α) : ∀ (n : Nat) (acc : List α), fill x n acc = List.replicate n x ++ acc
  | 0, acc => by simp [fill]
  | n + 1, acc => by
    rw [fill, fill_eq x n, List.replicate_succ']
    simp

theorem qrun_sound {α : Type} {P : Program} : ∀ {s : Sem α} {a : α}, qrun P s = some a → ∀ w, s.run P w = .ok a w
  | .pure a, b, h, w => by simp only [qrun, Option.some.injEq] at h; subst h; rfl
  | .program k, b, h, w => by simp only [qrun] at h; simp only [Sem.run]; exact qrun_sound h w
  | .mark m k, b, h, w => by simp only [qrun] at h; simp only [Sem.run]; exact qrun_sound h w
  | .load .., b, h, w => by simp [qrun] at h
  | .store .., b, h, w => by simp [qrun] at h
  | .new .., b, h, w => by simp [qrun] at h
  | .shape .., b, h, w => by simp [qrun] at h
  | .freeze .., b, h, w => by simp [qrun] at h
  | .frozen .., b, h, w => by simp [qrun] at h
  | .getObj .., b, h, w => by simp [qrun] at h
  | .setObj .., b, h, w => by simp [qrun] at h
  | .choose .., b, h, w => by simp [qrun] at h
  | .sys .., b, h, w => by simp [qrun] at h
  | .halt _, b, h, w => by simp [qrun] at h

end Go.Abs
