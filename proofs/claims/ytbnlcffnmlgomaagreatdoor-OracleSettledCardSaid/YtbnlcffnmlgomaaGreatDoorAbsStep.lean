/-
  THE ABSTRACT MACHINE's STEP.
-/
import Derived.Test.YtbnlcffnmlgomaaGreatDoorAbsMach
set_option linter.unusedSectionVars false
set_option linter.unusedVariables false
set_option linter.unusedSimpArgs false
namespace Go.Abs
open Go

/-- functions without a body -/
inductive Ext where
  | same
  | indexByte
  | makeNoZero (e : TypeId)

/-- a contract: of the heap, the number of the next block and the arguments: what is returned, and what is made -/
abbrev Con := AHeap → Nat → List Value → Option (Value × List AObj)

structure Env extends Ctx where
  ext : BT Ext
  con : BT Con
  /-- how many of the package variables are known -/
  ng : Nat

def fill {α : Type} (x : α) : Nat → List α → List α
  | 0, acc => acc
  | n + 1, acc => fill x n (x :: acc)

def enterF (E : Env) (f : FuncId) (args : List Value) (kind : CallKind) : Option AFrame :=
  match E.fns.get f with
  | some fn => match fn.body with
    | some c => some { fn := f, tmps := args ++ fill undef (fn.ntmps - llen args 0) [], todo := [.code c], defers := [], ret := false, kind, roundOf := none }
    | none => none
  | none => none

/-- a frame goes on with a value -/
def finish (fr : AFrame) (v : Value) : Option AFrame :=
  match fr.todo with
  | .inRegion ops (o :: rest) :: k => some { fr with tmps := putDst fr.tmps o.dst v, todo := .inRegion ops rest :: k }
  | .dreg ops bef done i pend _ :: k => match lget ops.toList i with
    | some o => some { fr with tmps := putDst fr.tmps o.dst v, todo := .dreg ops bef (Nat.lor done (2 ^ i)) 0 pend true :: k }
    | none => none
  | .inRangeFunc l :: k => some { fr with todo := .endRangeFunc l :: k }
  | _ => none

def exitTo (id : Nat) : List AItem → Option (List AItem)
  | .inBlock id' :: k => match Nat.beq id' id with
    | true => some k
    | false => exitTo id k
  | _ :: k => exitTo id k
  | [] => none

def getLoop (H : AHeap) (l : Nat) : Option ALoop :=
  match H.get l with
  | some (.loop r) => some r
  | _ => none

/-- a round ends: its frame is left -/
def leave (s : AState) (jump : Option Code) : Option AState :=
  match s.top.roundOf with
  | none => match jump with
    | none | some .ret => some { s with top := { s.top with ret := true } }
    | _ => none
  | some l => match getLoop s.heap l, s.callers, s.top.kind with
    | some r, c :: cs, .normal => match finish c (.bool jump.isNone) with
      | some c => some { s with top := c, callers := cs, heap := hput s.heap l (.loop { r with state := if jump.isNone then .ready else .done, pending := jump }) }
      | none => none
    | _, _, _ => none

def pushes (E : Env) (s : AState) (g : FuncId) (args : List Value) (kind : CallKind) : Option AState :=
  match enterF E g args kind with
  | some fr => some { s with top := fr, callers := s.top :: s.callers }
  | none => none

/-- a function without a body is called by an operation -/
def extern (E : Env) (s : AState) (g : FuncId) (args : List Value) : Option (Value × AHeap × Nat) :=
  match E.ext.get g, args with
  | some .same, [x] => some (x, s.heap, s.next)
  | some .indexByte, [.string b, .int .u8 (.ofNat c)] =>
    match (List.range b.size).find? (fun i => b[i]! == UInt8.ofNat c) with
    | some i => some (goInt i, s.heap, s.next)
    | none => some (goInt (-1), s.heap, s.next)
  | some (.makeNoZero e), [.int .i64 (.ofNat n)] => match Nat.ble n 100000 with
    | true => some (.slice (some ⟨s.next, 0, none⟩) n OPEN, hput s.heap s.next (.cells [] e 1), s.next + 1)
    | false => none
  | _, _ => none

/-- new objects, one by one -/
def hputs (H : AHeap) (nx : Nat) : List AObj → AHeap
  | [] => H
  | x :: xs => hputs (hput H nx x) (nx + 1) xs

/-- a call by its contract -/
def conV (E : Env) (H : AHeap) (nx : Nat) (g : FuncId) (args : List Value) : Option (Value × List AObj) :=
  match E.con.get g with
  | some c => match c H nx args with
    | some (v, xs) => match Nat.blt (nx + llen xs 0) LIMIT, E.fns.get g with
      | true, some fn => match fn.body with
        | some _ => some (v, xs)
        | none => none
      | _, _ => none
    | none => none
  | none => none

/-- a call -/
def enterE (E : Env) (s : AState) (g : FuncId) (args : List Value) : Option AState :=
  match E.fns.get g with
  | some fn => match fn.body with
    | some _ => pushes E s g args .normal
    | none => match extern E s g args with
      | some (v, H, nx) => match finish s.top v with
        | some top => some { s with top, heap := H, next := nx }
        | none => none
      | none => none
  | none => none

/-- an operation that isn't quiet -/
def doEff (E : Env) (s : AState) (e : Eff) : Option AState :=
  match e with
  | .val v H nx => match finish s.top v with
    | some top => some { s with top, heap := H, next := nx }
    | none => none
  | .enter g args => match conV E s.heap s.next g args with
    | some (v, xs) => match finish s.top v with
      | some top => some { s with top, heap := hputs s.heap s.next xs, next := s.next + llen xs 0 }
      | none => none
    | none => enterE E s g args
  | .round l args => match getLoop s.heap l with
    | some r => match Nat.beq (llen args 0) (llen r.params 0) with
      | true => some { s with
          top := { fn := r.fn, tmps := (r.params.zip args).foldl (fun t (d, v) => lset v t d) r.tmps, todo := [.code r.assign, .beginRound, .code r.body], defers := [], ret := false, kind := .normal, roundOf := some l }
          callers := s.top :: s.callers }
      | false => none
    | none => none
  | .defer d => match s.top.roundOf with
    | none => match finish { s.top with defers := d :: s.top.defers } undef with
      | some top => some { s with top }
      | none => none
    | some _ => none
  | .recover => match s.top.roundOf, s.top.kind, s.callers with
    | none, .deferred, c :: _ => match c.ret with
      | true => match finish s.top .nilIface with
        | some top => some { s with top }
        | none => none
      | false => none
    | _, _, _ => none

/-- are two values spelled the same? (of some depth) -/
def eqv : Nat → Value → Value → Bool
  | _, .bool a, .bool b => a == b
  | _, .int k a, .int j b => k == j && a == b
  | _, .string a, .string b => a == b
  | _, .pointer a, .pointer b => a == b
  | _, .slice a l c, .slice b m d => a == b && l == m && c == d
  | _, .map a, .map b => a == b
  | _, .nilFunc, .nilFunc => true
  | _, .nilIface, .nilIface => true
  | n + 1, .func f ⟨a⟩ ⟨c⟩, .func g ⟨b⟩ ⟨d⟩ => f == g && a.length == b.length && (a.zip b).all (fun (x, y) => eqv n x y) && c.length == d.length && (c.zip d).all (fun (x, y) => eqv n x y)
  | n + 1, .iface t a, .iface u b => t == u && eqv n a b
  | n + 1, .agg ⟨a⟩, .agg ⟨b⟩ => a.length == b.length && (a.zip b).all fun (x, y) => eqv n x y
  | n + 1, .tuple ⟨a⟩, .tuple ⟨b⟩ => a.length == b.length && (a.zip b).all fun (x, y) => eqv n x y
  | _, _, _ => false

/-- does an operation look into blocks? -/
def readsHeap (o : Oper) : Bool :=
  match o.op with
  | .load .. | .lookup .. | .entry .. | .range .. | .convert .. | .slice .. | .call _ => true
  | _ => false

/-- what may not have been carried out as yet would still come to the same -/
def recheck (C : Ctx) (H : AHeap) (tmps : List Value) (ops : List Oper) : List Pend → Bool
  | [] => true
  | p :: ps => match lget ops p.i with
    | some o => (match readsHeap o && wantedL ops tmps o with
      | true => match quiet C H 0 (ev tmps) o with
        | some (v, none) => eqv 5 v p.v
        | _ => false
      | false => true) && recheck C H tmps ops ps
    | none => false

def resultsL (C : Ctx) (H : AHeap) (tmps : List Value) : List ResultVar → Option (List Value)
  | [] => some []
  | .tmp t :: rs => match resultsL C H tmps rs with
    | some vs => some (ev tmps (.tmp t) :: vs)
    | none => none
  | .cell a t :: rs => match ev tmps (.tmp a) with
    | .pointer (some ⟨b, o, none⟩) => match loadV C H t b o, resultsL C H tmps rs with
      | some v, some vs => some (v :: vs)
      | _, _ => none
    | _ => none

def oneV : List Value → Value
  | [v] => v
  | vs => .tuple ⟨vs⟩

/-- a frame that returns -/
def returning (E : Env) (s : AState) : Option AState :=
  match s.top.defers with
  | { target := .collected b, .. } :: ds => match s.heap.get b with
    | some (.defs (some l)) => some { s with top := { s.top with defers := l ++ ds }, heap := hput s.heap b (.defs none) }
    | _ => none
  | { target := .fn (.func f) ⟨captured⟩, args := ⟨args⟩ } :: ds =>
    pushes E { s with top := { s.top with defers := ds } } f (args ++ captured) .deferred
  | _ :: _ => none
  | [] => match E.fns.get s.top.fn with
    | some fn => match resultsL E.toCtx s.heap s.top.tmps fn.results.toList with
      | some vs => match s.callers with
        | c :: cs => match s.top.kind with
          | .normal => match finish c (oneV vs) with
            | some c => some { s with top := c, callers := cs }
            | none => none
          | .deferred => match c.ret with
            | true => some { s with top := c, callers := cs }
            | false => none
          | _ => none
        | [] => none
      | none => none
    | none => none

def isTmp : Operand → Bool
  | .tmp _ | .func _ => true
  | _ => false
def loopEnter (E : Env) (s : AState) (f : Operand) (params : Array Tmp) (assign body : Code) (k : List AItem) : Option AState :=
  match isTmp f, ev s.top.tmps f with
  | true, .func (.func g) ⟨first⟩ ⟨captured⟩ =>
    match s.top.roundOf with
    | none =>
      let r := s.next
      let l := s.next + 1
      let lp : ALoop := { state := .ready, pending := none, fn := s.top.fn, tmps := s.top.tmps, params := params.toList, assign, body, defers := r }
      pushes E { s with top := { s.top with todo := .inRangeFunc l :: k, defers := { target := .collected r, args := #[] } :: s.top.defers }
                        heap := hput (hput s.heap r (.defs (some []))) l (.loop lp), next := s.next + 2 } g (first ++ [.func (.yield l) #[] #[]] ++ captured) .normal
    | some l0 => match getLoop s.heap l0 with
      | some r0 =>
        let l := s.next
        let lp : ALoop := { state := .ready, pending := none, fn := s.top.fn, tmps := s.top.tmps, params := params.toList, assign, body, defers := r0.defers }
        pushes E { s with top := { s.top with todo := .inRangeFunc l :: k }, heap := hput s.heap l (.loop lp), next := s.next + 1 } g (first ++ [.func (.yield l) #[] #[]] ++ captured) .normal
      | none => none
  | _, _ => none

/-- an entry that is put into a map: the map, the key, the value -/
def insP (C : Ctx) (ρ : Operand → Value) (o : Oper) : Option (Nat × Value × Value) :=
  match o.op with
  | .insert t m k x => match ρ m, und C t with
    | .map (some b), some (.map kt _) => match und C kt with
      | some kd => match keyD kd (ρ k) with
        | true => some (b, ρ k, ρ x)
        | false => none
      | none => none
    | _, _ => none
  | _ => none

/-- an operation of a region that draws, carried out early -/
def early (E : Env) (s : AState) (k : List AItem) (ops : Array Oper) (bef : List Nat) (done i : Nat) (pend : List Pend) (o : Oper) : Option AState :=
  match wantedL ops.toList s.top.tmps o with
  | false => some { s with top := { s.top with tmps := putDst s.top.tmps o.dst undef, todo := .dreg ops bef (Nat.lor done (2 ^ i)) 0 (⟨i, undef, none, none⟩ :: pend) false :: k } }
  | true => match insP E.toCtx (ev s.top.tmps) o with
    | some (b, k', v) => match insOk (lnth bef i) b k' pend with
      | true => some { s with top := { s.top with tmps := putDst s.top.tmps o.dst undef, todo := .dreg ops bef (Nat.lor done (2 ^ i)) 0 (⟨i, undef, none, some (b, k', v)⟩ :: pend) false :: k } }
      | false => none
    | none => match quiet E.toCtx s.heap s.next (ev s.top.tmps) o with
      | some (v, none) => some { s with top := { s.top with tmps := putDst s.top.tmps o.dst v, todo := .dreg ops bef (Nat.lor done (2 ^ i)) 0 (⟨i, v, none, none⟩ :: pend) false :: k } }
      | some (v, some x) => match readsHeap o with
        | false => some { s with top := { s.top with tmps := putDst s.top.tmps o.dst v, todo := .dreg ops bef (Nat.lor done (2 ^ i)) 0 (⟨i, v, some (s.next, x), none⟩ :: pend) false :: k }, next := s.next + 1 }
        | true => none
      | none => none

/-- an operation that is carried out now -/
def execO (E : Env) (s : AState) (ops : List Oper) (o : Oper) : Option AState :=
  match guardOk ops s.top.tmps o with
  | false => none
  | true => match wantedL ops s.top.tmps o with
  | false => match finish s.top undef with
    | some top => some { s with top }
    | none => none
  | true => match constsOk E.ng o with
    | false => none
    | true => match isQuiet o with
      | true => match quiet E.toCtx s.heap s.next (ev s.top.tmps) o with
        | some (v, none) => match finish s.top v with
          | some top => some { s with top }
          | none => none
        | some (v, some x) => match finish s.top v with
          | some top => some { s with top, heap := hput s.heap s.next x, next := s.next + 1 }
          | none => none
        | none => none
      | false => match effect E.toCtx s.heap s.next (ev s.top.tmps) o with
        | some e => doEff E s e
        | none => none

/-- a region that draws its order -/
def dstep (E : Env) (s : AState) (k : List AItem) (ops : Array Oper) (bef : List Nat) (done : Nat) (pend : List Pend) : Option AState :=
  match pickOne true ops.toList bef done 0 with
  | some i => match lget ops.toList i with
    | some o => match (constsOk E.ng o && (selfOk ops.toList o && guardOk ops.toList s.top.tmps o)) && apart ops.toList (lnth bef i) o pend with
      | true => early E s k ops bef done i pend o
      | false => none
    | none => none
  | none => match pickOne false ops.toList bef done 0 with
    | some i => match lget ops.toList i with
      | some o => match unlock (lnth bef i) pend pend s.heap with
        | some (pend, H) => match sole i ops.toList bef done 0 && apart ops.toList (lnth bef i) o pend with
          | true => execO E { s with top := { s.top with todo := .dreg ops bef done i pend false :: k }, heap := H } ops.toList o
          | false => none
        | none => none
      | none => none
    | none => match Nat.beq (Nat.land done (2 ^ ops.size - 1)) (2 ^ ops.size - 1), unlock (2 ^ ops.size - 1) pend pend s.heap with
      | true, some ([], H) => some { s with top := { s.top with todo := k }, heap := H }
      | _, _ => none

/-- one step of the frame on top -/
def astep (E : Env) (s : AState) : Option AState :=
  match s.top.ret with
  | true => returning E s
  | false =>
    let to (todo : List AItem) : Option AState := some { s with top := { s.top with todo } }
    match s.top.todo with
    | [] => leave s none
    | .code c :: k => match c with
      | .ret => leave s (some .ret)
      | .skip | .label _ => to k
      | .seq a b => to (.code a :: .code b :: k)
      | .cond c a b => match ev s.top.tmps c with
        | .bool true => to (.code a :: k)
        | .bool false => to (.code b :: k)
        | _ => none
      | .block id body => to (.code body :: .inBlock id :: k)
      | .loop body => to (.code body :: .inLoop body :: k)
      | .scope body => to (.code body :: .inScope body :: k)
      | .exit id => match exitTo id k with
        | some k => to k
        | none => leave s (some (.exit id))
      | .rangeFunc f params assign body => loopEnter E s f params assign body k
      | .region _ ops false => to (.inRegion ops.toList ops.toList :: k)
      | .region _ ops true => match edgesBack ops.toList 0 with
        | true => to (.dreg ops (befs ops.toList []) 0 0 [] false :: k)
        | false => none
      | _ => none
    | .inBlock _ :: k | .inScope _ :: k => to k
    | .inLoop body :: k => to (.code body :: .inLoop body :: k)
    | .inRegion _ [] :: k => to k
    | .inRegion ops (o :: _) :: _ => execO E s ops o
    | .dreg ops bef done _ pend true :: k => match recheck E.toCtx s.heap s.top.tmps ops.toList pend with
      | true => to (.dreg ops bef done 0 pend false :: k)
      | false => none
    | .dreg ops bef done _ pend false :: k => dstep E s k ops bef done pend
    | .endRangeFunc l :: k => match getLoop s.heap l with
      | some r => match r.state with
        | .busy => none
        | _ => some { s with top := { s.top with todo := (match r.pending with | some c => AItem.code c :: k | none => k) }, heap := hput s.heap l (.loop { r with state := .exhausted }) }
      | none => none
    | .beginRound :: k => match s.top.roundOf with
      | some l => match getLoop s.heap l with
        | some r => match r.state with
          | .ready => some { s with top := { s.top with todo := k }, heap := hput s.heap l (.loop { r with state := .busy }) }
          | _ => none
        | none => none
      | none => none
    | .inRangeFunc _ :: _ => none

/-- has the run come to its end: the first frame has returned? -/
def atEnd (s : AState) : Bool := s.top.ret && s.callers.isEmpty && s.top.defers.isEmpty

def run (E : Env) : Nat → AState → Option AState
  | 0, s => some s
  | n + 1, s => match atEnd s with
    | true => some s
    | false => match Nat.blt s.next 490000 with
      | true => match astep E s with
        | some s => run E n s
        | none => none
      | false => none

end Go.Abs
