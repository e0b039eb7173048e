/-
  THE ABSTRACT MACHINE, so written that the kernel is quick with it: the same functions, cut small.
-/
import Derived.Test.YtahpijfhoopilaaGreatDoorAbsMemo
set_option linter.unusedSectionVars false
set_option linter.unusedVariables false
set_option linter.unusedSimpArgs false
namespace Go.Abs
open Go

noncomputable def fq_move (C : Ctx) (H : AHeap) (nx : Nat) (ρ : Operand → Value) (o : Oper) (x : Operand) : Option (Value × Option AObj) :=
  some (ρ x, none)
noncomputable def fq_assign (C : Ctx) (H : AHeap) (nx : Nat) (ρ : Operand → Value) (o : Oper) (x : Operand) : Option (Value × Option AObj) :=
  some (ρ x, none)
noncomputable def fq_pick (C : Ctx) (H : AHeap) (nx : Nat) (ρ : Operand → Value) (o : Oper) (c : Operand) (a : Operand) (b : Operand) : Option (Value × Option AObj) :=
  match ρ c with
    | .bool true => some (ρ a, none)
    | .bool false => some (ρ b, none)
    | _ => none
noncomputable def fq_alloc (C : Ctx) (H : AHeap) (nx : Nat) (ρ : Operand → Value) (o : Oper) (e : TypeId) : Option (Value × Option AObj) :=
  match zero? C e with
    | some z => some (ptr nx 0, some (.cells (cellsL z) e 0))
    | none => none
noncomputable def fq_box (C : Ctx) (H : AHeap) (nx : Nat) (ρ : Operand → Value) (o : Oper) (e : TypeId) (x : Operand) : Option (Value × Option AObj) :=
  match isAny (ρ x) with
    | true => none
    | false => some (ptr nx 0, some (.cells (cellsL (ρ x)) e 0))
noncomputable def fq_build (C : Ctx) (H : AHeap) (nx : Nat) (ρ : Operand → Value) (o : Oper) (t : TypeId) (parts : Array (Nat × Operand)) : Option (Value × Option AObj) :=
  match zero? C t, und C t with
    | some z, some (.struct fields) =>
      match fields.toList.all (fun f => (size? C f.type).isSome), fillL (fieldPlaceL C fields.toList) (cellsL z) (parts.toList.map fun p => (p.1, ρ p.2)) with
      | true, some l => some (.agg ⟨l⟩, none)
      | _, _ => none
    | _, _ => none
noncomputable def fq_buildSlice (C : Ctx) (H : AHeap) (nx : Nat) (ρ : Operand → Value) (o : Oper) (t : TypeId) (len : Nat) (parts : Array (Nat × Operand)) : Option (Value × Option AObj) :=
  match und C t with
    | some (.slice e) => match size? C e, zero? C e with
      | some n, some z =>
        match n, Nat.ble (len * n) 1000 && Nat.beq (llen (cellsL z) 0) n with
        | _ + 1, true =>
          match fillL (fun i => some (i * n, n)) (rep (cellsL z) len []) (parts.toList.map fun p => (p.1, ρ p.2)) with
          | some l => some (.slice (some ⟨nx, 0, none⟩) len len, some (.cells l e 0))
          | none => none
        | _, _ => none
      | _, _ => none
    | _ => none
noncomputable def fq_load (C : Ctx) (H : AHeap) (nx : Nat) (ρ : Operand → Value) (o : Oper) (t : TypeId) (a : Operand) : Option (Value × Option AObj) :=
  match ρ a with
    | .pointer (some ⟨b, o, none⟩) => match loadV C H t b o with
      | some v => some (v, none)
      | none => none
    | _ => none
noncomputable def fq_nilCheck (C : Ctx) (H : AHeap) (nx : Nat) (ρ : Operand → Value) (o : Oper) (x : Operand) : Option (Value × Option AObj) :=
  match ρ x with
    | .pointer (some a) => some (.pointer (some a), none)
    | .func (.func f) a b => some (.func (.func f) a b, none)
    | _ => none
noncomputable def fq_binOp (C : Ctx) (H : AHeap) (nx : Nat) (ρ : Operand → Value) (o : Oper) (op : BinOp) (t : TypeId) (x : Operand) (y : Operand) (_yt : TypeId) : Option (Value × Option AObj) :=
    match af (ρ x) && af (ρ y) with
    | true => match qrun C.P (execOp ρ o) with
      | some (.value v) => match af v with
        | true => some (v, none)
        | false => none
      | _ => none
    | false => match und C t with
      | some d => match nilD C d (ρ x) && !(bothNilIface (ρ x) (ρ y)) with
        | true => match nilEq (ρ x) (ρ y), op with
          | some r, .eql => some (.bool r, none)
          | some r, .neq => some (.bool (!r), none)
          | _, _ => none
        | false => none
      | none => none
noncomputable def fq_unOp (C : Ctx) (H : AHeap) (nx : Nat) (ρ : Operand → Value) (o : Oper) (op : UnOp) (t : TypeId) (x : Operand) : Option (Value × Option AObj) :=
  match o.op.operands.toList.all (fun x => af (ρ x)) with
    | true => match qrun C.P (execOp ρ o) with
      | some (.value v) => match af v with
        | true => some (v, none)
        | false => none
      | _ => none
    | false => none
noncomputable def fq_index (C : Ctx) (H : AHeap) (nx : Nat) (ρ : Operand → Value) (o : Oper) (t : TypeId) (x : Operand) (ix : Operand) : Option (Value × Option AObj) :=
  match o.op.operands.toList.all (fun x => af (ρ x)) with
    | true => match qrun C.P (execOp ρ o) with
      | some (.value v) => match af v with
        | true => some (v, none)
        | false => none
      | _ => none
    | false => none
noncomputable def fq_convert (C : Ctx) (H : AHeap) (nx : Nat) (ρ : Operand → Value) (o : Oper) (s : TypeId) (d : TypeId) (x : Operand) : Option (Value × Option AObj) :=
  match ρ x with
    | .pointer (some ⟨b, o, none⟩) => match und C s, und C d, H.get b with
      | some (.pointer t), some .unsafePointer, some (.cells l _ _) => match size? C t, Nat.blt o (llen l 0) with
        | some (_ + 1), true => some (ptr b o, none)
        | _, _ => none
      | some .unsafePointer, some (.pointer u), some (.cells l et 0) => match size? C u, size? C et with
        | some (_ + 1), some (m + 1) => match liesAt C.P C.P.depth et (llen l 0 / (m + 1)) o u 1 with
          | true => some (ptr b o, none)
          | false => none
        | _, _ => none
      | _, _, _ => none
    | .int .. => match qrun C.P (execOp ρ o) with
      | some (.value v) => match af v with
        | true => some (v, none)
        | false => none
      | _ => none
    | _ => none
noncomputable def fq_fieldAddr (C : Ctx) (H : AHeap) (nx : Nat) (ρ : Operand → Value) (o : Oper) (s : TypeId) (x : Operand) (f : Nat) : Option (Value × Option AObj) :=
  match und C s, ρ x with
    | some (.struct fields), .pointer (some ⟨b, o, none⟩) => match lget fields.toList f with
      | some fd => match size? C fd.type with
        | some (_ + 1) => some (ptr b (o + fd.offset), none)
        | _ => none
      | none => none
    | _, _ => none
noncomputable def fq_field (C : Ctx) (H : AHeap) (nx : Nat) (ρ : Operand → Value) (o : Oper) (t : TypeId) (x : Operand) (f : Nat) : Option (Value × Option AObj) :=
  match und C t, ρ x with
    | some (.struct fields), .agg ⟨cs⟩ => match lget fields.toList f with
      | some fd => match partV C fd.type cs fd.offset with
        | some v => some (v, none)
        | none => none
      | none => none
    | _, _ => none
noncomputable def fq_indexAddr (C : Ctx) (H : AHeap) (nx : Nat) (ρ : Operand → Value) (o : Oper) (t : TypeId) (x : Operand) (ix : Operand) : Option (Value × Option AObj) :=
  match und C t, ρ x, natOf (ρ ix) with
    | some (.slice e), .slice (some ⟨b, o, none⟩) len _, some i => match Nat.blt i len, size? C e with
      | true, some n => some (ptr b (o + i * n), none)
      | _, _ => none
    | some (.array len e), .pointer (some ⟨b, o, none⟩), some i => match Nat.blt i len, size? C e with
      | true, some n => some (ptr b (o + i * n), none)
      | _, _ => none
    | _, _, _ => none
noncomputable def fq_slice (C : Ctx) (H : AHeap) (nx : Nat) (ρ : Operand → Value) (o : Oper) (t : TypeId) (x : Operand) (lo : Option Operand) (hi : Option Operand) (mx : Option Operand) : Option (Value × Option AObj) :=
  match ρ x with
    | .string _ => match o.op.operands.toList.all (fun x => af (ρ x)) with
      | true => match qrun C.P (execOp ρ o) with
        | some (.value v) => match af v with
          | true => some (v, none)
          | false => none
        | _ => none
      | false => none
    | .slice a len c => match und C t with
      | some (.slice e) => match size? C e, optNat (lo.map ρ) 0, optNat (hi.map ρ) len, optNat (mx.map ρ) 0 with
        | some n, some l, some h, some m =>
          -- the bound of what there surely is: a slice that is open has its length at least
          let top := match Nat.ble OPEN c with
            | true => len
            | false => c
          match mx, hi with
          | none, _ =>
            match Nat.ble l h && Nat.ble h top with
            | true => match a with
              | none => some (.slice none 0 0, none)
              | some ⟨b, o, none⟩ => match Nat.ble OPEN c with
                | true => match l with
                  | 0 => some (.slice (some ⟨b, o, none⟩) h c, none)
                  | k + 1 => match Nat.beq (k + 1) len with   -- is the capacity behind the cut 0? nobody knows
                    | true => some (.slice (some ⟨0, 0, some 0⟩) 0 OPEN, none)
                    | false => match Nat.blt (k + 1) len, H.get b with   -- the capacity behind the cut isn't 0
                      | true, some (.cells _ et 1) => match Nat.beq et e with
                        | true => some (.slice (some ⟨b, o + (k + 1) * n, none⟩) (h - (k + 1)) c, none)
                        | false => none
                      | _, _ => none
                | false => match Nat.beq c l with
                  | true => some (.slice (some ⟨b, o, none⟩) (h - l) (c - l), none)
                  | false => some (.slice (some ⟨b, o + l * n, none⟩) (h - l) (c - l), none)
              | _ => none
            | false => none
          | some _, some _ =>
            match Nat.ble l h && (Nat.ble h m && (Nat.ble m top && Nat.blt m OPEN)) with
            | true => match a with
              | none => some (.slice none 0 0, none)
              | some ⟨b, o, none⟩ => match Nat.beq m l with
                | true => some (.slice (some ⟨b, o, none⟩) (h - l) (m - l), none)
                | false => some (.slice (some ⟨b, o + l * n, none⟩) (h - l) (m - l), none)
              | _ => none
            | false => none
          | some _, none => none
        | _, _, _, _ => none
      | _ => none
    | .pointer (some ⟨b, o, none⟩) => match und C t with
      | some (.array len e) => match size? C e, optNat (lo.map ρ) 0, optNat (hi.map ρ) len, mx, Nat.blt len OPEN with
        | some n, some l, some h, none, true =>
          match Nat.ble l h && Nat.ble h len with
          | true => match Nat.beq len l with
            | true => some (.slice (some ⟨b, o, none⟩) (h - l) (len - l), none)
            | false => some (.slice (some ⟨b, o + l * n, none⟩) (h - l) (len - l), none)
          | false => none
        | _, _, _, _, _ => none
      | _ => none
    | _ => none
noncomputable def fq_extract (C : Ctx) (H : AHeap) (nx : Nat) (ρ : Operand → Value) (o : Oper) (t : Operand) (ix : Nat) : Option (Value × Option AObj) :=
  match ρ t with
    | .tuple ⟨l⟩ => match lget l ix with
      | some v => some (v, none)
      | none => none
    | _ => none
noncomputable def fq_makeFunc (C : Ctx) (H : AHeap) (nx : Nat) (ρ : Operand → Value) (o : Oper) (fn : Fn) (first : Array Operand) (captured : Array Operand) : Option (Value × Option AObj) :=
  match fn with
    | .func f => some (.func (.func f) ⟨first.toList.map ρ⟩ ⟨captured.toList.map ρ⟩, none)
    | _ => none
noncomputable def fq_makeInterface (C : Ctx) (H : AHeap) (nx : Nat) (ρ : Operand → Value) (o : Oper) (t : TypeId) (x : Operand) : Option (Value × Option AObj) :=
  match und C t with
    | some (.interface _) => none
    | some _ => some (.iface t (ρ x), none)
    | none => none
noncomputable def fq_makeMap (C : Ctx) (H : AHeap) (nx : Nat) (ρ : Operand → Value) (o : Oper) (_t : TypeId) (r : Option Operand) : Option (Value × Option AObj) :=
  match r with
    | none => some (.map (some nx), some (.map [] 0 true))
    | some _ => none
noncomputable def fq_makeSlice (C : Ctx) (H : AHeap) (nx : Nat) (ρ : Operand → Value) (o : Oper) (t : TypeId) (l : Operand) (c : Operand) : Option (Value × Option AObj) :=
  match und C t, natOf (ρ l), natOf (ρ c) with
    | some (.slice e), some len, some cap => match size? C e, zero? C e with
      | some (n + 1), some z => match (Nat.ble len cap && Nat.ble cap 5000) && (Nat.beq (llen (cellsL z) 0) (n + 1) && smallElem C e) with
        | true => some (.slice (some ⟨nx, 0, none⟩) len cap, some (.cells (rep (cellsL z) cap []) e 0))
        | false => none
      | _, _ => none
    | _, _, _ => none
noncomputable def fq_lookup (C : Ctx) (H : AHeap) (nx : Nat) (ρ : Operand → Value) (o : Oper) (t : TypeId) (x : Operand) (ix : Operand) (ok : Bool) : Option (Value × Option AObj) :=
  match und C t with
    | some (.map kt e) => match und C kt with
      | some kd => match keyD kd (ρ ix), zero? C e with
        | true, some z =>
          match entriesOf H (ρ x) with
          | some es => match findU (ρ ix) es with
            | some (some v) => some (if ok then .tuple ⟨[v, .bool true]⟩ else v, none)
            | some none => some (if ok then .tuple ⟨[z, .bool false]⟩ else z, none)
            | none => none
          | none => none
        | _, _ => none
      | none => none
    | _ => none
noncomputable def fq_range (C : Ctx) (H : AHeap) (nx : Nat) (ρ : Operand → Value) (o : Oper) (t : TypeId) (x : Operand) : Option (Value × Option AObj) :=
  match und C t, ρ x with
    | some (.map _ _), .map none => some (ptr nx 0, some (.miter none 0 [] 0))
    | some (.map _ _), .map (some m) => match H.get m with
      | some (.map _ clock _) => some (ptr nx 0, some (.miter (some m) clock [] clock))
      | _ => none
    | _, _ => none
noncomputable def fq_entry (C : Ctx) (H : AHeap) (nx : Nat) (ρ : Operand → Value) (o : Oper) (it : Operand) : Option (Value × Option AObj) :=
  match ρ it with
    | .pointer (some ⟨r, 0, none⟩) => match H.get r with
      | some (.miter (some m) _ [s] stepped) => match H.get m with
        | some (.map [(k, v, born)] clock true) => match Nat.beq clock stepped && Nat.beq s born with
          | true => some (.tuple ⟨[k, v]⟩, none)
          | false => none
        | _ => none
      | some (.miterC k v) => some (.tuple ⟨[k, v]⟩, none)
      | _ => none
    | _ => none
noncomputable def fq_call (C : Ctx) (H : AHeap) (nx : Nat) (ρ : Operand → Value) (o : Oper) (c : Call) : Option (Value × Option AObj) :=
  match c.callee with
    | .builtin .len => match lget c.args.toList 0, lget c.argTypes.toList 0 with
      | some x, some t => match und C t, ρ x with
        | some (.slice _), .slice _ n _ => some (goInt n, none)
        | some .string, .string s => some (goInt s.size, none)
        | some (.map _ _), .map none => some (goInt 0, none)
        | some (.map _ _), .map (some r) => match H.get r with
          | some (.map es _ _) => some (goInt (llen es 0), none)
          | _ => none
        | _, _ => none
      | _, _ => none
    | .builtin .cap => match lget c.args.toList 0, lget c.argTypes.toList 0 with
      | some x, some t => match und C t, ρ x with
        | some (.slice _), .slice _ _ n => match Nat.blt n OPEN with
          | true => some (goInt n, none)
          | false => none
        | _, _ => none
      | _, _ => none
    | .builtin .min | .builtin .max => match o.op.operands.toList.all (fun x => af (ρ x)) with
      | true => match qrun C.P (execOp ρ o) with
        | some (.value v) => match af v with
          | true => some (v, none)
          | false => none
        | _ => none
      | false => none
    | .builtin .unsafeSliceData => match c.args.toList with
      | [x] => match ρ x with
        | .slice (some ⟨b, o, none⟩) (_ + 1) (_ + 1) => some (ptr b o, none)
        | .slice none _ _ => some (.pointer none, none)
        | _ => none
      | _ => none
    | _ => none
/-- the quiet operations, one function each -/
noncomputable def quietF (C : Ctx) (H : AHeap) (nx : Nat) (ρ : Operand → Value) (o : Oper) : Option (Value × Option AObj) :=
  Op.rec (motive := fun _ => Option (Value × Option AObj))
    (fun a0 => fq_move C H nx ρ o a0)
    (fun a0 => fq_assign C H nx ρ o a0)
    (fun a0 a1 a2 => fq_pick C H nx ρ o a0 a1 a2)
    (fun a0 => fq_alloc C H nx ρ o a0)
    (fun a0 a1 => fq_box C H nx ρ o a0 a1)
    (fun a0 a1 => fq_build C H nx ρ o a0 a1)
    (fun a0 a1 a2 => fq_buildSlice C H nx ρ o a0 a1 a2)
    (fun _ _ _ _ => none)
    (fun a0 a1 => fq_load C H nx ρ o a0 a1)
    (fun _ _ _ => none)
    (fun _ => none)
    (fun _ => none)
    (fun a0 => fq_nilCheck C H nx ρ o a0)
    (fun a0 a1 a2 a3 a4 => fq_binOp C H nx ρ o a0 a1 a2 a3 a4)
    (fun a0 a1 a2 => fq_unOp C H nx ρ o a0 a1 a2)
    (fun a0 a1 a2 => fq_convert C H nx ρ o a0 a1 a2)
    (fun _ _ => none)
    (fun a0 a1 => fq_makeInterface C H nx ρ o a0 a1)
    (fun a0 a1 a2 => fq_makeFunc C H nx ρ o a0 a1 a2)
    (fun a0 a1 => fq_makeMap C H nx ρ o a0 a1)
    (fun _ _ => none)
    (fun a0 a1 a2 => fq_makeSlice C H nx ρ o a0 a1 a2)
    (fun a0 a1 a2 a3 a4 => fq_slice C H nx ρ o a0 a1 a2 a3 a4)
    (fun a0 a1 a2 => fq_fieldAddr C H nx ρ o a0 a1 a2)
    (fun a0 a1 a2 => fq_field C H nx ρ o a0 a1 a2)
    (fun a0 a1 a2 => fq_indexAddr C H nx ρ o a0 a1 a2)
    (fun a0 a1 a2 => fq_index C H nx ρ o a0 a1 a2)
    (fun a0 a1 a2 a3 => fq_lookup C H nx ρ o a0 a1 a2 a3)
    (fun _ _ _ _ => none)
    (fun _ _ _ => none)
    (fun _ _ _ _ => none)
    (fun a0 a1 => fq_range C H nx ρ o a0 a1)
    (fun _ _ => none)
    (fun a0 => fq_entry C H nx ρ o a0)
    (fun _ _ _ _ => none)
    (fun a0 a1 => fq_extract C H nx ρ o a0 a1)
    (fun a0 => fq_call C H nx ρ o a0)
    (fun _ => none)
    (fun _ => none)
    (fun _ => none)
    (fun _ _ => none)
    (fun _ _ _ => none)
    (fun _ _ => none)
    o.op
theorem quietF_eq (C : Ctx) (H : AHeap) (nx : Nat) (ρ : Operand → Value) (o : Oper) : quietF C H nx ρ o = quiet C H nx ρ o := by
  obtain ⟨dst, op, ty, pos, after, guard⟩ := o
  cases op <;> rfl

noncomputable def fe_store (C : Ctx) (H : AHeap) (nx : Nat) (ρ : Operand → Value) (o : Oper) (t : TypeId) (a : Operand) (x : Operand) : Option Eff :=
  match ρ a, size? C t with
    | .pointer (some ⟨b, o, none⟩), some n =>
      let vs := cellsL (ρ x)
      match Nat.beq (llen vs 0) n && vs.all oneCell, H.get b with
      | true, some (.cells l et kind) => match Nat.blt kind 2, lput? l o vs with
        | true, some l => some (.val undef (hput H b (.cells l et kind)) nx)
        | _, _ => none
      | _, _ => none
    | _, _ => none
noncomputable def fe_mapUpdate (C : Ctx) (H : AHeap) (nx : Nat) (ρ : Operand → Value) (o : Oper) (t : TypeId) (m : Operand) (k : Operand) (x : Operand) : Option Eff :=
  mapPut C H nx t (ρ m) (ρ k) (ρ x)
noncomputable def fe_insert (C : Ctx) (H : AHeap) (nx : Nat) (ρ : Operand → Value) (o : Oper) (t : TypeId) (m : Operand) (k : Operand) (x : Operand) : Option Eff :=
  mapPut C H nx t (ρ m) (ρ k) (ρ x)
noncomputable def fe_binOp (C : Ctx) (H : AHeap) (nx : Nat) (ρ : Operand → Value) (o : Oper) (op : BinOp) (t : TypeId) (x : Operand) (y : Operand) (_yt : TypeId) : Option Eff :=
  match und C t, ρ x, ρ y with
    | some (.pointer e), .pointer (some ⟨b, f, none⟩), .pointer (some ⟨c, g, none⟩) => match size? C e, Nat.beq b c, H.get b, H.get c with
      | some (_ + 1), false, some (.cells l _ 0), some (.cells m _ 0) => match Nat.blt f (llen l 0) && Nat.blt g (llen m 0), op with
        | true, .eql => some (.val (.bool false) H nx)
        | true, .neq => some (.val (.bool true) H nx)
        | _, _ => none
      | _, _, _, _ => none
    | _, _, _ => none
noncomputable def fe_next (C : Ctx) (H : AHeap) (nx : Nat) (ρ : Operand → Value) (o : Oper) (it : Operand) (iss : Bool) : Option Eff :=
  match iss with
  | true => none
  | false =>
    match ρ it with
      | .pointer (some ⟨r, 0, none⟩) => match H.get r with
        | some (.miter none _ _ _) => some (.val (.tuple ⟨[.bool false]⟩) H nx)
        | some (.miter (some m) since seen stepped) => match H.get m with
          | some (.map [] _ true) => some (.val (.tuple ⟨[.bool false]⟩) H nx)
          | some (.map [(k, v, born)] clock true) => match seen with
            | [] => match Nat.blt born since with
              | true => some (.val (.tuple ⟨[.bool true, k, v]⟩) (hput H r (.miter (some m) since [born] clock)) nx)
              | false => none
            | [s] => match Nat.beq s born && Nat.blt born stepped with
              | true => some (.val (.tuple ⟨[.bool false]⟩) H nx)
              | false => none
            | _ => none
          | _ => none
        | _ => none
      | _ => none
noncomputable def fe_defer (C : Ctx) (H : AHeap) (nx : Nat) (ρ : Operand → Value) (o : Oper) (c : Call) : Option Eff :=
  match c.callee with
    | .value f => match ρ f with
      | .func (.func g) ⟨first⟩ captured => some (.defer { target := .fn (.func g) captured, args := ⟨first ++ c.args.toList.map ρ⟩ })
      | _ => none
    | _ => none
noncomputable def fe_convert (C : Ctx) (H : AHeap) (nx : Nat) (ρ : Operand → Value) (o : Oper) (s : TypeId) (d : TypeId) (x : Operand) : Option Eff :=
  match ρ x, und C s, und C d with
    | .string bs, some .string, some (.slice e) => match und C e, size? C e, Nat.ble bs.size 1000000 with
      | some (.int .u8), some 1, true => some (.val (.slice (some ⟨nx, 0, none⟩) bs.size OPEN) (hput H nx (.cells (bytesL bs) e 1)) (nx + 1))
      | _, _, _ => none
    | .slice (some ⟨b, f, none⟩) len _, some (.slice e), some .string => match und C e, readCells H b f len with
      | some (.int .u8), some cs => match bytesOf cs with
        | some bs => some (.val (.string ⟨⟨bs⟩⟩) H nx)
        | none => none
      | _, _ => none
    | _, _, _ => none
noncomputable def fe_call (C : Ctx) (H : AHeap) (nx : Nat) (ρ : Operand → Value) (o : Oper) (c : Call) : Option Eff :=
  match c.callee with
    | .builtin .append => match c.args.toList, c.argTypes.toList with
      | [s, x], [t, u] => match und C u with
        | some (.slice _) | some .string => append C H nx t (ρ s) (ρ x)
        | _ => none
      | _, _ => none
    | .builtin .recover => some .recover
    | .builtin .delete => match c.args.toList, c.argTypes.toList with
      | [m, k], t :: _ => mapDel C H nx t (ρ m) (ρ k)
      | _, _ => none
    | .builtin .copy => match c.args.toList, c.argTypes.toList with
      | [d, x], t :: _ => match und C t, ρ d, srcLen (ρ x) with
        | some (.slice e), .slice _ len _, some n => match size? C e, Nat.min n len with
          | some _, 0 => some (.val (goInt 0) H nx)
          | _, _ => none
        | _, _, _ => none
      | _, _ => none
    | .builtin .unsafeString => match c.args.toList.map ρ, c.argTypes.toList with
      | [.pointer (some ⟨b, o, none⟩), l], pt :: _ => match natOf l, H.get b, und C pt with
        | some (n + 1), some (.cells cs et kind), some (.pointer u) => match ltake? (ldrop cs o) (n + 1), (Nat.beq u et && Nat.ble n 1000000) && Nat.blt kind 2, size? C et with
          | some vs, true, some 1 => match bytesOf vs with
            | some bs => some (.val (.string ⟨⟨bs⟩⟩) (hput H b (.cells cs et 2)) nx)
            | none => none
          | _, _, _ => none
        | _, _, _ => none
      | [.pointer none, l], _ :: _ => match natOf l with
        | some 0 => some (.val (.string ⟨⟨[]⟩⟩) H nx)
        | _ => none
      | _, _ => none
    | .value f => callV (ρ f) (c.args.toList.map ρ)
    | _ => none
noncomputable def effectF (C : Ctx) (H : AHeap) (nx : Nat) (ρ : Operand → Value) (o : Oper) : Option Eff :=
  Op.rec (motive := fun _ => Option Eff)
    (fun _ => none)
    (fun _ => none)
    (fun _ _ _ => none)
    (fun _ => none)
    (fun _ _ => none)
    (fun _ _ => none)
    (fun _ _ _ => none)
    (fun a0 a1 a2 a3 => fe_insert C H nx ρ o a0 a1 a2 a3)
    (fun _ _ => none)
    (fun a0 a1 a2 => fe_store C H nx ρ o a0 a1 a2)
    (fun _ => none)
    (fun _ => none)
    (fun _ => none)
    (fun a0 a1 a2 a3 a4 => fe_binOp C H nx ρ o a0 a1 a2 a3 a4)
    (fun _ _ _ => none)
    (fun a0 a1 a2 => fe_convert C H nx ρ o a0 a1 a2)
    (fun _ _ => none)
    (fun _ _ => none)
    (fun _ _ _ => none)
    (fun _ _ => none)
    (fun _ _ => none)
    (fun _ _ _ => none)
    (fun _ _ _ _ _ => none)
    (fun _ _ _ => none)
    (fun _ _ _ => none)
    (fun _ _ _ => none)
    (fun _ _ _ => none)
    (fun _ _ _ _ => none)
    (fun a0 a1 a2 a3 => fe_mapUpdate C H nx ρ o a0 a1 a2 a3)
    (fun _ _ _ => none)
    (fun _ _ _ _ => none)
    (fun _ _ => none)
    (fun a0 a1 => fe_next C H nx ρ o a0 a1)
    (fun _ => none)
    (fun _ _ _ _ => none)
    (fun _ _ => none)
    (fun a0 => fe_call C H nx ρ o a0)
    (fun _ => none)
    (fun a0 => fe_defer C H nx ρ o a0)
    (fun _ => none)
    (fun _ _ => none)
    (fun _ _ _ => none)
    (fun _ _ => none)
    o.op
theorem effectF_eq (C : Ctx) (H : AHeap) (nx : Nat) (ρ : Operand → Value) (o : Oper) : effectF C H nx ρ o = effect C H nx ρ o := by
  obtain ⟨dst, op, ty, pos, after, guard⟩ := o
  cases op with
  | next it iss => cases iss <;> rfl
  | _ => rfl
/-! ## lists -/
noncomputable def lgetF {α : Type} (l : List α) (n : Nat) : Option α :=
  List.rec (motive := fun _ => Nat → Option α) (fun _ => none) (fun x _ ih n => Nat.rec (motive := fun _ => Option α) (some x) (fun m _ => ih m) n) l n
noncomputable def lsetF {α : Type} (v : α) (l : List α) (n : Nat) : List α :=
  List.rec (motive := fun _ => Nat → List α) (fun _ => []) (fun x xs ih n => Nat.rec (motive := fun _ => List α) (v :: xs) (fun m _ => x :: ih m) n) l n
theorem lgetF_eq {α : Type} : ∀ (l : List α) (n : Nat), lgetF l n = lget l n
  | [], _ => rfl
  | x :: xs, 0 => rfl
  | x :: xs, n + 1 => lgetF_eq xs n
theorem lsetF_eq {α : Type} (v : α) : ∀ (l : List α) (n : Nat), lsetF v l n = lset v l n
  | [], _ => rfl
  | x :: xs, 0 => rfl
  | x :: xs, n + 1 => congrArg (x :: ·) (lsetF_eq v xs n)

noncomputable def evF (tmps : List Value) (x : Operand) : Value :=
  Operand.rec (motive := fun _ => Value) (fun t => Option.rec (motive := fun _ => Value) undef (fun v => v) (lgetF tmps t)) (fun v => v) (fun g => .pointer (some ⟨g, 0, none⟩)) (fun f => .func (.func f) #[] #[]) x
theorem evF_eq (tmps : List Value) : evF tmps = ev tmps := by
  funext x
  cases x with
  | tmp t =>
    show Option.rec (motive := fun _ => Value) undef (fun v => v) (lgetF tmps t) = _
    rw [lgetF_eq]
    show _ = (match lget tmps t with | some v => v | none => undef)
    cases lget tmps t <;> rfl
  | _ => rfl

noncomputable def putF (tmps : List Value) (d : Option Tmp) (v : Value) : List Value := Option.rec (motive := fun _ => List Value) tmps (fun t => lsetF v tmps t) d
theorem putF_eq (tmps : List Value) (d : Option Tmp) (v : Value) : putF tmps d v = putDst tmps d v := by
  cases d with
  | none => rfl
  | some t => exact lsetF_eq v tmps t

/-! ## a step -/
/-- on within a region -/
noncomputable def inOn (fn : FuncId) (tmps : List Value) (ops rest : List Oper) (k : List AItem) (defers : List Deferred) (kind : CallKind) (roundOf : Option Nat) (callers : List AFrame) (heap : AHeap) (next : Nat) : AState :=
  ⟨⟨fn, tmps, .inRegion ops rest :: k, defers, false, kind, roundOf⟩, callers, heap, next⟩

/-- an operation that isn't quiet, within a plain region -/
noncomputable def inEff (E : Env) (fn : FuncId) (tmps : List Value) (ops : List Oper) (o : Oper) (rest : List Oper) (k : List AItem) (defers : List Deferred) (kind : CallKind) (roundOf : Option Nat) (callers : List AFrame) (heap : AHeap) (next : Nat) : Option AState :=
  Option.rec (motive := fun _ => Option AState) none
    (fun e => Eff.rec (motive := fun _ => Option AState)
      (fun v H nx => some (inOn fn (putF tmps o.dst v) ops rest k defers kind roundOf callers H nx))
      (fun f args => doEff E (inOn fn tmps ops (o :: rest) k defers kind roundOf callers heap next) (.enter f args))
      (fun l args => doEff E (inOn fn tmps ops (o :: rest) k defers kind roundOf callers heap next) (.round l args))
      (fun d => doEff E (inOn fn tmps ops (o :: rest) k defers kind roundOf callers heap next) (.defer d))
      (doEff E (inOn fn tmps ops (o :: rest) k defers kind roundOf callers heap next) .recover) e)
    (effectF E.toCtx heap next (evF tmps) o)

noncomputable def inQuiet (E : Env) (fn : FuncId) (tmps : List Value) (ops : List Oper) (o : Oper) (rest : List Oper) (k : List AItem) (defers : List Deferred) (kind : CallKind) (roundOf : Option Nat) (callers : List AFrame) (heap : AHeap) (next : Nat) : Option AState :=
  Option.rec (motive := fun _ => Option AState) (inEff E fn tmps ops o rest k defers kind roundOf callers heap next)
    (fun p => Prod.rec (motive := fun _ => Option AState)
      (fun v x => Option.rec (motive := fun _ => Option AState)
        (some (inOn fn (putF tmps o.dst v) ops rest k defers kind roundOf callers heap next))
        (fun x => some (inOn fn (putF tmps o.dst v) ops rest k defers kind roundOf callers (hput heap next x) (Nat.add next 1))) x) p)
    (quietF E.toCtx heap next (evF tmps) o)

noncomputable def inExec (E : Env) (fn : FuncId) (tmps : List Value) (ops : List Oper) (o : Oper) (rest : List Oper) (k : List AItem) (defers : List Deferred) (kind : CallKind) (roundOf : Option Nat) (callers : List AFrame) (heap : AHeap) (next : Nat) : Option AState :=
  Option.rec (motive := fun _ => Option AState)
    (Bool.rec (motive := fun _ => Option AState) none
      (Bool.rec (motive := fun _ => Option AState) (inEff E fn tmps ops o rest k defers kind roundOf callers heap next) (inQuiet E fn tmps ops o rest k defers kind roundOf callers heap next) (isQuiet o))
      (constsOk E.ng o))
    (fun _ => execO E (inOn fn tmps ops (o :: rest) k defers kind roundOf callers heap next) ops o) o.guard

theorem inEff_eq (E : Env) (fn : FuncId) (tmps : List Value) (ops : List Oper) (o : Oper) (rest : List Oper) (k : List AItem) (defers : List Deferred) (kind : CallKind) (roundOf : Option Nat) (callers : List AFrame) (heap : AHeap) (next : Nat) :
    inEff E fn tmps ops o rest k defers kind roundOf callers heap next =
      match effect E.toCtx heap next (ev tmps) o with
      | some e => doEff E (inOn fn tmps ops (o :: rest) k defers kind roundOf callers heap next) e
      | none => none := by
  unfold inEff
  rw [effectF_eq, evF_eq]
  cases effect E.toCtx heap next (ev tmps) o with
  | none => rfl
  | some e =>
    cases e with
    | val v H nx => simp only [putF_eq]; rfl
    | _ => rfl

theorem inExec_eq (E : Env) (fn : FuncId) (tmps : List Value) (ops : List Oper) (o : Oper) (rest : List Oper) (k : List AItem) (defers : List Deferred) (kind : CallKind) (roundOf : Option Nat) (callers : List AFrame) (heap : AHeap) (next : Nat) :
    inExec E fn tmps ops o rest k defers kind roundOf callers heap next = execO E (inOn fn tmps ops (o :: rest) k defers kind roundOf callers heap next) ops o := by
  unfold inExec
  cases hg : o.guard with
  | some g => rfl
  | none =>
    unfold execO guardOk wantedL
    simp only [hg]
    cases hc : constsOk E.ng o with
    | false => rfl
    | true =>
      cases hq : isQuiet o with
      | false => exact inEff_eq ..
      | true =>
        show inQuiet E fn tmps ops o rest k defers kind roundOf callers heap next = _
        unfold inQuiet
        rw [quietF_eq, evF_eq]
        show _ = match quiet E.toCtx heap next (ev tmps) o with
          | some (v, none) => _
          | some (v, some x) => _
          | none => _
        cases quiet E.toCtx heap next (ev tmps) o with
        | none => exact inEff_eq ..
        | some p =>
          obtain ⟨v, x⟩ := p
          cases x with
          | none => simp only [putF_eq]; rfl
          | some x => simp only [putF_eq]; rfl

/-- a step that is none within a plain region -/
noncomputable def codeF (E : Env) (c : Code) (fn : FuncId) (tmps : List Value) (k : List AItem) (defers : List Deferred) (kind : CallKind) (roundOf : Option Nat) (callers : List AFrame) (heap : AHeap) (next : Nat) : Option AState :=
  match c with
  | .seq a b => some ⟨⟨fn, tmps, .code a :: .code b :: k, defers, false, kind, roundOf⟩, callers, heap, next⟩
  | .cond c a b => match evF tmps c with
    | .bool true => some ⟨⟨fn, tmps, .code a :: k, defers, false, kind, roundOf⟩, callers, heap, next⟩
    | .bool false => some ⟨⟨fn, tmps, .code b :: k, defers, false, kind, roundOf⟩, callers, heap, next⟩
    | _ => none
  | .block id body => some ⟨⟨fn, tmps, .code body :: .inBlock id :: k, defers, false, kind, roundOf⟩, callers, heap, next⟩
  | .scope body => some ⟨⟨fn, tmps, .code body :: .inScope body :: k, defers, false, kind, roundOf⟩, callers, heap, next⟩
  | .region _ ops d => match d with
    | false => some ⟨⟨fn, tmps, .inRegion ops.toList ops.toList :: k, defers, false, kind, roundOf⟩, callers, heap, next⟩
    | true => match edgesBack ops.toList 0 with
      | true => some ⟨⟨fn, tmps, .dreg ops (befs ops.toList []) 0 0 [] false :: k, defers, false, kind, roundOf⟩, callers, heap, next⟩
      | false => none
  | c => astep E ⟨⟨fn, tmps, .code c :: k, defers, false, kind, roundOf⟩, callers, heap, next⟩

theorem codeF_eq (E : Env) (c : Code) (fn : FuncId) (tmps : List Value) (k : List AItem) (defers : List Deferred) (kind : CallKind) (roundOf : Option Nat) (callers : List AFrame) (heap : AHeap) (next : Nat) :
    codeF E c fn tmps k defers kind roundOf callers heap next = astep E ⟨⟨fn, tmps, .code c :: k, defers, false, kind, roundOf⟩, callers, heap, next⟩ := by
  cases c with
  | cond c a b =>
    show (match evF tmps c with | .bool true => _ | .bool false => _ | _ => none) = _
    rw [evF_eq]
    rfl
  | region id ops d => cases d <;> rfl
  | _ => rfl

/-! ### regions that draw -/
noncomputable def earlyF (E : Env) (s : AState) (k : List AItem) (ops : Array Oper) (bef : List Nat) (done i : Nat) (pend : List Pend) (o : Oper) : Option AState :=
  match wantedL ops.toList s.top.tmps o with
  | false => some { s with top := { s.top with tmps := putF s.top.tmps o.dst undef, todo := .dreg ops bef (Nat.lor done (2 ^ i)) 0 (⟨i, undef, none, none, none⟩ :: pend) false :: k } }
  | true => match insP E.toCtx (evF s.top.tmps) o with
    | some (b, k', v) => match insOk (lnth bef i) b k' pend with
      | true => some { s with top := { s.top with tmps := putF s.top.tmps o.dst undef, todo := .dreg ops bef (Nat.lor done (2 ^ i)) 0 (⟨i, undef, none, some (b, k', v), none⟩ :: pend) false :: k } }
      | false => none
    | none => match quietF E.toCtx s.heap s.next (evF s.top.tmps) o with
      | some (v, none) => some { s with top := { s.top with tmps := putF s.top.tmps o.dst v, todo := .dreg ops bef (Nat.lor done (2 ^ i)) 0 (⟨i, v, none, none, none⟩ :: pend) false :: k } }
      | some (v, some x) => match readsHeap o with
        | false => some { s with top := { s.top with tmps := putF s.top.tmps o.dst v, todo := .dreg ops bef (Nat.lor done (2 ^ i)) 0 (⟨i, v, some (s.next, x), none, none⟩ :: pend) false :: k }, next := s.next + 1 }
        | true => none
      | none => none
theorem earlyF_eq (E : Env) (s : AState) (k : List AItem) (ops : Array Oper) (bef : List Nat) (done i : Nat) (pend : List Pend) (o : Oper) : earlyF E s k ops bef done i pend o = early E s k ops bef done i pend o := by
  unfold earlyF early
  simp only [quietF_eq, evF_eq, putF_eq]
  rfl

noncomputable def recheckF (C : Ctx) (H : AHeap) (tmps : List Value) (ops : List Oper) : List Pend → Bool
  | [] => true
  | p :: ps => match lgetF ops p.i with
    | some o => (match readsHeap o && wantedL ops tmps o with
      | true => match quietF C H 0 (evF tmps) o with
        | some (v, none) => eqv 5 v p.v
        | _ => false
      | false => true) && recheckF C H tmps ops ps
    | none => false
theorem recheckF_eq (C : Ctx) (H : AHeap) (tmps : List Value) (ops : List Oper) : ∀ (ps : List Pend), recheckF C H tmps ops ps = recheck C H tmps ops ps
  | [] => rfl
  | p :: ps => by
    simp only [recheckF, recheck, lgetF_eq, quietF_eq, evF_eq, recheckF_eq C H tmps ops ps]
    rfl

noncomputable def execOF (E : Env) (s : AState) (ops : List Oper) (o : Oper) : Option AState :=
  match guardOk ops s.top.tmps o with
  | false => none
  | true => match wantedL ops s.top.tmps o with
  | false => match finish s.top undef with
    | some top => some { s with top }
    | none => none
  | true => match constsOk E.ng o with
    | false => none
    | true => match isQuiet o with
      | true => match quietF E.toCtx s.heap s.next (evF s.top.tmps) o with
        | some (v, none) => match finish s.top v with
          | some top => some { s with top }
          | none => none
        | some (v, some x) => match finish s.top v with
          | some top => some { s with top, heap := hput s.heap s.next x, next := s.next + 1 }
          | none => none
        | none => match effectF E.toCtx s.heap s.next (evF s.top.tmps) o with
          | some e => doEff E s e
          | none => none
      | false => match effectF E.toCtx s.heap s.next (evF s.top.tmps) o with
        | some e => doEff E s e
        | none => none
theorem execOF_eq (E : Env) (s : AState) (ops : List Oper) (o : Oper) : execOF E s ops o = execO E s ops o := by
  unfold execOF execO
  simp only [quietF_eq, effectF_eq, evF_eq]
  rfl

noncomputable def dstepF (E : Env) (s : AState) (k : List AItem) (ops : Array Oper) (bef : List Nat) (done : Nat) (pend : List Pend) : Option AState :=
  match pickOne true ops.toList bef done 0 with
  | some i => match lgetF ops.toList i with
    | some o => match (constsOk E.ng o && (selfOk ops.toList o && guardOk ops.toList s.top.tmps o)) && apart ops.toList (lnth bef i) o pend with
      | true => earlyF E s k ops bef done i pend o
      | false => none
    | none => none
  | none => match pickOne false ops.toList bef done 0 with
    | some i => match lgetF ops.toList i with
      | some o => match sole i ops.toList bef done 0 with
        | true => match unlock (lnth bef i) pend pend s.heap with
          | some (pend, H) => match apart ops.toList (lnth bef i) o pend with
            | true => execOF E { s with top := { s.top with todo := .dreg ops bef done i pend false :: k }, heap := H } ops.toList o
            | false => none
          | none => none
        | false => hold E s k ops bef done i pend o
      | none => none
    | none => match Nat.beq (Nat.land done (2 ^ ops.size - 1)) (2 ^ ops.size - 1), unlock (2 ^ ops.size - 1) pend pend s.heap with
      | true, some ([], H) => some { s with top := { s.top with todo := k }, heap := H }
      | _, _ => none
theorem dstepF_eq (E : Env) (s : AState) (k : List AItem) (ops : Array Oper) (bef : List Nat) (done : Nat) (pend : List Pend) : dstepF E s k ops bef done pend = dstep E s k ops bef done pend := by
  unfold dstepF dstep
  simp only [lgetF_eq, earlyF_eq, execOF_eq]
  rfl

/-- by the first item -/
noncomputable def itemF (E : Env) (it : AItem) (fn : FuncId) (tmps : List Value) (k : List AItem) (defers : List Deferred) (kind : CallKind) (roundOf : Option Nat) (callers : List AFrame) (heap : AHeap) (next : Nat) : Option AState :=
  match it with
  | .code c => codeF E c fn tmps k defers kind roundOf callers heap next
  | .inRegion ops l => List.rec (motive := fun _ => Option AState) (some ⟨⟨fn, tmps, k, defers, false, kind, roundOf⟩, callers, heap, next⟩) (fun o rest _ => inExec E fn tmps ops o rest k defers kind roundOf callers heap next) l
  | .dreg ops bef done cur pend chk => match chk with
    | true => match recheckF E.toCtx heap tmps ops.toList pend with
      | true => some ⟨⟨fn, tmps, .dreg ops bef done 0 pend false :: k, defers, false, kind, roundOf⟩, callers, heap, next⟩
      | false => none
    | false => dstepF E ⟨⟨fn, tmps, .dreg ops bef done cur pend false :: k, defers, false, kind, roundOf⟩, callers, heap, next⟩ k ops bef done pend
  | it => astep E ⟨⟨fn, tmps, it :: k, defers, false, kind, roundOf⟩, callers, heap, next⟩

theorem itemF_eq (E : Env) (it : AItem) (fn : FuncId) (tmps : List Value) (k : List AItem) (defers : List Deferred) (kind : CallKind) (roundOf : Option Nat) (callers : List AFrame) (heap : AHeap) (next : Nat) :
    itemF E it fn tmps k defers kind roundOf callers heap next = astep E ⟨⟨fn, tmps, it :: k, defers, false, kind, roundOf⟩, callers, heap, next⟩ := by
  cases it with
  | code c => exact codeF_eq ..
  | inRegion ops l =>
    cases l with
    | nil => rfl
    | cons o rest => exact inExec_eq ..
  | dreg ops bef done cur pend chk =>
    cases chk with
    | true =>
      show (match recheckF E.toCtx heap tmps ops.toList pend with | true => _ | false => none) = _
      rw [recheckF_eq]
      rfl
    | false => exact dstepF_eq ..
  | _ => rfl

noncomputable def astepF (E : Env) (s : AState) : Option AState :=
  AState.rec (motive := fun _ => Option AState) (fun top callers heap next => AFrame.rec (motive := fun _ => Option AState) (fun fn tmps todo defers ret kind roundOf =>
    Bool.rec (motive := fun _ => Option AState)
      (List.rec (motive := fun _ => Option AState) (leave ⟨⟨fn, tmps, [], defers, false, kind, roundOf⟩, callers, heap, next⟩ none) (fun it k _ => itemF E it fn tmps k defers kind roundOf callers heap next) todo)
      (returning E ⟨⟨fn, tmps, todo, defers, true, kind, roundOf⟩, callers, heap, next⟩) ret) top) s
theorem astepF_eq (E : Env) (s : AState) : astepF E s = astep E s := by
  obtain ⟨⟨fn, tmps, todo, defers, ret, kind, roundOf⟩, callers, heap, next⟩ := s
  cases ret with
  | true => rfl
  | false =>
    cases todo with
    | nil => rfl
    | cons it k => exact itemF_eq ..

/-! ## a run -/
def isNextOp (o : Oper) : Bool :=
  match o.op with
  | .next _ b => !b
  | _ => false
noncomputable def wantsF (s : AState) : Option Pt :=
  AState.rec (motive := fun _ => Option Pt) (fun top callers heap next => AFrame.rec (motive := fun _ => Option Pt) (fun fn tmps todo defers ret kind roundOf =>
    List.rec (motive := fun _ => Option Pt) none (fun it k _ => match it with
      | .inRegion ops l => List.rec (motive := fun _ => Option Pt) none (fun o rest _ => Bool.rec (motive := fun _ => Option Pt) none (wantsLoop ⟨⟨fn, tmps, .inRegion ops (o :: rest) :: k, defers, ret, kind, roundOf⟩, callers, heap, next⟩) (isNextOp o)) l
      | _ => none) todo) top) s
theorem wantsF_eq (s : AState) : wantsF s = wantsLoop s := by
  obtain ⟨⟨fn, tmps, todo, defers, ret, kind, roundOf⟩, callers, heap, next⟩ := s
  cases todo with
  | nil => rfl
  | cons it k =>
    cases it with
    | inRegion ops l =>
      cases l with
      | nil => rfl
      | cons o rest =>
        show Bool.rec (motive := fun _ => Option Pt) none _ (isNextOp o) = _
        cases hn : isNextOp o with
        | true => rfl
        | false =>
          show none = _
          dsimp only [wantsLoop]
          unfold isNextOp at hn
          split
          · rename_i hop
            rw [hop] at hn; cases hn
          · rfl
    | _ => rfl

noncomputable def endF (s : AState) : Bool := Bool.rec (motive := fun _ => Bool) false (atEnd s) s.top.ret
theorem endF_eq (s : AState) : endF s = atEnd s := by
  unfold endF atEnd
  cases s.top.ret <;> rfl

noncomputable def bodyF (E : Env) (hints : BT (List Nat)) (ih : AState → List Obl → Option (AState × List Obl)) (s : AState) (os : List Obl) : Option (AState × List Obl) :=
  Bool.rec (motive := fun _ => Option (AState × List Obl))
    (Bool.rec (motive := fun _ => Option (AState × List Obl)) none
      (Option.rec (motive := fun _ => Option (AState × List Obl))
        (Option.rec (motive := fun _ => Option (AState × List Obl)) none (fun s => ih s os) (astepF E s))
        (fun p => match loopStep E 2000 (match hints.get s.top.fn with | some W => W | none => []) s p with
          | some (s, o2) => ih s (o2 ++ os)
          | none => none) (wantsF s))
      (Nat.blt s.next 490000))
    (some (s, os)) (endF s)
noncomputable def runLF (E : Env) (hints : BT (List Nat)) (n : Nat) : AState → List Obl → Option (AState × List Obl) :=
  Nat.rec (motive := fun _ => AState → List Obl → Option (AState × List Obl)) (fun s os => some (s, os)) (fun _ ih => bodyF E hints ih) n
theorem runLF_eq (E : Env) (hints : BT (List Nat)) : ∀ (n : Nat) (s : AState) (os : List Obl), runLF E hints n s os = runL E hints n s os
  | 0, _, _ => rfl
  | n + 1, s, os => by
    show bodyF E hints (runLF E hints n) s os = _
    unfold bodyF runL
    rw [endF_eq, wantsF_eq, astepF_eq]
    cases atEnd s with
    | true => rfl
    | false =>
      cases Nat.blt s.next 490000 with
      | false => rfl
      | true =>
        cases wantsLoop s with
        | none =>
          cases astep E s with
          | none => rfl
          | some s1 => exact runLF_eq E hints n s1 os
        | some p =>
          show (match loopStep E 2000 _ s p with | some (s, o2) => _ | none => none) = (match loopStep E 2000 _ s p with | some (s, o2) => _ | none => none)
          cases loopStep E 2000 _ s p with
          | none => rfl
          | some q => obtain ⟨s1, o2⟩ := q; exact runLF_eq E hints n s1 (o2 ++ os)

noncomputable def memoRunF (E : Env) (hints : BT (List Nat)) (g : FuncId) (n : Nat) (pre : List (List Value × TypeId)) (args : List Value) (out : List Nat) : Option ((Value × List AObj) × List Obl) :=
  match enterF E g args .normal with
  | some fr => match runLF E hints n { top := fr, callers := [], heap := preHeap pre, next := llen pre 0 } [] with
    | some (s, os) => match atEnd s && (Nat.beq s.top.fn g && (nodupN out && Nat.blt (llen pre 0) 490000)), s.top.kind, E.fns.get g with
      | true, .normal, some fn => match resultsL E.toCtx s.heap s.top.tmps fn.results.toList with
        | some vs => match renV (canon (llen pre 0) out) 8 (oneV vs), grab (canon (llen pre 0) out) s.heap out with
          | some v, some xs => some ((v, xs), os)
          | _, _ => none
        | none => none
      | _, _, _ => none
    | none => none
  | none => none
theorem memoRunF_eq (E : Env) (hints : BT (List Nat)) (g : FuncId) (n : Nat) (pre : List (List Value × TypeId)) (args : List Value) (out : List Nat) : memoRunF E hints g n pre args out = memoRun E hints g n pre args out := by
  unfold memoRunF memoRun
  simp only [runLF_eq]
  rfl

/-- A CALL THAT WAS RUN is a contract: as it is to be shown -/
theorem memo_ok [Ops] {E : Env} (ok : E.Ok) (hng : E.ng = 0) {hints : BT (List Nat)} {g : FuncId} {n : Nat} {M : Memo} {out : List Nat}
    (h : memoL (memoRunF E hints g n M.pre M.args out) = memoR M.v M.xs (memoRunF E hints g n M.pre M.args out)) : ConOk E.toCtx g (conM M) := by
  rw [memoRunF_eq] at h
  obtain ⟨os, h1, h2⟩ := memo_split h
  exact conOk_of_memo ok hng h1 h2

end Go.Abs
