/-
  THE ABSTRACT MACHINE: what its states stand for; an operation that is carried out.
-/
import Derived.Test.YtahpijfhoopilaaGreatDoorAbsDreg
set_option linter.unusedSectionVars false
set_option linter.unusedVariables false
set_option linter.unusedSimpArgs false
namespace Go.Abs
open Go
variable [Ops]

/-- what a contract promises -/
def ConOk (C : Ctx) (g : FuncId) (c : Con) : Prop :=
  ∀ {N0 : Nat} {w0 : World} {β : BM} {H Hs : AHeap} {nx : Nat} {w : World} {args args' : List Value} {v : Value} {xs : List AObj},
    HR C N0 w0 β Hs nx w → Sub H Hs → LR β args args' → c H nx args = some (v, xs) → nx + xs.length < LIMIT →
      Calls C.P g ⟨args'⟩ w fun e w' => ∃ β' v', e = .returned v' ∧ VR β' v v' ∧ BM.ext nx β β' ∧ HR C N0 w0 β' (hputs Hs nx xs) (nx + xs.length) w'

structure Env.Ok (E : Env) : Prop where
  con : ∀ g c, E.con.get g = some c → ConOk E.toCtx g c
  ctx : E.toCtx.Ok
  mixed : E.P.follows .mixedOrders = true
  names : ∀ f fn, E.fns.get f = some fn → fn.body ≠ none → (fn.name == "runtime.NumGoroutine") = false
  ext : ∀ f fn x, E.ext.get f = some x → E.fns.get f = some fn → fn.body = none → match x with
    | .same => ∀ v w, (callFunc f ⟨[v]⟩).run E.P w = .ok (.value v) w
    | .indexByte => ∀ (b : ByteArray) (c : Nat) w, (callFunc f ⟨[.string b, .int .u8 (.ofNat c)]⟩).run E.P w =
        .ok (.value (match (List.range b.size).find? (fun i => b[i]! == UInt8.ofNat c) with | some i => goInt i | none => goInt (-1))) w
    | .makeNoZero e => size? E.toCtx e = some 1 ∧ ∀ (n : Nat) (w : World), n ≤ 100000 → ∃ (cap : Nat) (cells : Array Value) (w2 : World), (callFunc f ⟨[.int .i64 (.ofNat n)]⟩).run E.P w = .ok (.value (.slice (some ⟨w.heap.size, 0, none⟩) n cap)) (w2.alloc (.cells cells e)) ∧
        n ≤ cap ∧ cells.size = cap ∧ (w2 = w.drew.drew ∨ w2 = w.drew)

inductive CL (C : Ctx) (ng : Nat) (β : BM) (H Hs : AHeap) (nx : Nat) (base : List Frame) : List AFrame → List Frame → Prop where
  | nil : CL C ng β H Hs nx base [] base
  | cons {c : AFrame} {c' : Frame} {cs : List AFrame} {cs' : List Frame} (h : FR C ng β H Hs nx true c c') (hs : CL C ng β H Hs nx base cs cs') : CL C ng β H Hs nx base (c :: cs) (c' :: cs')

theorem CL.keep {C : Ctx} {ng : Nat} {β β' : BM} {H H' Hs Hs' : AHeap} {nx nx' : Nat} {base : List Frame} {cs : List AFrame} {cs' : List Frame} (h : CL C ng β H Hs nx base cs cs') (hb : β.le β') (hnx : nx ≤ nx')
    (hk : Left (cs.flatMap fblocks) β β' H H' Hs Hs') : CL C ng β' H' Hs' nx' base cs cs' := by
  induction h with
  | nil => exact .nil
  | cons h _ ih =>
    refine .cons (h.keep hb hnx fun b hbm => hk b ?_) (ih fun b hbm => hk b ?_)
    · rw [List.flatMap_cons]; exact List.mem_append_left _ hbm
    · rw [List.flatMap_cons]; exact List.mem_append_right _ hbm

theorem FR.lt {C : Ctx} {ng : Nat} {β : BM} {H Hs : AHeap} {nx : Nat} {wait : Bool} {fr : AFrame} {fr' : Frame} (h : FR C ng β H Hs nx wait fr fr') : ∀ b ∈ fblocks fr, b < nx ∧ H.get b = none := by
  have ht := h.todo
  unfold fblocks
  generalize hq : fr.todo = q at ht
  generalize hq' : fr'.todo = q' at ht
  cases ht with
  | norm h1 h2 =>
    intro b hb
    cases h2 with
    | nil => simp at hb
    | cons hi _ => cases hi <;> simp at hb
  | dreg hr hd h2 =>
    intro b hb
    obtain ⟨p, hp, hpb⟩ := List.mem_filterMap.1 hb
    cases hx : p.obj with
    | none => simp [hx] at hpb
    | some y =>
      obtain ⟨c, x⟩ := y
      simp [hx] at hpb
      subst hpb
      have := hd.blk p hp _ _ hx
      exact ⟨this.1, this.2.1⟩

theorem CL.lt {C : Ctx} {ng : Nat} {β : BM} {H Hs : AHeap} {nx : Nat} {base : List Frame} {cs : List AFrame} {cs' : List Frame} (h : CL C ng β H Hs nx base cs cs') : ∀ b ∈ cs.flatMap fblocks, b < nx ∧ H.get b = none := by
  induction h with
  | nil => intro b hb; simp at hb
  | cons h _ ih =>
    intro b hb
    rw [List.flatMap_cons] at hb
    rcases List.mem_append.1 hb with hb | hb
    · exact h.lt b hb
    · exact ih b hb

structure SR (E : Env) (N0 : Nat) (w0 : World) (base : List Frame) (wait : Bool) (β : BM) (Hs : AHeap) (s : AState) (fr : Frame) (cs : List Frame) (w : World) : Prop where
  hr : HR E.toCtx N0 w0 β Hs s.next w
  sub : Sub s.heap Hs
  glob : GOk β E.ng
  top : FR E.toCtx E.ng β s.heap Hs s.next wait s.top fr
  rest : CL E.toCtx E.ng β s.heap Hs s.next base s.callers cs
  nd : (fblocks s.top ++ s.callers.flatMap fblocks).Nodup

/-- a state that is reached -/
def Reaches (E : Env) (N0 : Nat) (w0 : World) (base : List Frame) (β : BM) (fr : Frame) (cs : List Frame) (w : World) (s' : AState) : Prop :=
  ∃ β' Hs' fr' cs' w', Steps E.P (lone fr cs w) (lone fr' cs' w') ∧ β.le β' ∧ SR E N0 w0 base false β' Hs' s' fr' cs' w'

section
variable {E : Env} (ok : E.Ok) {N0 : Nat} {w0 : World} {base : List Frame} {β : BM} {Hs : AHeap} {s s' : AState} {fr : Frame} {cs : List Frame} {w : World}

theorem Left.keep {nx : Nat} {bs : List Nat} {β' : BM} {H H' Hs' : AHeap} (hk : Keep nx H Hs H' Hs') (hb : BM.ext nx β β') (hlt : ∀ b ∈ bs, b < nx ∧ H.get b = none) : Left bs β β' H H' Hs Hs' := fun b hbm hn => by
  obtain ⟨h1, h2⟩ := hk.old b (hlt b hbm).1 hn
  exact ⟨h1, h2, hb.2 b (hlt b hbm).1⟩

/-- the value is there -/
theorem SR.value (h : SR E N0 w0 base true β Hs s fr cs w) {v v' : Value} {top : AFrame} (hf : finish s.top v = some top) {β' : BM} {H' Hs' : AHeap} {nx' : Nat} {w' : World} (hle : β.le β')
    (hk : Keep s.next s.heap Hs H' Hs') (hb : BM.ext s.next β β') (hnx : s.next ≤ nx') (hr : HR E.toCtx N0 w0 β' Hs' nx' w') (hv : VR β' v v') (hst : step E.P (lone fr cs w) = .next (lone (fr.finish v') cs w')) :
    Reaches E N0 w0 base β fr cs w { s with top, heap := H', next := nx' } := by
  have hlt : ∀ b ∈ fblocks s.top, b < s.next ∧ s.heap.get b = none := h.top.lt
  have htop := h.top.keep hle hnx (Left.keep hk hb hlt)
  obtain ⟨hf1, hf2⟩ := htop.finish hf hv
  refine ⟨β', Hs', _, cs, w', .one hst, hle, hr, hk.sub, h.glob.mono hle, hf1, h.rest.keep hle hnx (Left.keep hk hb h.rest.lt), ?_⟩
  show (fblocks top ++ _).Nodup
  rw [hf2]; exact h.nd

theorem enterF_sound (ok : E.Ok) {f : FuncId} {args args' : List Value} {kind : CallKind} {fr2 : AFrame} (he : enterF E f args kind = some fr2) (ha : LR β args args') {H : AHeap} {nx : Nat} (wait : Bool) :
    FR E.toCtx E.ng β H Hs nx wait fr2 (Frame.enter E.P f ⟨args'⟩ kind) ∧ fblocks fr2 = [] := by
  unfold enterF at he
  split at he
  · rename_i fn hfn
    split at he
    · rename_i c hc
      cases he
      have hP := ok.ctx.fns _ _ hfn
      refine ⟨⟨⟨rfl, rfl, rfl, trivial, .nil⟩, ?_⟩, rfl⟩
      simp only [Frame.enter, hP, Option.map_some, Option.getD_some, Option.bind_some, hc]
      refine .norm ?_ (.cons (.code c) .nil)
      have hfill : ∀ (n : Nat) (acc : List Value), fill undef n acc = List.replicate n undef ++ acc := by
        intro n
        induction n with
        | zero => intro acc; rfl
        | succ n ih =>
          intro acc
          rw [fill, ih, List.replicate_succ', List.append_assoc]
          rfl
      rw [hfill, List.append_nil, llen_eq, ha.length, Array.toList_append]
      simp only [Array.toList_replicate, List.size_toArray, Nat.add_zero]
      exact ha.append (LR.replicate VR.undef _)
    · cases he
  · cases he

theorem callFunc_body (ok : E.Ok) {f : FuncId} {fn : Func} {c : Code} (hf : E.fns.get f = some fn) (hb : fn.body = some c) (args : Array Value) : (callFunc f args).run E.P w = .ok (.enter f args) w := by
  have hP := ok.ctx.fns _ _ hf
  have hn := ok.names f fn hf (by rw [hb]; simp)
  simp only [beq_eq_false_iff_ne, ne_eq] at hn
  simp [callFunc, hP, hb, hn]

theorem zip_foldl {β : BM} : ∀ (ps : List Tmp) {args args' : List Value} {tm tm' : List Value}, LR β args args' → LR β tm tm' → LR β ((ps.zip args).foldl (fun t (d, v) => lset v t d) tm) ((ps.zip args').foldl (fun t (d, v) => t.set d v) tm')
  | [], _, _, _, _, _, h => by simpa using h
  | p :: ps, _, _, _, _, .nil, h => by simpa using h
  | p :: ps, _, _, _, _, .cons hv hs, h => by
    simp only [List.zip_cons_cons, List.foldl_cons]
    exact zip_foldl ps hs (by rw [lset_eq]; exact h.set hv p)

theorem foldl_set : ∀ (l : List (Tmp × Value)) (tm : Array Value), (l.foldl (fun (t : Array Value) (x : Tmp × Value) => t.setIfInBounds x.1 x.2) tm).toList = l.foldl (fun t x => t.set x.1 x.2) tm.toList
  | [], _ => rfl
  | x :: l, tm => by rw [List.foldl_cons, List.foldl_cons, foldl_set l]; simp
end
end Go.Abs
