/-
  THE ABSTRACT MACHINE: what its frames stand for.
-/
import Derived.Test.YtbnlcffnmlgomaaGreatDoorAbsCong
set_option linter.unusedSectionVars false
set_option linter.unusedVariables false
set_option linter.unusedSimpArgs false
namespace Go.Abs
open Go
variable [Ops]

/-! ## slots and operands -/
def VA (β : BM) (tm : List Value) (tm' : Array Value) (t : Nat) : Prop := ∀ v, tm[t]? = some v → ∃ v', tm'[t]? = some v' ∧ VR β v v'
theorem VA.mono {β β' : BM} (hb : β.le β') {tm : List Value} {tm' : Array Value} {t : Nat} (h : VA β tm tm' t) : VA β' tm tm' t :=
  fun v hv => let ⟨v', h1, h2⟩ := h v hv; ⟨v', h1, h2.mono hb⟩
theorem VA.of_lr {β : BM} {tm : List Value} {tm' : Array Value} (h : LR β tm tm'.toList) (t : Nat) : VA β tm tm' t :=
  fun v hv => let ⟨v', h1, h2⟩ := h.get hv; ⟨v', by simpa using h1, h2⟩
theorem LR.of_va {β : BM} {tm : List Value} {tm' : Array Value} (hl : tm.length = tm'.size) (h : ∀ t, VA β tm tm' t) : LR β tm tm'.toList :=
  LR.of_get (by simpa using hl) fun j v v' h1 h2 => by
    obtain ⟨v2, h3, h4⟩ := h j v h1
    have : some v2 = some v' := by rw [← h3, ← h2]; simp
    cases this; exact h4

def GOk (β : BM) (ng : Nat) : Prop := ∀ g, g < ng → ∃ i, β g = some i ∧ i.blk = g ∧ i.base = 0
theorem GOk.mono {β β' : BM} (hb : β.le β') {ng : Nat} (h : GOk β ng) : GOk β' ng := fun g hg => let ⟨i, h1, h2⟩ := h g hg; ⟨i, hb _ _ h1, h2⟩

theorem ev_tmp {β : BM} {tm : List Value} {tm' : Array Value} (hl : tm.length = tm'.size) {t : Nat} (h : VA β tm tm' t) : VR β (ev tm (.tmp t)) (tm'.getD t undef) := by
  simp only [ev, lget_eq]
  cases hg : tm[t]? with
  | some v =>
    obtain ⟨v', h1, h2⟩ := h v hg
    simp [h1]; exact h2
  | none =>
    have : tm'.size ≤ t := by rw [← hl]; simpa using hg
    simp [this]; exact .undef

theorem ev_rel {β : BM} {ng : Nat} (hG : GOk β ng) {tm : List Value} {tm' : Array Value} (hl : tm.length = tm'.size) {o : Oper} (hc : constsOk ng o = true)
    (hv : ∀ t, Operand.tmp t ∈ o.op.operands.toList → VA β tm tm' t) {fr' : Frame} (hf : fr'.tmps = tm') : ∀ x ∈ o.op.operands, VR β (ev tm x) (fr'.eval x) := by
  intro x hx
  have hx' := Array.mem_def.1 hx
  have := List.all_eq_true.1 hc x hx'
  cases x with
  | tmp t => subst hf; exact ev_tmp hl (hv t hx')
  | const v => exact VR.of_af this
  | global g =>
    obtain ⟨i, h1, h2, h3⟩ := hG g (by simpa [Nat.blt_eq] using this)
    have := VR.ptr (o := 0) h1
    rw [h2, h3] at this
    exact this
  | func f => exact .func .nil .nil

theorem looks_operand {ops : List Oper} {o : Oper} {t : Nat} (h : Operand.tmp t ∈ o.op.operands.toList) : t ∈ looks ops o :=
  List.mem_append_left _ (List.mem_filterMap.2 ⟨.tmp t, h, rfl⟩)

theorem looks_guard {ops : List Oper} {o : Oper} {g : Nat} {b : Bool} {x : Oper} {d : Nat} (hg : o.guard = some (g, b)) (hx : ops[g]? = some x) (hd : x.dst = some d) : d ∈ looks ops o := by
  refine List.mem_append_right _ ?_
  simp only [hg, lget_eq, hx, hd]
  simp

/-- is it wanted? -/
theorem wanted_rel {β : BM} {tm : List Value} {tm' : Array Value} (hl : tm.length = tm'.size) {aops : Array Oper} {o : Oper}
    (hv : ∀ t, t ∈ looks aops.toList o → VA β tm tm' t) (hgo : guardOk aops.toList tm o = true) : Region.wanted o (yielded aops tm') = wantedL aops.toList tm o := by
  unfold Region.wanted wantedL
  cases hg : o.guard with
  | none => rfl
  | some gw =>
    obtain ⟨g, want⟩ := gw
    simp only []
    unfold yielded
    rw [lget_eq]
    simp only [Array.getElem?_toList]
    cases hx : aops[g]? with
    | none => simp
    | some x =>
      simp only [Option.bind_some]
      cases hd : x.dst with
      | none => simp
      | some d =>
        have hva := hv d (looks_guard hg (by simpa using hx) hd)
        simp only [Option.bind_some, lget_eq]
        cases ht : tm[d]? with
        | none =>
          have : tm'[d]? = none := by
            have : tm'.size ≤ d := by rw [← hl]; simpa using ht
            simp [this]
          simp [this]
        | some v =>
          obtain ⟨v', h1, h2⟩ := hva v ht
          rw [h1]
          cases v with
          | bool b => rw [h2.bool_inv]; cases b <;> cases want <;> rfl
          | chan r =>
            exfalso
            unfold guardOk at hgo
            simp [hg, lget_eq, hx, hd, ht] at hgo
          | _ =>
            cases h2 with
            | atom h => rfl
            | _ => rfl

/-! ## items -/
inductive IR (β : BM) : AItem → Item → Prop where
  | code (c : Code) : IR β (.code c) (.code c)
  | inBlock (id : Nat) : IR β (.inBlock id) (.inBlock id)
  | inLoop (c : Code) : IR β (.inLoop c) (.inLoop c)
  | inScope (c : Code) : IR β (.inScope c) (.inScope c)
  | inRegion {aops : Array Oper} (k : Nat) : IR β (.inRegion aops.toList (aops.toList.drop k)) (.inRegion aops ((List.range aops.size).drop k))
  | inRange {l : Nat} {i : BI} (h : β l = some i) : IR β (.inRangeFunc l) (.inRangeFunc i.blk)
  | endRange {l : Nat} {i : BI} (h : β l = some i) : IR β (.endRangeFunc l) (.endRangeFunc i.blk)
  | beginRound : IR β .beginRound .beginRound
inductive TR (β : BM) : List AItem → List Item → Prop where
  | nil : TR β [] []
  | cons {x : AItem} {x' : Item} {k : List AItem} {k' : List Item} (h : IR β x x') (hs : TR β k k') : TR β (x :: k) (x' :: k')
theorem IR.mono {β β' : BM} (hb : β.le β') {x : AItem} {x' : Item} (h : IR β x x') : IR β' x x' := by
  cases h with
  | code => exact .code _
  | inBlock => exact .inBlock _
  | inLoop => exact .inLoop _
  | inScope => exact .inScope _
  | inRegion k => exact .inRegion k
  | inRange h => exact .inRange (hb _ _ h)
  | endRange h => exact .endRange (hb _ _ h)
  | beginRound => exact .beginRound
theorem TR.mono {β β' : BM} (hb : β.le β') {k : List AItem} {k' : List Item} (h : TR β k k') : TR β' k k' := by
  induction h with
  | nil => exact .nil
  | cons h _ ih => exact .cons (h.mono hb) ih

/-! ## regions that draw their order -/
def bf (ops : Array Oper) (i : Nat) : Nat := lnth (befs ops.toList []) i

structure POk (C : Ctx) (ng : Nat) (ops : Array Oper) (tm : List Value) (p : Pend) (o : Oper) : Prop where
  op : ops[p.i]? = some o
  early : isEarly o = true
  consts : constsOk ng o = true
  self : ∀ d, o.dst = some d → d ∉ looks ops.toList o
  guard : guardOk ops.toList tm o = true
  slot : ∀ d, o.dst = some d → d < tm.length → tm[d]? = some p.v
  val : (wantedL ops.toList tm o = false ∧ p.v = undef ∧ p.obj = none ∧ p.ins = none) ∨
    (wantedL ops.toList tm o = true ∧
      ((∃ e, insP C (ev tm) o = some e ∧ p.ins = some e ∧ p.obj = none ∧ p.v = undef) ∨
       (insP C (ev tm) o = none ∧ p.ins = none ∧ ∃ b x, p.obj = some (b, x) ∧ readsHeap o = false ∧ ∀ H, quiet C H b (ev tm) o = some (p.v, some x)) ∨
       (insP C (ev tm) o = none ∧ p.ins = none ∧ p.obj = none ∧ (readsHeap o = false → ∀ H nx, quiet C H nx (ev tm) o = some (p.v, none)))))

structure DInv (C : Ctx) (ng : Nat) (β : BM) (ops : Array Oper) (done : Nat) (pend : List Pend) (D : Nat → Bool) (tm : List Value) (tm' : Array Value) : Prop where
  len : tm.length = tm'.size
  slot : ∀ t, VA β tm tm' t ∨ ∃ p ∈ pend, D p.i = false ∧ ∃ o, ops[p.i]? = some o ∧ o.dst = some t
  sub : ∀ i, D i = true → done.testBit i = true
  sup : ∀ i, i < ops.size → done.testBit i = true → D i = true ∨ ∃ p ∈ pend, p.i = i
  mem : ∀ p ∈ pend, done.testBit p.i = true
  nodup : (pend.map (·.i)).Nodup
  pok : ∀ p ∈ pend, D p.i = false → ∃ o, POk C ng ops tm p o
  rng : ∀ p ∈ pend, (∃ o, ops[p.i]? = some o ∧ isEarly o = true) ∧ (p.ins ≠ none → p.obj = none)
  pair : ∀ p ∈ pend, ∀ q ∈ pend, q.i ≠ p.i → ∀ o o', ops[p.i]? = some o → ops[q.i]? = some o' → ∀ d, o'.dst = some d → (d ∈ looks ops.toList o → (bf ops p.i).testBit q.i = true) ∧ o.dst ≠ some d
  ins : ∀ p ∈ pend, ∀ b k v, p.ins = some (b, k, v) → ∃ q ∈ pend, q.obj = some (b, .map [] 0 true) ∧ (bf ops p.i).testBit q.i = true
  keys : ∀ p ∈ pend, ∀ q ∈ pend, p.i ≠ q.i → ∀ b k v k' v', p.ins = some (b, k, v) → q.ins = some (b, k', v') → sameKey k k' = some false

/-- what can be told of those that are to be done, and read blocks -/
def HInv (C : Ctx) (H : AHeap) (ops : Array Oper) (pend : List Pend) (D : Nat → Bool) (tm : List Value) : Prop :=
  ∀ p ∈ pend, D p.i = false → ∀ o, ops[p.i]? = some o → wantedL ops.toList tm o = true → p.obj = none → p.ins = none → ∀ nx, quiet C H nx (ev tm) o = some (p.v, none)

def pobj (b : Nat) (x : AObj) (ex : List Pend) : AObj :=
  match x with
  | .map [] 0 true => .map (insOf b ex) (llen (insOf b ex) 0) false
  | x => x

def pblocks (pend : List Pend) : List Nat := pend.filterMap fun p => p.obj.map (·.1)

def BInv (β : BM) (H Hs : AHeap) (nx : Nat) (full pend : List Pend) (D : Nat → Bool) : Prop :=
  ∀ p ∈ pend, ∀ b x, p.obj = some (b, x) → b < nx ∧ H.get b = none ∧ (D p.i = false → β b = none) ∧
    (D p.i = true → Hs.get b = some (pobj b x (full.filter fun p => D p.i)))

structure Waits (ops : Array Oper) (done cur : Nat) (pend : List Pend) (rest : List Nat) : Prop where
  ex : ∃ rest' o, rest = cur :: rest' ∧ ops[cur]? = some o ∧ isEarly o = false ∧ apart ops.toList (bf ops cur) o pend = true
  done : done.testBit cur = false
  none : ∀ p ∈ pend, (bf ops cur).testBit p.i = false

structure Dreg (C : Ctx) (ng : Nat) (β : BM) (H Hs : AHeap) (nx : Nat) (wait : Bool) (ops : Array Oper) (bef : List Nat) (done cur : Nat) (pend : List Pend) (chk : Bool)
    (l : Array Bool) (rest : List Nat) (tm : List Value) (tm' : Array Value) : Prop where
  bef : bef = befs ops.toList []
  back : edgesBack ops.toList 0 = true
  size : l.size = ops.size
  ec : EC ops (dn l)
  ord : Ord ops l rest
  inv : DInv C ng β ops done pend (dn l) tm tm'
  blk : BInv β H Hs nx pend pend (dn l)
  heap : chk = false → wait = false → HInv C H ops pend (dn l) tm
  wait : wait = true → Waits ops done cur pend rest

structure FB (β : BM) (fr : AFrame) (fr' : Frame) : Prop where
  fn : fr'.fn = fr.fn
  kind : fr'.kind = fr.kind
  mode : fr'.mode = if fr.ret then .returning else .run
  round : OptR β fr.roundOf fr'.roundOf
  defers : DLR β fr.defers fr'.defers
theorem FB.mono {β β' : BM} (hb : β.le β') {fr : AFrame} {fr' : Frame} (h : FB β fr fr') : FB β' fr fr' :=
  ⟨h.fn, h.kind, h.mode, h.round.mono hb, h.defers.mono hb⟩

def fblocks (fr : AFrame) : List Nat :=
  match fr.todo with
  | .dreg _ _ _ _ pend _ :: _ => pblocks pend
  | _ => []

inductive FT (C : Ctx) (ng : Nat) (β : BM) (H Hs : AHeap) (nx : Nat) (wait : Bool) (ret : Bool) : List Value → List AItem → Array Value → List Item → Prop where
  | norm {tm : List Value} {tm' : Array Value} {k : List AItem} {k' : List Item} (ht : LR β tm tm'.toList) (hk : TR β k k') : FT C ng β H Hs nx wait ret tm k tm' k'
  | dreg {tm : List Value} {tm' : Array Value} {k : List AItem} {k' : List Item} {ops : Array Oper} {bef : List Nat} {done cur : Nat} {pend : List Pend} {chk : Bool} {l : Array Bool} {rest : List Nat}
      (hr : ret = false) (hd : Dreg C ng β H Hs nx wait ops bef done cur pend chk l rest tm tm') (hk : TR β k k') :
      FT C ng β H Hs nx wait ret tm (.dreg ops bef done cur pend chk :: k) tm' (.inRegion ops rest :: k')

structure FR (C : Ctx) (ng : Nat) (β : BM) (H Hs : AHeap) (nx : Nat) (wait : Bool) (fr : AFrame) (fr' : Frame) : Prop where
  base : FB β fr fr'
  todo : FT C ng β H Hs nx wait fr.ret fr.tmps fr.todo fr'.tmps fr'.todo

/-! ## what a frame that waits keeps -/
theorem DInv.mono {C : Ctx} {ng : Nat} {β β' : BM} (hb : β.le β') {ops : Array Oper} {done : Nat} {pend : List Pend} {D : Nat → Bool} {tm : List Value} {tm' : Array Value}
    (h : DInv C ng β ops done pend D tm tm') : DInv C ng β' ops done pend D tm tm' :=
  { h with slot := fun t => (h.slot t).imp (fun hv => hv.mono hb) id }

/-- blocks that are to be are left alone -/
def Left (bs : List Nat) (β β' : BM) (H H' Hs Hs' : AHeap) : Prop := ∀ b ∈ bs, H.get b = none → H'.get b = none ∧ Hs'.get b = Hs.get b ∧ β' b = β b

theorem mem_pblocks {pend : List Pend} {p : Pend} (hp : p ∈ pend) {b : Nat} {x : AObj} (h : p.obj = some (b, x)) : b ∈ pblocks pend :=
  List.mem_filterMap.2 ⟨p, hp, by simp [h]⟩

theorem BInv.keep {β β' : BM} {H H' Hs Hs' : AHeap} {nx nx' : Nat} {full pend : List Pend} {D : Nat → Bool} (h : BInv β H Hs nx full pend D) (hnx : nx ≤ nx')
    (hk : Left (pblocks pend) β β' H H' Hs Hs') : BInv β' H' Hs' nx' full pend D := by
  intro p hp b x hx
  obtain ⟨h1, h2, h3, h4⟩ := h p hp b x hx
  obtain ⟨k1, k2, k3⟩ := hk b (mem_pblocks hp hx) h2
  exact ⟨by omega, k1, fun hd => by rw [k3]; exact h3 hd, fun hd => by rw [k2]; exact h4 hd⟩

theorem FR.keep {C : Ctx} {ng : Nat} {β β' : BM} {H H' Hs Hs' : AHeap} {nx nx' : Nat} {fr : AFrame} {fr' : Frame} (h : FR C ng β H Hs nx true fr fr') (hb : β.le β') (hnx : nx ≤ nx')
    (hk : Left (fblocks fr) β β' H H' Hs Hs') : FR C ng β' H' Hs' nx' true fr fr' := by
  refine ⟨h.base.mono hb, ?_⟩
  have ht := h.todo
  generalize hq : fr.todo = q at ht
  generalize hq' : fr'.todo = q' at ht
  cases ht with
  | norm h1 h2 => exact .norm (h1.mono hb) (h2.mono hb)
  | dreg hr hd h2 =>
    unfold fblocks at hk
    rw [hq] at hk
    exact .dreg hr { hd with inv := hd.inv.mono hb, blk := hd.blk.keep hnx hk, heap := fun _ h => by cases h } (h2.mono hb)
end Go.Abs
