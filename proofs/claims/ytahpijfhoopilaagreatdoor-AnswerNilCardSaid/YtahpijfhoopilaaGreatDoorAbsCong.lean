/-
  THE ABSTRACT MACHINE: what its quiet operations depend on.
-/
import Derived.Test.YtahpijfhoopilaaGreatDoorAbsOrd
set_option linter.unusedSectionVars false
set_option linter.unusedVariables false
set_option linter.unusedSimpArgs false
namespace Go.Abs
open Go
variable [Ops]

section
variable {C : Ctx} {H H' : AHeap} {nx nx' : Nat} {ρ ρ' : Operand → Value} {o : Oper} {v : Value}

theorem quiet_static (hr : readsHeap o = false) : quiet C H nx ρ o = quiet C H' nx ρ o := by
  cases ho : o.op <;> first
    | (simp only [quiet, ho]; done)
    | (simp [readsHeap, ho] at hr; done)
    | rfl

theorem quiet_nx (hq : quiet C H nx ρ o = some (v, none)) : quiet C H nx' ρ o = some (v, none) := by
  cases ho : o.op with
  | alloc e => simp only [quiet, ho] at hq; split at hq <;> cases hq
  | box e x => simp only [quiet, ho] at hq; split at hq <;> cases hq
  | buildSlice t n p =>
    simp only [quiet, ho] at hq
    split at hq
    · split at hq
      · split at hq
        · split at hq <;> cases hq
        · cases hq
      · cases hq
    · cases hq
  | makeMap t r => simp only [quiet, ho] at hq; split at hq <;> cases hq
  | makeSlice t l c =>
    simp only [quiet, ho] at hq
    split at hq
    · split at hq
      · split at hq <;> cases hq
      · cases hq
    · cases hq
  | range t x =>
    simp only [quiet, ho] at hq
    split at hq
    · cases hq
    · split at hq <;> cases hq
    · cases hq
  | _ => simp only [quiet, ho] at hq ⊢; exact hq

theorem quiet_congr (h : ∀ x ∈ o.op.operands, ρ x = ρ' x) : quiet C H nx ρ o = quiet C H nx ρ' o := by
  have hall : o.op.operands.toList.all (fun x => af (ρ x)) = o.op.operands.toList.all (fun x => af (ρ' x)) := by
    have : o.op.operands.toList.map ρ = o.op.operands.toList.map ρ' := List.map_congr_left fun x hx => h x (Array.mem_def.2 hx)
    have e1 : ∀ (r : Operand → Value) (l : List Operand), l.all (fun x => af (r x)) = (l.map r).all af := fun r l => by induction l <;> simp_all
    rw [e1, e1, this]
  have hex : (∀ cs b, o.op ≠ .select cs b) → execOp ρ o = execOp ρ' o := fun hs => execOp_congr o hs h
  have hparts : ∀ (ps : Array (Nat × Operand)), (∀ x ∈ ps.toList.map (·.2), ρ x = ρ' x) → (ps.toList.map fun p => (p.1, ρ p.2)) = (ps.toList.map fun p => (p.1, ρ' p.2)) := fun ps hp =>
    List.map_congr_left fun p hm => by rw [hp p.2 (List.mem_map.2 ⟨p, hm, rfl⟩)]
  cases ho : o.op with
  | build t ps => simp only [quiet, ho]; rw [hparts ps (fun x hx => h x (by rw [ho]; simpa [Op.operands] using hx))]
  | buildSlice t n ps => simp only [quiet, ho]; rw [hparts ps (fun x hx => h x (by rw [ho]; simpa [Op.operands] using hx))]
  | makeFunc fn a c =>
    have h1 : a.toList.map ρ = a.toList.map ρ' := List.map_congr_left fun x hx => h x (by rw [ho]; simp [Op.operands]; exact .inl (Array.mem_def.2 hx))
    have h2 : c.toList.map ρ = c.toList.map ρ' := List.map_congr_left fun x hx => h x (by rw [ho]; simp [Op.operands]; exact .inr (Array.mem_def.2 hx))
    simp only [quiet, ho]; rw [h1, h2]
  | slice t x lo hi mx =>
    have hx : ρ x = ρ' x := h x (by rw [ho]; simp [Op.operands])
    have hl : lo.map ρ = lo.map ρ' := by cases lo with | none => rfl | some y => simp only [Option.map_some]; rw [h y (by rw [ho]; simp [Op.operands])]
    have hh : hi.map ρ = hi.map ρ' := by cases hi with | none => rfl | some y => simp only [Option.map_some]; rw [h y (by rw [ho]; simp [Op.operands])]
    have hm : mx.map ρ = mx.map ρ' := by cases mx with | none => rfl | some y => simp only [Option.map_some]; rw [h y (by rw [ho]; simp [Op.operands])]
    simp only [quiet, ho]
    rw [← ho, hall, hx, hl, hh, hm, hex (by simp [ho])]
  | binOp op t x y u =>
    have hx : ρ x = ρ' x := h x (by rw [ho]; simp [Op.operands])
    have hy : ρ y = ρ' y := h y (by rw [ho]; simp [Op.operands])
    simp only [quiet, ho]
    rw [hx, hy, hex (by simp [ho])]
  | unOp op t x => simp only [quiet, ho]; rw [← ho, hall, hex (by simp [ho])]
  | index t x y => simp only [quiet, ho]; rw [← ho, hall, hex (by simp [ho])]
  | convert s d x =>
    have hx : ρ x = ρ' x := h x (by rw [ho]; simp [Op.operands])
    simp only [quiet, ho]
    rw [hx, hex (by simp [ho])]
  | call c =>
    simp only [quiet, ho]
    rw [← ho, hall, hex (by simp [ho])]
    have hargs : ∀ x ∈ c.args.toList, ρ x = ρ' x := fun x hx => h x (by rw [ho]; simp [Op.operands, Call.operands]; exact .inr (Array.mem_def.2 hx))
    have hget : ∀ x, lget c.args.toList 0 = some x → ρ x = ρ' x := fun x hx => hargs x (by rw [lget_eq] at hx; exact List.mem_of_getElem? hx)
    split
    · split
      · rename_i hx _; rw [hget _ hx]
      · rfl
    · split
      · rename_i hx _; rw [hget _ hx]
      · rfl
    · rfl
    · rfl
    · split
      · rename_i hx; rw [hargs _ (by rw [hx]; simp)]
      · rfl
    · rfl
  | _ =>
    first
    | (simp only [quiet, ho]; done)
    | (rw [ho] at h; simp only [Op.operands] at h; simp only [quiet, ho]; simp_all; done)

theorem insP_congr (h : ∀ x ∈ o.op.operands, ρ x = ρ' x) : insP C ρ o = insP C ρ' o := by
  cases ho : o.op with
  | insert t m k x =>
    have h1 : ρ m = ρ' m := h m (by rw [ho]; simp [Op.operands])
    have h2 : ρ k = ρ' k := h k (by rw [ho]; simp [Op.operands])
    have h3 : ρ x = ρ' x := h x (by rw [ho]; simp [Op.operands])
    simp only [insP, ho]; rw [h1, h2, h3]
  | _ => simp only [insP, ho]
end

/-! ## values spelled the same -/
theorem eqv_list {n : Nat} (ih : ∀ a b, eqv n a b = true → a = b) : ∀ (a b : List Value), a.length = b.length → (∀ x y, (x, y) ∈ a.zip b → eqv n x y = true) → a = b
  | [], [], _, _ => rfl
  | [], _ :: _, h, _ => by simp at h
  | _ :: _, [], h, _ => by simp at h
  | x :: xs, y :: ys, h, ha => by
    rw [ih _ _ (ha x y (by simp)), eqv_list ih xs ys (by simpa using h) (fun a b hab => ha a b (by simp [hab]))]

theorem eqv_eq : ∀ (n : Nat) (a b : Value), eqv n a b = true → a = b := by
  intro n
  induction n with
  | zero =>
    intro a b h
    unfold eqv at h
    split at h <;> simp_all
    exact ba_eq (by simpa using h)
  | succ n ih =>
    intro a b h
    unfold eqv at h
    split at h <;> simp_all
    · exact ba_eq (by simpa using h)
    · exact ⟨eqv_list ih _ _ h.1.1.1.2 h.1.1.2, eqv_list ih _ _ h.1.2 h.2⟩
    · exact ih _ _ h.2
    · exact eqv_list ih _ _ h.1 h.2
    · exact eqv_list ih _ _ h.1 h.2
end Go.Abs

/-
  THE ABSTRACT MACHINE: what its frames stand for.
-/
namespace Go.Abs
open Go
variable [Ops]

/-! ## slots and operands -/
def VA (β : BM) (tm : List Value) (tm' : Array Value) (t : Nat) : Prop := ∀ v, tm[t]? = some v → ∃ v', tm'[t]? = some v' ∧ VR β v v'
theorem VA.mono {β β' : BM} (hb : β.le β') {tm : List Value} {tm' : Array Value} {t : Nat} (h : VA β tm tm' t) : VA β' tm tm' t :=
  fun v hv => let ⟨v', h1, h2⟩ := h v hv; ⟨v', h1, h2.mono hb⟩
theorem VA.of_lr {β : BM} {tm : List Value} {tm' : Array Value} (h : LR β tm tm'.toList) (t : Nat) : VA β tm tm' t :=
  fun v hv => let ⟨v', h1, h2⟩ := h.get hv; ⟨v', by simpa using h1, h2⟩
theorem LR.of_va {β : BM} {tm : List Value} {tm' : Array Value} (hl : tm.length = tm'.size) (h : ∀ t, VA β tm tm' t) : LR β tm tm'.toList :=
  LR.of_get (by simpa using hl) fun j v v' h1 h2 => by
    obtain ⟨v2, h3, h4⟩ := h j v h1
    have : some v2 = some v' := by rw [← h3, ← h2]; simp
    cases this; exact h4

def GOk (β : BM) (ng : Nat) : Prop := ∀ g, g < ng → ∃ i, β g = some i ∧ i.blk = g ∧ i.base = 0
theorem GOk.mono {β β' : BM} (hb : β.le β') {ng : Nat} (h : GOk β ng) : GOk β' ng := fun g hg => let ⟨i, h1, h2⟩ := h g hg; ⟨i, hb _ _ h1, h2⟩

theorem ev_tmp {β : BM} {tm : List Value} {tm' : Array Value} (hl : tm.length = tm'.size) {t : Nat} (h : VA β tm tm' t) : VR β (ev tm (.tmp t)) (tm'.getD t undef) := by
  simp only [ev, lget_eq]
  cases hg : tm[t]? with
  | some v =>
    obtain ⟨v', h1, h2⟩ := h v hg
    simp [h1]; exact h2
  | none =>
    have : tm'.size ≤ t := by rw [← hl]; simpa using hg
    simp [this]; exact .undef

theorem ev_rel {β : BM} {ng : Nat} (hG : GOk β ng) {tm : List Value} {tm' : Array Value} (hl : tm.length = tm'.size) {o : Oper} (hc : constsOk ng o = true)
    (hv : ∀ t, Operand.tmp t ∈ o.op.operands.toList → VA β tm tm' t) {fr' : Frame} (hf : fr'.tmps = tm') : ∀ x ∈ o.op.operands, VR β (ev tm x) (fr'.eval x) := by
  intro x hx
  have hx' := Array.mem_def.1 hx
  have := List.all_eq_true.1 hc x hx'
  cases x with
  | tmp t => subst hf; exact ev_tmp hl (hv t hx')
  | const v => exact VR.of_af this
  | global g =>
    obtain ⟨i, h1, h2, h3⟩ := hG g (by simpa [Nat.blt_eq] using this)
    have := VR.ptr (o := 0) h1
    rw [h2, h3] at this
    exact this
  | func f => exact .func .nil .nil

theorem looks_operand {ops : List Oper} {o : Oper} {t : Nat} (h : Operand.tmp t ∈ o.op.operands.toList) : t ∈ looks ops o :=
  List.mem_append_left _ (List.mem_filterMap.2 ⟨.tmp t, h, rfl⟩)

theorem looks_guard {ops : List Oper} {o : Oper} {g : Nat} {b : Bool} {x : Oper} {d : Nat} (hg : o.guard = some (g, b)) (hx : ops[g]? = some x) (hd : x.dst = some d) : d ∈ looks ops o := by
  refine List.mem_append_right _ ?_
  simp only [hg, lget_eq, hx, hd]
  simp

/-- is it wanted? -/
theorem wanted_rel {β : BM} {tm : List Value} {tm' : Array Value} (hl : tm.length = tm'.size) {aops : Array Oper} {o : Oper}
    (hv : ∀ t, t ∈ looks aops.toList o → VA β tm tm' t) (hgo : guardOk aops.toList tm o = true) : Region.wanted o (yielded aops tm') = wantedL aops.toList tm o := by
  unfold Region.wanted wantedL
  cases hg : o.guard with
  | none => rfl
  | some gw =>
    obtain ⟨g, want⟩ := gw
    simp only []
    unfold yielded
    rw [lget_eq]
    simp only [Array.getElem?_toList]
    cases hx : aops[g]? with
    | none => simp
    | some x =>
      simp only [Option.bind_some]
      cases hd : x.dst with
      | none => simp
      | some d =>
        have hva := hv d (looks_guard hg (by simpa using hx) hd)
        simp only [Option.bind_some, lget_eq]
        cases ht : tm[d]? with
        | none =>
          have : tm'[d]? = none := by
            have : tm'.size ≤ d := by rw [← hl]; simpa using ht
            simp [this]
          simp [this]
        | some v =>
          obtain ⟨v', h1, h2⟩ := hva v ht
          rw [h1]
          cases v with
          | bool b => rw [h2.bool_inv]; cases b <;> cases want <;> rfl
          | chan r =>
            exfalso
            unfold guardOk at hgo
            simp [hg, lget_eq, hx, hd, ht] at hgo
          | _ =>
            cases h2 with
            | atom h => rfl
            | _ => rfl

/-! ## items -/
inductive IR (β : BM) : AItem → Item → Prop where
  | code (c : Code) : IR β (.code c) (.code c)
  | inBlock (id : Nat) : IR β (.inBlock id) (.inBlock id)
  | inLoop (c : Code) : IR β (.inLoop c) (.inLoop c)
  | inScope (c : Code) : IR β (.inScope c) (.inScope c)
  | inRegion {aops : Array Oper} (k : Nat) : IR β (.inRegion aops.toList (aops.toList.drop k)) (.inRegion aops ((List.range aops.size).drop k))
  | inRange {l : Nat} {i : BI} (h : β l = some i) : IR β (.inRangeFunc l) (.inRangeFunc i.blk)
  | endRange {l : Nat} {i : BI} (h : β l = some i) : IR β (.endRangeFunc l) (.endRangeFunc i.blk)
  | beginRound : IR β .beginRound .beginRound
inductive TR (β : BM) : List AItem → List Item → Prop where
  | nil : TR β [] []
  | cons {x : AItem} {x' : Item} {k : List AItem} {k' : List Item} (h : IR β x x') (hs : TR β k k') : TR β (x :: k) (x' :: k')
theorem IR.mono {β β' : BM} (hb : β.le β') {x : AItem} {x' : Item} (h : IR β x x') : IR β' x x' := by
  cases h with
  | code => exact .code _
  | inBlock => exact .inBlock _
  | inLoop => exact .inLoop _
  | inScope => exact .inScope _
  | inRegion k => exact .inRegion k
  | inRange h => exact .inRange (hb _ _ h)
  | endRange h => exact .endRange (hb _ _ h)
  | beginRound => exact .beginRound
theorem TR.mono {β β' : BM} (hb : β.le β') {k : List AItem} {k' : List Item} (h : TR β k k') : TR β' k k' := by
  induction h with
  | nil => exact .nil
  | cons h _ ih => exact .cons (h.mono hb) ih

/-! ## regions that draw their order -/
def bf (ops : Array Oper) (i : Nat) : Nat := lnth (befs ops.toList []) i

structure POk (C : Ctx) (ng : Nat) (ops : Array Oper) (tm : List Value) (p : Pend) (o : Oper) : Prop where
  op : ops[p.i]? = some o
  early : isEarly o = true ∨ isStore o = true
  consts : constsOk ng o = true
  self : ∀ d, o.dst = some d → d ∉ looks ops.toList o
  guard : guardOk ops.toList tm o = true
  slot : ∀ d, o.dst = some d → d < tm.length → tm[d]? = some p.v
  val : (wantedL ops.toList tm o = false ∧ p.v = undef ∧ p.obj = none ∧ p.ins = none) ∨
    (wantedL ops.toList tm o = true ∧
      ((∃ e, insP C (ev tm) o = some e ∧ p.ins = some e ∧ p.obj = none ∧ p.v = undef) ∨
       (insP C (ev tm) o = none ∧ p.ins = none ∧ p.st = none ∧ ∃ b x, p.obj = some (b, x) ∧ readsHeap o = false ∧ ∀ H, quiet C H b (ev tm) o = some (p.v, some x)) ∨
       (insP C (ev tm) o = none ∧ p.ins = none ∧ p.obj = none ∧ (readsHeap o = false → ∀ H nx, quiet C H nx (ev tm) o = some (p.v, none))) ∨
       (p.ins = none ∧ p.v = undef ∧ ∃ t a y b x0 x1, o.op = .store t a y ∧ p.obj = some (b, x1) ∧ p.st = some x0 ∧ stV C t (ev tm a) (ev tm y) x0 = some (b, x1))))

structure DInv (C : Ctx) (ng : Nat) (β : BM) (ops : Array Oper) (done : Nat) (pend : List Pend) (D : Nat → Bool) (tm : List Value) (tm' : Array Value) : Prop where
  len : tm.length = tm'.size
  slot : ∀ t, VA β tm tm' t ∨ ∃ p ∈ pend, D p.i = false ∧ ∃ o, ops[p.i]? = some o ∧ o.dst = some t
  sub : ∀ i, D i = true → done.testBit i = true
  sup : ∀ i, i < ops.size → done.testBit i = true → D i = true ∨ ∃ p ∈ pend, p.i = i
  mem : ∀ p ∈ pend, done.testBit p.i = true
  nodup : (pend.map (·.i)).Nodup
  pok : ∀ p ∈ pend, D p.i = false → ∃ o, POk C ng ops tm p o
  rng : ∀ p ∈ pend, (∃ o, ops[p.i]? = some o ∧ (isEarly o = true ∨ isStore o = true)) ∧ (p.ins ≠ none → p.obj = none)
  pair : ∀ p ∈ pend, ∀ q ∈ pend, q.i ≠ p.i → ∀ o o', ops[p.i]? = some o → ops[q.i]? = some o' → ∀ d, o'.dst = some d → (d ∈ looks ops.toList o → (bf ops p.i).testBit q.i = true) ∧ o.dst ≠ some d
  ins : ∀ p ∈ pend, ∀ b k v, p.ins = some (b, k, v) → ∃ q ∈ pend, q.obj = some (b, .map [] 0 true) ∧ (bf ops p.i).testBit q.i = true
  keys : ∀ p ∈ pend, ∀ q ∈ pend, p.i ≠ q.i → ∀ b k v k' v', p.ins = some (b, k, v) → q.ins = some (b, k', v') → sameKey k k' = some false

/-- what can be told of those that are to be done, and read blocks -/
def HInv (C : Ctx) (H : AHeap) (ops : Array Oper) (pend : List Pend) (D : Nat → Bool) (tm : List Value) : Prop :=
  ∀ p ∈ pend, D p.i = false → ∀ o, ops[p.i]? = some o → wantedL ops.toList tm o = true → p.obj = none → p.ins = none → ∀ nx, quiet C H nx (ev tm) o = some (p.v, none)

def pobj (b : Nat) (x : AObj) (ex : List Pend) : AObj :=
  match x with
  | .map [] 0 true => .map (insOf b ex) (llen (insOf b ex) 0) false
  | x => x

def pblocks (pend : List Pend) : List Nat := pend.filterMap fun p => p.obj.map (·.1)

def BInv (β : BM) (H Hs : AHeap) (nx : Nat) (full pend : List Pend) (D : Nat → Bool) : Prop :=
  ∀ p ∈ pend, ∀ b x, p.obj = some (b, x) → b < nx ∧ H.get b = none ∧ (D p.i = false → (p.st = none → β b = none) ∧ ∀ x0, p.st = some x0 → Hs.get b = some x0) ∧
    (D p.i = true → Hs.get b = some (pobj b x (full.filter fun p => D p.i)))

structure Waits (ops : Array Oper) (done cur : Nat) (pend : List Pend) (rest : List Nat) : Prop where
  ex : ∃ rest' o, rest = cur :: rest' ∧ ops[cur]? = some o ∧ isEarly o = false ∧ apart ops.toList (bf ops cur) o pend = true
  done : done.testBit cur = false
  none : ∀ p ∈ pend, (bf ops cur).testBit p.i = false

structure Dreg (C : Ctx) (ng : Nat) (β : BM) (H Hs : AHeap) (nx : Nat) (wait : Bool) (ops : Array Oper) (bef : List Nat) (done cur : Nat) (pend : List Pend) (chk : Bool)
    (l : Array Bool) (rest : List Nat) (tm : List Value) (tm' : Array Value) : Prop where
  bef : bef = befs ops.toList []
  back : edgesBack ops.toList 0 = true
  size : l.size = ops.size
  ec : EC ops (dn l)
  ord : Ord ops l rest
  inv : DInv C ng β ops done pend (dn l) tm tm'
  blk : BInv β H Hs nx pend pend (dn l)
  heap : chk = false → wait = false → HInv C H ops pend (dn l) tm
  wait : wait = true → Waits ops done cur pend rest

structure FB (β : BM) (fr : AFrame) (fr' : Frame) : Prop where
  fn : fr'.fn = fr.fn
  kind : fr'.kind = fr.kind
  mode : fr'.mode = if fr.ret then .returning else .run
  round : OptR β fr.roundOf fr'.roundOf
  defers : DLR β fr.defers fr'.defers
theorem FB.mono {β β' : BM} (hb : β.le β') {fr : AFrame} {fr' : Frame} (h : FB β fr fr') : FB β' fr fr' :=
  ⟨h.fn, h.kind, h.mode, h.round.mono hb, h.defers.mono hb⟩

def fblocks (fr : AFrame) : List Nat :=
  match fr.todo with
  | .dreg _ _ _ _ pend _ :: _ => pblocks pend
  | _ => []

inductive FT (C : Ctx) (ng : Nat) (β : BM) (H Hs : AHeap) (nx : Nat) (wait : Bool) (ret : Bool) : List Value → List AItem → Array Value → List Item → Prop where
  | norm {tm : List Value} {tm' : Array Value} {k : List AItem} {k' : List Item} (ht : LR β tm tm'.toList) (hk : TR β k k') : FT C ng β H Hs nx wait ret tm k tm' k'
  | dreg {tm : List Value} {tm' : Array Value} {k : List AItem} {k' : List Item} {ops : Array Oper} {bef : List Nat} {done cur : Nat} {pend : List Pend} {chk : Bool} {l : Array Bool} {rest : List Nat}
      (hr : ret = false) (hd : Dreg C ng β H Hs nx wait ops bef done cur pend chk l rest tm tm') (hk : TR β k k') :
      FT C ng β H Hs nx wait ret tm (.dreg ops bef done cur pend chk :: k) tm' (.inRegion ops rest :: k')

structure FR (C : Ctx) (ng : Nat) (β : BM) (H Hs : AHeap) (nx : Nat) (wait : Bool) (fr : AFrame) (fr' : Frame) : Prop where
  base : FB β fr fr'
  todo : FT C ng β H Hs nx wait fr.ret fr.tmps fr.todo fr'.tmps fr'.todo

/-! ## what a frame that waits keeps -/
theorem DInv.mono {C : Ctx} {ng : Nat} {β β' : BM} (hb : β.le β') {ops : Array Oper} {done : Nat} {pend : List Pend} {D : Nat → Bool} {tm : List Value} {tm' : Array Value}
    (h : DInv C ng β ops done pend D tm tm') : DInv C ng β' ops done pend D tm tm' :=
  { h with slot := fun t => (h.slot t).imp (fun hv => hv.mono hb) id }

/-- blocks that are to be are left alone -/
def Left (bs : List Nat) (β β' : BM) (H H' Hs Hs' : AHeap) : Prop := ∀ b ∈ bs, H.get b = none → H'.get b = none ∧ Hs'.get b = Hs.get b ∧ β' b = β b

theorem mem_pblocks {pend : List Pend} {p : Pend} (hp : p ∈ pend) {b : Nat} {x : AObj} (h : p.obj = some (b, x)) : b ∈ pblocks pend :=
  List.mem_filterMap.2 ⟨p, hp, by simp [h]⟩

theorem BInv.keep {β β' : BM} {H H' Hs Hs' : AHeap} {nx nx' : Nat} {full pend : List Pend} {D : Nat → Bool} (h : BInv β H Hs nx full pend D) (hnx : nx ≤ nx')
    (hk : Left (pblocks pend) β β' H H' Hs Hs') : BInv β' H' Hs' nx' full pend D := by
  intro p hp b x hx
  obtain ⟨h1, h2, h3, h4⟩ := h p hp b x hx
  obtain ⟨k1, k2, k3⟩ := hk b (mem_pblocks hp hx) h2
  exact ⟨by omega, k1, fun hd => ⟨fun e => by rw [k3]; exact (h3 hd).1 e, fun x0 e => by rw [k2]; exact (h3 hd).2 x0 e⟩, fun hd => by rw [k2]; exact h4 hd⟩

theorem FR.keep {C : Ctx} {ng : Nat} {β β' : BM} {H H' Hs Hs' : AHeap} {nx nx' : Nat} {fr : AFrame} {fr' : Frame} (h : FR C ng β H Hs nx true fr fr') (hb : β.le β') (hnx : nx ≤ nx')
    (hk : Left (fblocks fr) β β' H H' Hs Hs') : FR C ng β' H' Hs' nx' true fr fr' := by
  refine ⟨h.base.mono hb, ?_⟩
  have ht := h.todo
  generalize hq : fr.todo = q at ht
  generalize hq' : fr'.todo = q' at ht
  cases ht with
  | norm h1 h2 => exact .norm (h1.mono hb) (h2.mono hb)
  | dreg hr hd h2 =>
    unfold fblocks at hk
    rw [hq] at hk
    exact .dreg hr { hd with inv := hd.inv.mono hb, blk := hd.blk.keep hnx hk, heap := fun _ h => by cases h } (h2.mono hb)
end Go.Abs

/-
  THE ABSTRACT MACHINE: a frame goes on with a value.
-/
namespace Go.Abs
open Go
variable [Ops]

theorem putDst_eq (tm : List Value) (d : Option Tmp) (v : Value) : putDst tm d v = match d with | some t => tm.set t v | none => tm := by
  unfold putDst
  cases d with
  | none => rfl
  | some t => simp [lset_eq]

theorem putDst_len (tm : List Value) (d : Option Tmp) (v : Value) : (putDst tm d v).length = tm.length := by
  rw [putDst_eq]; cases d <;> simp

theorem putDst_ne {tm : List Value} {d : Option Tmp} {v : Value} {t : Nat} (h : d ≠ some t) : (putDst tm d v)[t]? = tm[t]? := by
  rw [putDst_eq]
  cases d with
  | none => rfl
  | some e => exact List.getElem?_set_ne (fun h' => h (by rw [h']))

theorem putDst_same {tm : List Value} {v : Value} {t : Nat} (h : t < tm.length) : (putDst tm (some t) v)[t]? = some v := by
  rw [putDst_eq]; simp [h]

/-- what Frame.finish makes of the slots -/
def putA (tm' : Array Value) (d : Option Tmp) (v : Value) : Array Value :=
  match d with
  | some t => tm'.setIfInBounds t v
  | none => tm'
theorem putA_size (tm' : Array Value) (d : Option Tmp) (v : Value) : (putA tm' d v).size = tm'.size := by cases d <;> simp [putA]
theorem putA_toList (tm' : Array Value) (d : Option Tmp) (v : Value) : (putA tm' d v).toList = match d with | some t => tm'.toList.set t v | none => tm'.toList := by
  cases d <;> simp [putA]
theorem putA_ne {tm' : Array Value} {d : Option Tmp} {v : Value} {t : Nat} (h : d ≠ some t) : (putA tm' d v)[t]? = tm'[t]? := by
  cases d with
  | none => rfl
  | some e => exact Array.getElem?_setIfInBounds_ne (fun h' => h (by rw [h']))
theorem putA_same {tm' : Array Value} {v : Value} {t : Nat} (h : t < tm'.size) : (putA tm' (some t) v)[t]? = some v := by simp [putA, h]

theorem LR.put {β : BM} {tm : List Value} {tm' : Array Value} (h : LR β tm tm'.toList) (d : Option Tmp) {v v' : Value} (hv : VR β v v') : LR β (putDst tm d v) (putA tm' d v').toList := by
  rw [putDst_eq, putA_toList]
  cases d with
  | none => exact h
  | some t => exact h.set hv t

theorem VA.put {β : BM} {tm : List Value} {tm' : Array Value} (hl : tm.length = tm'.size) (d : Option Tmp) {v v' : Value} (hv : VR β v v') {t : Nat} (h : d = some t ∨ VA β tm tm' t) :
    VA β (putDst tm d v) (putA tm' d v') t := by
  intro u hu
  by_cases e : d = some t
  · subst e
    have hlt : t < tm.length := by
      rcases Nat.lt_or_ge t tm.length with h' | h'
      · exact h'
      · rw [List.getElem?_eq_none (by rw [putDst_len]; exact h')] at hu; cases hu
    rw [putDst_same hlt] at hu
    cases hu
    exact ⟨v', putA_same (by omega), hv⟩
  · rw [putDst_ne e] at hu
    rw [putA_ne e]
    rcases h with h | h
    · exact absurd h e
    · exact h u hu

theorem ev_put {ops : List Oper} {o : Oper} {tm : List Value} {d : Option Tmp} {v : Value} (h : ∀ t, d = some t → t ∉ looks ops o) :
    ∀ x ∈ o.op.operands, ev (putDst tm d v) x = ev tm x := by
  intro x hx
  cases x with
  | tmp t =>
    have : d ≠ some t := fun e => h t e (looks_operand (Array.mem_def.1 hx))
    simp only [ev, lget_eq, putDst_ne this]
  | _ => rfl

theorem wantedL_put {ops : List Oper} {o : Oper} {tm : List Value} {d : Option Tmp} {v : Value} (h : ∀ t, d = some t → t ∉ looks ops o) :
    wantedL ops (putDst tm d v) o = wantedL ops tm o := by
  unfold wantedL
  split
  · rfl
  · rename_i g want hg
    rw [lget_eq]
    split
    · rename_i x hx
      split
      · rename_i e he
        have : d ≠ some e := fun e' => h e e' (looks_guard hg hx he)
        rw [lget_eq, lget_eq, putDst_ne this]
      · rfl
    · rfl

theorem guardOk_put {ops : List Oper} {o : Oper} {tm : List Value} {d : Option Tmp} {v : Value} (h : ∀ t, d = some t → t ∉ looks ops o) :
    guardOk ops (putDst tm d v) o = guardOk ops tm o := by
  unfold guardOk
  split
  · rfl
  · rename_i g want hg
    rw [lget_eq]
    split
    · rename_i x hx
      split
      · rename_i e he
        have : d ≠ some e := fun e' => h e e' (looks_guard hg hx he)
        rw [lget_eq, lget_eq, putDst_ne this]
      · rfl
    · rfl

theorem POk.put {C : Ctx} {ng : Nat} {ops : Array Oper} {tm : List Value} {p : Pend} {o : Oper} (h : POk C ng ops tm p o) (d : Option Tmp) (v : Value)
    (hd : ∀ t, d = some t → t ∉ looks ops.toList o ∧ o.dst ≠ some t) : POk C ng ops (putDst tm d v) p o := by
  have hd1 : ∀ t, d = some t → t ∉ looks ops.toList o := fun t e => (hd t e).1
  refine { h with guard := (guardOk_put hd1).trans h.guard, slot := fun e he hlt => ?_, val := ?_ }
  · rw [putDst_ne (fun e' => (hd e e').2 he)]
    exact h.slot e he (by rw [putDst_len] at hlt; exact hlt)
  · rw [wantedL_put hd1, insP_congr (ev_put hd1)]
    simp only [quiet_congr (ev_put hd1)]
    exact h.val.imp id fun ⟨h1, h2⟩ => ⟨h1, h2.imp id fun h2 => h2.imp id fun h2 => h2.imp id fun ⟨h3, h4, t, a, y, b, x0, x1, e1, e2, e3, e4⟩ =>
      ⟨h3, h4, t, a, y, b, x0, x1, e1, e2, e3, by rw [ev_put hd1 a (by simp [e1, Op.operands]), ev_put hd1 y (by simp [e1, Op.operands])]; exact e4⟩⟩

theorem HInv.put {C : Ctx} {H : AHeap} {ops : Array Oper} {pend : List Pend} {D : Nat → Bool} {tm : List Value} (h : HInv C H ops pend D tm) (d : Option Tmp) (v : Value)
    (hd : ∀ p ∈ pend, ∀ o, ops[p.i]? = some o → ∀ t, d = some t → t ∉ looks ops.toList o) : HInv C H ops pend D (putDst tm d v) := by
  intro p hp hD o ho hw h1 h2 nx
  rw [wantedL_put (hd p hp o ho)] at hw
  rw [quiet_congr (ev_put (hd p hp o ho))]
  exact h p hp hD o ho hw h1 h2 nx

theorem apart_spec {ops : List Oper} {m : Nat} {o : Oper} : ∀ {pend : List Pend}, apart ops m o pend = true → ∀ p ∈ pend, ∀ q, ops[p.i]? = some q →
    (∀ d, q.dst = some d → d ∈ looks ops o → m.testBit p.i = true) ∧ (∀ d, o.dst = some d → d ∉ looks ops q ∧ q.dst ≠ some d)
  | [], _, p, hp, _, _ => by cases hp
  | x :: xs, h, p, hp, q, hq => by
    unfold apart at h
    rw [lget_eq] at h
    rcases List.mem_cons.1 hp with rfl | hp
    · rw [hq] at h
      simp only [Bool.and_eq_true] at h
      refine ⟨fun d hd hl => ?_, fun d hd => ?_⟩
      · have h1 := h.1.1
        rw [hd] at h1
        simp only [Bool.or_eq_true, Bool.not_eq_true'] at h1
        rcases h1 with h1 | h1
        · exact h1
        · rw [memN_iff.2 hl] at h1; cases h1
      · have h1 := h.1.2
        rw [hd] at h1
        simp only [Bool.and_eq_true, Bool.not_eq_true'] at h1
        refine ⟨fun hm => ?_, fun he => ?_⟩
        · rw [memN_iff.2 hm] at h1; cases h1.1
        · rw [he] at h1; simp [Nat.beq_refl] at h1
    · split at h
      · simp only [Bool.and_eq_true] at h
        exact apart_spec h.2 p hp q hq
      · cases h

theorem bor_beq {D : Nat → Bool} {c j : Nat} : (Nat.beq j c || D j) = false ↔ j ≠ c ∧ D j = false := by
  simp only [Bool.or_eq_false_iff]
  constructor
  · rintro ⟨h1, h2⟩; exact ⟨fun e => by (subst e; rw [Nat.beq_refl] at h1; cases h1), h2⟩
  · rintro ⟨h1, h2⟩
    refine ⟨?_, h2⟩
    cases hb : Nat.beq j c with
    | false => rfl
    | true => exact absurd (Nat.eq_of_beq_eq_true hb) h1
theorem bor_true {D : Nat → Bool} {c j : Nat} : (Nat.beq j c || D j) = true ↔ j = c ∨ D j = true := by
  simp only [Bool.or_eq_true]
  constructor
  · rintro (h | h)
    · exact .inl (Nat.eq_of_beq_eq_true h)
    · exact .inr h
  · rintro (h | h)
    · subst h; exact .inl (Nat.beq_refl _)
    · exact .inr h

theorem testBit_done {done i j : Nat} : (Nat.lor done (2 ^ i)).testBit j = (done.testBit j || decide (i = j)) := by
  rw [testBit_lor, Nat.testBit_two_pow]

/-- the late one has been carried out -/
theorem DInv.late {C : Ctx} {ng : Nat} {β : BM} {ops : Array Oper} {done : Nat} {pend : List Pend} {D : Nat → Bool} {tm : List Value} {tm' : Array Value}
    (h : DInv C ng β ops done pend D tm tm') {cur m : Nat} {o : Oper} (ho : ops[cur]? = some o) (hn : done.testBit cur = false) (ha : apart ops.toList m o pend = true)
    {v v' : Value} (hv : VR β v v') :
    DInv C ng β ops (Nat.lor done (2 ^ cur)) pend (fun j => Nat.beq j cur || D j) (putDst tm o.dst v) (putA tm' o.dst v') := by
  have hne : ∀ p ∈ pend, p.i ≠ cur := fun p hp e => by
    have := h.mem p hp
    rw [e, hn] at this; cases this
  have hap : ∀ p ∈ pend, ∀ q, ops[p.i]? = some q → ∀ t, o.dst = some t → t ∉ looks ops.toList q ∧ q.dst ≠ some t := fun p hp q hq t ht =>
    (apart_spec ha p hp q (by simpa using hq)).2 t ht
  refine ⟨?_, fun t => ?_, fun i hi => ?_, fun i hlt hi => ?_, fun p hp => ?_, h.nodup, fun p hp hD => ?_, h.rng, h.pair, h.ins, h.keys⟩
  · rw [putDst_len, putA_size]; exact h.len
  · rcases h.slot t with hs | ⟨p, hp, hD, q, hq, hqd⟩
    · exact .inl (VA.put h.len _ hv (.inr hs))
    · exact .inr ⟨p, hp, bor_beq.2 ⟨hne p hp, hD⟩, q, hq, hqd⟩
  · rw [testBit_done]
    rcases bor_true.1 hi with rfl | hi
    · simp
    · simp [h.sub i hi]
  · rw [testBit_done] at hi
    simp only [Bool.or_eq_true, decide_eq_true_eq] at hi
    rcases hi with hi | hi
    · rcases h.sup i hlt hi with hd | hp
      · exact .inl (bor_true.2 (.inr hd))
      · exact .inr hp
    · exact .inl (bor_true.2 (.inl hi.symm))
  · rw [testBit_done, h.mem p hp]; rfl
  · obtain ⟨q, hq⟩ := h.pok p hp (bor_beq.1 hD).2
    exact ⟨q, hq.put _ _ (hap p hp q hq.op)⟩

theorem BInv.same {β : BM} {H Hs : AHeap} {nx : Nat} {full pend : List Pend} {D D' : Nat → Bool} (h : BInv β H Hs nx full pend D) (h1 : ∀ p ∈ full, D' p.i = D p.i) (h2 : ∀ p ∈ pend, D' p.i = D p.i) :
    BInv β H Hs nx full pend D' := by
  have hf : (full.filter fun p => D' p.i) = full.filter fun p => D p.i := List.filter_congr fun p hp => h1 p hp
  intro p hp b x hx
  rw [hf, h2 p hp]
  exact h p hp b x hx

theorem range_drop {n k : Nat} {i : Nat} {r : List Nat} (h : (List.range n).drop k = i :: r) : i = k ∧ k < n ∧ r = (List.range n).drop (k + 1) := by
  have hlt : k < n := by
    rcases Nat.lt_or_ge k n with h' | h'
    · exact h'
    · rw [List.drop_eq_nil_of_le (by simpa using h')] at h; cases h
  have := List.drop_eq_getElem_cons (l := List.range n) (i := k) (by simpa using hlt)
  rw [this] at h
  simp at h
  exact ⟨h.1.symm, hlt, h.2.symm⟩

theorem finish_keeps (fr : Frame) (v : Value) : (fr.finish v).fn = fr.fn ∧ (fr.finish v).kind = fr.kind ∧ (fr.finish v).mode = fr.mode ∧ (fr.finish v).roundOf = fr.roundOf ∧ (fr.finish v).defers = fr.defers := by
  unfold Frame.finish
  split <;> exact ⟨rfl, rfl, rfl, rfl, rfl⟩

theorem FB.finish {β : BM} {fr fr2 : AFrame} {fr' : Frame} (h : FB β fr fr') (v : Value) (h1 : fr2.fn = fr.fn) (h2 : fr2.kind = fr.kind) (h3 : fr2.ret = fr.ret) (h4 : fr2.roundOf = fr.roundOf)
    (h5 : fr2.defers = fr.defers) : FB β fr2 (fr'.finish v) := by
  obtain ⟨k1, k2, k3, k4, k5⟩ := finish_keeps fr' v
  exact ⟨by rw [k1, h1]; exact h.fn, by rw [k2, h2]; exact h.kind, by rw [k3, h3]; exact h.mode, by rw [k4, h4]; exact h.round, by rw [k5, h5]; exact h.defers⟩

theorem FR.finish {C : Ctx} {ng : Nat} {β : BM} {H Hs : AHeap} {nx : Nat} {fr fr2 : AFrame} {fr' : Frame} (h : FR C ng β H Hs nx true fr fr') {v v' : Value}
    (hf : finish fr v = some fr2) (hv : VR β v v') : FR C ng β H Hs nx false fr2 (fr'.finish v') ∧ fblocks fr2 = fblocks fr := by
  obtain ⟨hb, ht⟩ := h
  obtain ⟨fn, tmps, todo, defers, ret, kind, round⟩ := fr
  obtain ⟨fn', tmps', todo', defers', mode', kind', round'⟩ := fr'
  simp only at ht
  cases ht with
  | norm h1 h2 =>
    cases h2 with
    | nil => simp [Abs.finish] at hf
    | cons hi hk =>
      cases hi with
      | inRegion k0 =>
        rename_i aops
        simp only [Abs.finish] at hf
        cases hd : aops.toList.drop k0 with
        | nil => rw [hd] at hf; simp at hf
        | cons o rest =>
          rw [hd] at hf
          simp only [Option.some.injEq] at hf
          subst hf
          have hlt : k0 < aops.size := by
            rcases Nat.lt_or_ge k0 aops.size with h' | h'
            · exact h'
            · rw [List.drop_eq_nil_of_le (by simpa using h')] at hd; cases hd
          have hd2 := List.drop_eq_getElem_cons (l := aops.toList) (i := k0) (by simpa using hlt)
          rw [hd2] at hd
          simp only [List.cons.injEq] at hd
          have hr := List.drop_eq_getElem_cons (l := List.range aops.size) (i := k0) (by simpa using hlt)
          simp only [List.getElem_range] at hr
          have ho : aops[k0]? = some o := by rw [Array.getElem?_eq_getElem hlt]; rw [← hd.1]; simp
          refine ⟨⟨hb.finish v' rfl rfl rfl rfl rfl, ?_⟩, by simp [fblocks]⟩
          rw [hr]
          simp only [Frame.finish, ho, Option.bind_some]
          have := LR.put h1 o.dst hv
          refine .norm ?_ (.cons ?_ hk)
          · cases hod : o.dst <;> (rw [hod] at this; simpa [putA] using this)
          · rw [← hd.2]; exact .inRegion (k0 + 1)
      | inRange hl =>
        simp only [Abs.finish, Option.some.injEq] at hf
        subst hf
        exact ⟨⟨hb.finish v' rfl rfl rfl rfl rfl, .norm h1 (.cons (.endRange hl) hk)⟩, by simp [fblocks]⟩
      | _ => simp [Abs.finish] at hf
  | dreg hr hd hk =>
    rename_i ops bef done cur pend chk l rest
    obtain ⟨rest', o, rfl, ho, hlate, hap⟩ := (hd.wait rfl).ex
    have hdn := (hd.wait rfl).done
    simp only [Abs.finish, lget_eq, Array.getElem?_toList, ho, Option.some.injEq] at hf
    subst hf
    refine ⟨⟨hb.finish v' rfl rfl rfl rfl rfl, ?_⟩, by simp [fblocks]⟩
    simp only [Frame.finish, ho, Option.bind_some]
    cases hd.ord with
    | cons hready hord =>
      obtain ⟨_, _, _, _, _⟩ := ready_spec hd.ec hd.size hready
      have hcl : cur < l.size := by rw [hd.size]; exact (Array.getElem?_eq_some_iff.1 ho).1
      have hD : dn (l.setIfInBounds cur true) = fun j => Nat.beq j cur || dn l j := funext fun j => dn_set hcl j
      have hne : ∀ p ∈ pend, p.i ≠ cur := fun p hp e => by
        have := hd.inv.mem p hp
        rw [e, hdn] at this; cases this
      have hsame : ∀ p ∈ pend, (Nat.beq p.i cur || dn l p.i) = dn l p.i := fun p hp => by
        have : Nat.beq p.i cur = false := by
          cases hb : Nat.beq p.i cur with
          | false => rfl
          | true => exact absurd (Nat.eq_of_beq_eq_true hb) (hne p hp)
        rw [this]; rfl
      have hinv := hd.inv.late ho hdn hap hv
      refine .dreg hr ⟨hd.bef, hd.back, by simpa using hd.size, ec_set hd.ec hd.size hready, hord, ?_, ?_, fun h => by (cases h), fun h => by cases h⟩ hk
      · rw [hD]
        cases hod : o.dst <;> (rw [hod] at hinv; simpa [putA] using hinv)
      · rw [hD]; exact hd.blk.same hsame hsame
end Go.Abs
