/-
  THE ABSTRACT MACHINE: its quiet operations, one by one: maps, lengths; all of them.
-/
import Derived.Test.YtahpijfhoopilaaGreatDoorAbsQ5
set_option linter.unusedSectionVars false
set_option linter.unusedVariables false
set_option linter.unusedSimpArgs false
namespace Go.Abs
open Go Go.RowKit
variable [Ops]

theorem ER.length {β : BM} {ex : Bool} {l : List (Value × Value × Nat)} {l' : List MapEntry} (h : ER β ex l l') : l.length = l'.length := by
  induction h with
  | nil => rfl
  | cons _ _ _ _ ih => simp [ih]

theorem MR.length {β : BM} {ex : Bool} {l : List (Value × Value × Nat)} {l' : List MapEntry} (h : MR β ex l l') : l.length = l'.length := by
  obtain ⟨es1, h1, _, h3⟩ := h
  rw [← h1.length_eq, h3.length]

theorem sameNow_of {kd : TypeDesc} {k k' : Value} (hk : keyD kd k = true) {r : Bool} (h : sameKey k k' = some r) : Instr.sameNow kd k k' = some r := by
  unfold keyD at hk
  split at hk
  · unfold sameKey at h
    unfold Instr.sameNow
    cases k' <;> simp_all
  · unfold sameKey at h
    unfold Instr.sameNow
    cases k' <;> simp_all
  · unfold sameKey at h
    unfold Instr.sameNow
    cases k' <;> simp_all
  · cases hk

theorem findU_perm {k : Value} {a b : List (Value × Value × Nat)} (h : a.Perm b) : ∀ {r : Option Value}, findU k a = some r → findU k b = some r := by
  induction h with
  | nil => exact fun h => h
  | cons x _ ih =>
    obtain ⟨k', v, n⟩ := x
    intro r hr
    simp only [findU] at hr ⊢
    rename_i l₁ l₂ _
    cases h1 : findU k l₁ with
    | none => simp [h1] at hr
    | some s => rw [ih h1]; rw [h1] at hr; exact hr
  | swap x y l =>
    obtain ⟨k1, v1, n1⟩ := x
    obtain ⟨k2, v2, n2⟩ := y
    intro r hr
    simp only [findU] at hr ⊢
    cases h1 : sameKey k k1 with
    | none => simp [h1] at hr
    | some b1 =>
      cases h2 : sameKey k k2 with
      | none => simp [h2] at hr
      | some b2 =>
        cases h3 : findU k l with
        | none => cases b1 <;> cases b2 <;> simp [h1, h2, h3] at hr
        | some s => cases b1 <;> cases b2 <;> cases s <;> simp_all
  | trans _ _ ih1 ih2 => exact fun h => ih2 (ih1 h)

theorem findU_sound {β : BM} {ex : Bool} {kd : TypeDesc} {k : Value} (hk : keyD kd k = true) {l : List (Value × Value × Nat)} {l' : List MapEntry} (h : ER β ex l l') :
    ∀ {r : Option Value} (i : Nat), findU k l = some r → ∃ r', Instr.findNow kd k l' i = some r' ∧ (match r, r' with | none, none => True | some v, some (_, v') => VR β v v' | _, _ => False) := by
  induction h with
  | nil => intro r i hr; simp [findU] at hr; subst hr; exact ⟨none, rfl, trivial⟩
  | cons hka hv hn hs ih =>
    intro r i hr
    simp only [findU] at hr
    split at hr
    · rename_i h1 h2
      cases hr
      exact ⟨some (i, _), by simp [Instr.findNow, sameNow_of hk h1], hv⟩
    · rename_i h1 h2
      cases hr
      obtain ⟨r', h3, h4⟩ := ih (i + 1) h2
      exact ⟨r', by simp [Instr.findNow, sameNow_of hk h1, h3], h4⟩
    · cases hr

section
variable {C : Ctx} (ok : C.Ok) {N0 : Nat} {w0 : World} {β : BM} {H : AHeap} {nx nh : Nat} {w : World} (h : HR C N0 w0 β H nh w) (hn : β nx = none)
variable {ρ ρ' : Operand → Value} {o : Oper} (hρ : ∀ x ∈ o.op.operands, VR β (ρ x) (ρ' x)) {v : Value} {x? : Option AObj}

theorem keyD_eq {kd : TypeDesc} {k k' : Value} (hk : keyD kd k = true) (hv : VR β k k') : k' = k := by
  unfold keyD at hk
  split at hk
  · exact hv.int_inv
  · exact hv.string_inv
  · exact hv.bool_inv
  · cases hk

include ok in
theorem run_checkKey {t : TypeId} {kd : TypeDesc} {k : Value} (hd : und C t = some kd) (hk : keyD kd k = true) (e : Bool) (n : Nat) : (Instr.checkKey e (n + 1) t k).run C.P w = .ok () w := by
  have hu := run_und ok w hd
  unfold keyD at hk
  split at hk <;> first | (simp [Instr.checkKey, hu]; done) | cases hk

include ok in
theorem run_findKey {t : TypeId} {kd : TypeDesc} {k : Value} (hd : und C t = some kd) {es' : List MapEntry} {r : Option (Nat × Value)} (hr : Instr.findNow kd k es' 0 = some r) : (Instr.findKey t k es').run C.P w = .ok r w := by
  simp [Instr.findKey, run_und ok w hd, hr]

/-- a map's entries, as the model reads them -/
theorem entries_sound (h : HR C N0 w0 β H nh w) {x x' : Value} (hx : VR β x x') {es : List (Value × Value × Nat)} (he : entriesOf H x = some es) :
    (x' = .map none ∧ es = []) ∨ ∃ k clock ex es', x' = .map (some k) ∧ w.heap[k]? = some (.map es' clock) ∧ MR β ex es es'.toList := by
  unfold entriesOf at he
  split at he
  · cases he; exact .inl ⟨hx.mnil_inv, rfl⟩
  · rename_i r
    obtain ⟨i, hi, e⟩ := hx.map_inv
    split at he
    · rename_i hg
      cases he
      obtain ⟨j, hj, es', h1, h2, h3, _⟩ := h.obj _ _ hg
      rw [hi] at hj
      cases hj
      exact .inr ⟨_, _, _, es', e, h1, h3⟩
    · cases he
  · cases he

include ok h hρ in
theorem q_lookup {t : TypeId} {x ix : Operand} {cok : Bool} (ho : o.op = .lookup t x ix cok) (hq : quiet C H nx ρ o = some (v, x?)) : QRes C N0 β nx w (execOp ρ' o) v x? := by
  have hx := hρ x (by simp [ho, Op.operands])
  have hi := hρ ix (by simp [ho, Op.operands])
  simp only [quiet, ho] at hq
  split at hq
  · rename_i kt e hd
    split at hq
    · rename_i kd hkd
      split at hq
      · rename_i z hk hz
        have ei := keyD_eq hk hi
        split at hq
        · rename_i es hes
          have main : ∃ es' : Array MapEntry, (∀ r, findU (ρ ix) es = some r → ∃ r', Instr.findNow kd (ρ ix) es'.toList 0 = some r' ∧ (match r, r' with | none, none => True | some v, some (_, v') => VR β v v' | _, _ => False)) ∧
              ((ρ' x = .map none ∧ es' = #[]) ∨ ∃ k clock, ρ' x = .map (some k) ∧ w.heap[k]? = some (.map es' clock)) := by
            rcases entries_sound h hx hes with ⟨e1, rfl⟩ | ⟨k, clock, ex, es', e1, e2, es1, hp, _, her⟩
            · refine ⟨#[], fun r hr => ?_, .inl ⟨e1, rfl⟩⟩
              exact findU_sound (β := β) (ex := true) hk .nil 0 hr
            · refine ⟨es', fun r hr => ?_, .inr ⟨k, clock, e1, e2⟩⟩
              exact findU_sound hk her 0 (findU_perm hp.symm hr)
          obtain ⟨es', hf, hm⟩ := main
          have hck : ∀ b, (Instr.checkKey b 10000 kt (ρ ix)).run C.P w = .ok () w := fun b => run_checkKey ok hkd hk b 9999
          have fin : ∀ r', Instr.findNow kd (ρ ix) es'.toList 0 = some r' → ∀ u, (match r' with | some (_, v) => u = (v, true) | none => u = (z, false)) →
              (execOp ρ' o).run C.P w = .ok (.value (if cok then .tuple #[u.1, .bool u.2] else u.1)) w := by
            intro r' hr' u hu
            have hfk := run_findKey (w := w) ok hkd hr'
            rcases hm with ⟨e1, e2⟩ | ⟨k, clock, e1, e2⟩
            · subst e2
              cases r' with
              | none => simp only at hu; subst hu; simp [execOp, ho, Instr.lookup, run_und ok w hd, e1, ei, hck, hfk, run_zero ok w hz]
              | some p => obtain ⟨n, u'⟩ := p; simp only at hu; subst hu; simp [execOp, ho, Instr.lookup, run_und ok w hd, e1, ei, hck, hfk]
            · have hgo : (getObj k).run C.P w = .ok (.map es' clock) w := by simp [getObj, Sem.run, e2]
              cases r' with
              | none => simp only at hu; subst hu; simp [execOp, ho, Instr.lookup, run_und ok w hd, e1, ei, hgo, hck, hfk, run_zero ok w hz]
              | some p => obtain ⟨n, u'⟩ := p; simp only at hu; subst hu; simp [execOp, ho, Instr.lookup, run_und ok w hd, e1, ei, hgo, hck, hfk]
          split at hq
          · rename_i u hu
            cases hq
            obtain ⟨r', h1, h2⟩ := hf _ hu
            cases r' with
            | none => exact h2.elim
            | some p =>
              obtain ⟨n, u'⟩ := p
              refine ⟨_, fin _ h1 (u', true) rfl, ?_⟩
              cases cok
              · exact h2
              · exact .tuple (.cons h2 (.cons (.atom rfl) .nil))
          · rename_i hu
            cases hq
            obtain ⟨r', h1, h2⟩ := hf _ hu
            cases r' with
            | some p => exact h2.elim
            | none =>
              refine ⟨_, fin _ h1 (z, false) rfl, ?_⟩
              cases cok
              · exact VR.of_af (zero_af hz)
              · exact .tuple (.cons (VR.of_af (zero_af hz)) (.cons (.atom rfl) .nil))
          · cases hq
        · cases hq
      · cases hq
    · cases hq
  · cases hq


include ok h hn hρ in
theorem q_range {t : TypeId} {x : Operand} (ho : o.op = .range t x) (hq : quiet C H nx ρ o = some (v, x?)) : QRes C N0 β nx w (execOp ρ' o) v x? := by
  have hx := hρ x (by simp [ho, Op.operands])
  simp only [quiet, ho] at hq
  have hp : VR (β.set nx ⟨w.heap.size, 0, 0, 0⟩) (ptr nx 0) (.pointer (some ⟨w.heap.size, 0, none⟩)) := VR.ptr (i := ⟨w.heap.size, 0, 0, 0⟩) (o := 0) (BM.set_same _ _ _)
  split at hq
  · rename_i kt e hd ex
    rw [ex] at hx
    cases hq
    refine ⟨_, .mapIter none 0 #[] 0, ⟨w.heap.size, 0, 0, 0⟩, ?_, rfl, hp, ⟨none, heap_alloc_new w _, h.n0, trivial, rfl⟩⟩
    simp [execOp, ho, Instr.range, run_und ok w hd, hx.mnil_inv]
  · rename_i kt e m hd ex
    rw [ex] at hx
    obtain ⟨i, hi, e'⟩ := hx.map_inv
    split at hq
    · rename_i es clock ex0 hg
      cases hq
      obtain ⟨j, hj, es', h1, h2, h3, _⟩ := h.obj _ _ hg
      rw [hi] at hj
      cases hj
      have hgo : (getObj i.blk).run C.P w = .ok (.map es' clock) w := by simp [getObj, Sem.run, h1]
      refine ⟨_, .mapIter (some i.blk) clock #[] clock, ⟨w.heap.size, 0, 0, 0⟩, ?_, rfl, hp, ⟨some i.blk, heap_alloc_new w _, h.n0, ⟨i, BM.le_set β _ hn _ _ hi, rfl⟩, rfl⟩⟩
      simp [execOp, ho, Instr.range, run_und ok w hd, e', hgo]
    · cases hq
  · cases hq

theorem MR.one {k u : Value} {born : Nat} {es' : List MapEntry} (hm : MR β true [(k, u, born)] es') : ∃ u', es' = [⟨k, u', born⟩] ∧ VR β u u' ∧ keyAtom k = true := by
  obtain ⟨es1, _, h2, h3⟩ := hm
  rw [h2 rfl] at h3
  cases h3 with
  | cons hk hv hb hs =>
    cases hs
    exact ⟨_, by rw [hb rfl], hv, hk⟩

include h hρ in
theorem q_entry {it : Operand} (ho : o.op = .entry it) (hq : quiet C H nx ρ o = some (v, x?)) : QRes C N0 β nx w (execOp ρ' o) v x? := by
  have hx := hρ it (by simp [ho, Op.operands])
  simp only [quiet, ho] at hq
  split at hq
  · rename_i r e
    rw [e] at hx
    obtain ⟨i, hi, e'⟩ := hx.ptr_inv
    split at hq
    · rename_i m since s stepped hg
      obtain ⟨j, hj, m', h1, h2, h3, hb0⟩ := h.obj _ _ hg
      rw [hi] at hj
      cases hj
      split at hq
      · rename_i k u born clock hgm
        split at hq
        · rename_i hb
          rw [Bool.and_eq_true] at hb
          have hb1 := Nat.eq_of_beq_eq_true hb.1
          have hb2 := Nat.eq_of_beq_eq_true hb.2
          subst hb1
          subst hb2
          cases hq
          obtain ⟨jm, hjm, es', h4, h5, h6, _⟩ := h.obj _ _ hgm
          obtain ⟨u', h7, h8, h9⟩ := h6.one
          cases m' with
          | none => exact h3.elim
          | some mb =>
            obtain ⟨jm', hjm', e3⟩ := h3
            rw [hjm] at hjm'
            cases hjm'
            subst e3
            have g1 : (getObj i.blk).run C.P w = .ok (.mapIter (some jm.blk) since [s].toArray clock) w := by simp [getObj, Sem.run, h1]
            have g2 : (getObj jm.blk).run C.P w = .ok (.map es' clock) w := by simp [getObj, Sem.run, h4]
            have hes : es' = #[⟨k, u', s⟩] := by apply Array.ext'; simpa using h7
            refine ⟨.tuple ⟨[k, u']⟩, ?_, .tuple (.cons (.atom (by cases k <;> simp [keyAtom] at h9 <;> rfl)) (.cons h8 .nil))⟩
            simp [execOp, ho, Instr.entry, e', hb0, g1, g2, hes]
        · cases hq
      · cases hq
    · rename_i k u hg
      cases hq
      obtain ⟨j, hj, mb, since, seen, stepped, es', stamp, en, h1, h2, h3, h4, h5, h6, h7, h8, h9, hb0⟩ := h.obj _ _ hg
      rw [hi] at hj
      cases hj
      have g1 : (getObj i.blk).run C.P w = .ok (.mapIter (some mb) since seen stepped) w := by simp [getObj, Sem.run, h1]
      have g2 : (getObj mb).run C.P w = .ok (.map es' stepped) w := by simp [getObj, Sem.run, h3]
      subst h7
      refine ⟨.tuple ⟨[en.key, en.val]⟩, ?_, .tuple (.cons (.atom (by cases he : en.key <;> rw [he] at h8 <;> simp [keyAtom] at h8 <;> rfl)) (.cons h9 .nil))⟩
      simp [execOp, ho, Instr.entry, e', hb0, g1, g2, h5, h6]
    · cases hq
  · cases hq


theorem usd_nil {ts : Array TypeId} {t : TypeId} {l c : Nat} : Builtin.unsafeSliceData_ ts t #[.slice none l c] = pure (.pointer none) := rfl
theorem usd_some {ts : Array TypeId} {t : TypeId} {a : Addr} {l c : Nat} (hc : c ≠ 0) : (Builtin.unsafeSliceData_ ts t #[.slice (some a) l c]).run C.P w = .ok (.pointer (some a)) w := by
  show Sem.run C.P (if c ≠ 0 then _ else _) w = _
  rw [if_pos hc]
  simp

theorem lget_zero {α : Type} {l : List α} {x : α} (hl : lget l 0 = some x) : ∃ xs, l = x :: xs := by
  cases l with
  | nil => simp [lget] at hl
  | cons y ys => simp [lget] at hl; subst hl; exact ⟨ys, rfl⟩

include ok h hρ in
theorem q_call {c : Call} (ho : o.op = .call c) (hq : quiet C H nx ρ o = some (v, x?)) : QRes C N0 β nx w (execOp ρ' o) v x? := by
  simp only [quiet, ho] at hq
  have hargs : ∀ x ∈ c.args.toList, VR β (ρ x) (ρ' x) := fun x hx => hρ x (by simp only [ho, Op.operands, Call.operands]; exact Array.mem_append.2 (.inr (by simpa using hx)))
  split at hq
  · -- len
    rename_i hc
    split at hq
    · rename_i x t hx ht
      obtain ⟨xs, hxs⟩ := lget_zero hx
      obtain ⟨ts, hts⟩ := lget_zero ht
      have hv := hargs x (by simp [hxs])
      have e1 : (c.args.map ρ')[0]? = some (ρ' x) := by rw [Array.getElem?_map, ← Array.getElem?_toList, hxs]; rfl
      have e2 : c.argTypes[0]? = some t := by rw [← Array.getElem?_toList, hts]; rfl
      have hrun : ∀ n : Nat, (Builtin.len_ c.argTypes o.type (c.args.map ρ')).run C.P w = .ok (goInt n) w → (execOp ρ' o).run C.P w = .ok (.value (goInt n)) w := fun n hn => by
        simp [execOp, ho, hc, resolve, invoke, builtin, hn]
      split at hq
      · rename_i el p n cc hd ex
        rw [ex] at hv
        cases hq
        refine ⟨goInt n, hrun n ?_, .atom rfl⟩
        cases p with
        | none => obtain ⟨rfl, rfl, e'⟩ := hv.snil_inv; simp [Builtin.len_, e1, e2, run_und ok w hd, e']
        | some p => obtain ⟨_, _, e'⟩ := hv.slc_any; simp [Builtin.len_, e1, e2, run_und ok w hd, e']
      · rename_i s hd ex
        rw [ex] at hv
        cases hq
        refine ⟨goInt s.size, hrun _ ?_, .atom rfl⟩
        simp [Builtin.len_, e1, e2, run_und ok w hd, hv.string_inv]
      · rename_i kt el hd ex
        rw [ex] at hv
        cases hq
        refine ⟨goInt 0, hrun 0 ?_, .atom rfl⟩
        simp [Builtin.len_, e1, e2, run_und ok w hd, hv.mnil_inv]
      · rename_i kt el r hd ex
        rw [ex] at hv
        obtain ⟨i, hi, e'⟩ := hv.map_inv
        split at hq
        · rename_i es clock ex2 hg
          cases hq
          obtain ⟨j, hj, es', h1, h2, h3, _⟩ := h.obj _ _ hg
          rw [hi] at hj
          cases hj
          have g1 : (getObj i.blk).run C.P w = .ok (.map es' clock) w := by simp [getObj, Sem.run, h1]
          have hl := h3.length
          refine ⟨goInt es.length, hrun es.length ?_, ?_⟩
          · simp [Builtin.len_, e1, e2, run_und ok w hd, e', g1]
            rw [hl]; simp
          · rw [llen_eq]; exact .atom rfl
        · cases hq
      · cases hq
    · cases hq
  · rename_i hc
    split at hq
    · rename_i x t hx ht
      obtain ⟨xs, hxs⟩ := lget_zero hx
      obtain ⟨ts, hts⟩ := lget_zero ht
      have hv := hargs x (by simp [hxs])
      have e1 : (c.args.map ρ')[0]? = some (ρ' x) := by rw [Array.getElem?_map, ← Array.getElem?_toList, hxs]; rfl
      have e2 : c.argTypes[0]? = some t := by rw [← Array.getElem?_toList, hts]; rfl
      split at hq
      · rename_i el p l n hd ex
        split at hq
        · rename_i hop
          have hop : n < OPEN := Nat.le_of_ble_eq_true hop
          rw [ex] at hv
          cases hq
          refine ⟨goInt n, ?_, .atom rfl⟩
          cases p with
          | none => obtain ⟨rfl, rfl, e'⟩ := hv.snil_inv; simp [execOp, ho, hc, resolve, invoke, builtin, Builtin.cap_, e1, e2, run_und ok w hd, e']
          | some p =>
            rcases hv.slc_inv with ⟨_, _, _, _, _, _, hcap, e'⟩ | ⟨_, hcO, _⟩
            rotate_left
            · omega
            rcases hcap with ⟨_, h2⟩ | ⟨h2, _⟩
            · subst h2; simp [execOp, ho, hc, resolve, invoke, builtin, Builtin.cap_, e1, e2, run_und ok w hd, e']
            · omega
        · cases hq
      · cases hq
    · cases hq
  · split at hq
    · rename_i ha
      exact pureQ_sound (x? := x?) (fun cs b => by simp [ho]) hρ (fun z hz => by
        rw [List.all_eq_true] at ha
        exact ha z (by simpa [ho] using hz)) hq
    · cases hq
  · split at hq
    · rename_i ha
      exact pureQ_sound (x? := x?) (fun cs b => by simp [ho]) hρ (fun z hz => by
        rw [List.all_eq_true] at ha
        exact ha z (by simpa [ho] using hz)) hq
    · cases hq
  · rename_i hc
    split at hq
    · rename_i x hx
      have hv := hargs x (by simp [hx])
      have e1 : c.args.map ρ' = #[ρ' x] := by apply Array.ext'; simp [hx]
      split at hq
      · rename_i b off n cc ex
        rw [ex] at hv
        cases hq
        obtain ⟨i, c', hb, hcap, e'⟩ := hv.slice_inv
        refine ⟨_, ?_, VR.ptr hb⟩
        have hc0 : c' ≠ 0 := by
          rcases hcap with ⟨_, h2⟩ | ⟨_, h2, _⟩ <;> omega
        simp [execOp, ho, hc, resolve, invoke, builtin, e1, e', usd_some hc0]
      · rename_i ex
        rw [ex] at hv
        cases hq
        obtain ⟨_, _, e'⟩ := hv.snil_inv
        refine ⟨.pointer none, ?_, .atom rfl⟩
        simp [execOp, ho, hc, resolve, invoke, builtin, usd_nil, e1, e']
      · cases hq
    · cases hq
  · cases hq


include ok h hn hρ in
/-- EVERY QUIET OPERATION. -/
theorem quiet_sound (hq : quiet C H nx ρ o = some (v, x?)) : QRes C N0 β nx w (execOp ρ' o) v x? := by
  cases ho : o.op with
  | move x => exact q_move hρ (.inl ho) hq
  | assign x => exact q_move hρ (.inr ho) hq
  | pick c a b => exact q_pick hρ ho hq
  | alloc e => exact q_alloc ok h hn ho hq
  | box e x => exact q_box h hn hρ ho hq
  | build t parts => exact q_build ok hρ ho hq
  | buildSlice t len parts => exact q_buildSlice ok h hn hρ ho hq
  | load t a => exact q_load ok h hρ ho hq
  | nilCheck x => exact q_nilCheck hρ ho hq
  | binOp op t x y u => exact q_binOp ok hρ ho hq
  | unOp op t x => exact q_unOp hρ ho hq
  | index t x ix => exact q_index hρ ho hq
  | convert s d x => exact q_convert ok h hρ ho hq
  | fieldAddr s x f => exact q_fieldAddr ok hρ ho hq
  | field t x f => exact q_field ok hρ ho hq
  | indexAddr t x ix => exact q_indexAddr ok hρ ho hq
  | slice t x lo hi mx => exact q_slice ok h hρ ho hq
  | extract x ix => exact q_extract hρ ho hq
  | makeFunc fn a c => exact q_makeFunc hρ ho hq
  | makeInterface t x => exact q_makeInterface ok hρ ho hq
  | makeMap t r => exact q_makeMap h ho hq
  | makeSlice t l c => exact q_makeSlice ok h hn hρ ho hq
  | lookup t x ix cok => exact q_lookup ok h hρ ho hq
  | range t x => exact q_range ok h hn hρ ho hq
  | entry it => exact q_entry h hρ ho hq
  | call c => exact q_call ok h hρ ho hq
  | _ => simp [quiet, ho] at hq

end
end Go.Abs
