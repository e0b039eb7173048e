/-
  THE ABSTRACT MACHINE: its other operations: maps; all of them.
-/
import Derived.Test.YtahpijfhoopilaaGreatDoorAbsEff
import Derived.Lib.UnsafeStr
import Derived.Laws.BytesString
set_option linter.unusedSectionVars false
set_option linter.unusedVariables false
set_option linter.unusedSimpArgs false
namespace Go.Abs
open Go Go.RowKit
variable [Ops]

theorem ba_beq (a b : ByteArray) : (a == b) = (a.data == b.data) := by
  cases a; cases b; rfl
theorem ba_eq {a b : ByteArray} (h : (a == b) = true) : a = b := by
  rw [ba_beq] at h
  cases a; cases b
  simp at h
  rw [h]
theorem ba_refl (a : ByteArray) : (a == a) = true := by
  rw [ba_beq]; simp

theorem sameKey_eq {k k' : Value} {r : Bool} (h : sameKey k k' = some r) : r = true → k' = k := by
  unfold sameKey at h
  split at h
  · split at h
    · rename_i e; subst e; cases h; intro e; simp at e; rw [e]
    · cases h
  · cases h; intro e; rw [ba_eq e]
  · cases h; intro e; simp at e; rw [e]
  · cases h

theorem findK_sound {β : BM} {kd : TypeDesc} {k : Value} (hk : keyD kd k = true) {l : List (Value × Value × Nat)} {l' : List MapEntry} (h : ER β true l l') :
    ∀ {r : Option (Nat × Value)} (i : Nat), findK k l i = some r → ∃ r', Instr.findNow kd k l' i = some r' ∧
      (match r, r' with | none, none => True | some (n, v), some (m, v') => n = m ∧ i ≤ n ∧ VR β v v' ∧ ∃ q, l[n - i]? = some (k, v, q) ∧ l'[n - i]? = some ⟨k, v', q⟩ | _, _ => False) := by
  induction h with
  | nil => intro r i hr; simp [findK] at hr; subst hr; exact ⟨none, rfl, trivial⟩
  | @cons k0 v0 v0' n0 n0' l0 l0' hka hv hn hs ih =>
    intro r i hr
    simp only [findK] at hr
    split at hr
    · rename_i h1
      cases hr
      have e := sameKey_eq h1 rfl
      subst e
      exact ⟨some (i, v0'), by simp [Instr.findNow, sameNow_of hk h1], rfl, Nat.le_refl _, hv, n0, by simp, by simp [hn rfl]⟩
    · rename_i h1
      obtain ⟨r', h3, h4⟩ := ih (i + 1) hr
      refine ⟨r', by simp [Instr.findNow, sameNow_of hk h1, h3], ?_⟩
      cases r with
      | none => cases r' with
        | none => trivial
        | some _ => exact h4.elim
      | some p =>
        cases r' with
        | none => exact h4.elim
        | some p' =>
          obtain ⟨n, v⟩ := p
          obtain ⟨m, v'⟩ := p'
          obtain ⟨h5, h6, h7, q, h8, h9⟩ := h4
          refine ⟨h5, by omega, h7, q, ?_, ?_⟩
          · rw [show n - i = (n - (i + 1)) + 1 from by omega]; simpa using h8
          · rw [show n - i = (n - (i + 1)) + 1 from by omega]; simpa using h9
    · cases hr

theorem ER.append {β : BM} {ex : Bool} {a b : List (Value × Value × Nat)} {a' b' : List MapEntry} (h : ER β ex a a') (h' : ER β ex b b') : ER β ex (a ++ b) (a' ++ b') := by
  induction h with
  | nil => exact h'
  | cons hk hv hn _ ih => exact .cons hk hv hn ih

theorem ER.set {β : BM} {ex : Bool} {a : List (Value × Value × Nat)} {a' : List MapEntry} (h : ER β ex a a') {k v v' : Value} {n n' : Nat} (hk : keyAtom k = true) (hv : VR β v v') (hn : ex = true → n' = n) :
    ∀ i, ER β ex (a.set i (k, v, n)) (a'.set i ⟨k, v', n'⟩) := by
  induction h with
  | nil => intro i; simp; exact .nil
  | cons hk' hv' hn' hs ih =>
    intro i
    cases i with
    | zero => simp; exact .cons hk hv hn hs
    | succ i => simp; exact .cons hk' hv' hn' (ih i)

section
variable {C : Ctx} (ok : C.Ok) {N0 : Nat} {w0 : World} {β : BM} {H : AHeap} {nx : Nat} {w : World}
variable (h : HR C N0 w0 β H nx w) (hnx : nx < LIMIT) {ρ ρ' : Operand → Value} {o : Oper} (hρ : ∀ x ∈ o.op.operands, VR β (ρ x) (ρ' x)) {e : Eff}

theorem keyD_atom {kd : TypeDesc} {k : Value} (hk : keyD kd k = true) : keyAtom k = true := by
  unfold keyD at hk
  split at hk <;> first | rfl | cases hk

/-- a block that is no cells is another one -/
theorem setObj_sound (h : HR C N0 w0 β H nx w) (hnx : nx < LIMIT) {b : Nat} {x x' : AObj} {i : BI} (hg : H.get b = some x) (hb : β b = some i) (hN : N0 ≤ i.blk) {ob : Obj} (hob : w.heap[i.blk]? = some ob)
    (hnc : ∀ c t f, ob ≠ .cells c t f) (ob' : Obj) (ho : ∀ w' : World, w'.heap[i.blk]? = some ob' → OR C N0 β w' i x') :
    ∃ w', (setObj i.blk ob').run C.P w = .ok () w' ∧ HR C N0 w0 β (Abs.hput H b x') nx w' := by
  have hlt := h.lt _ _ hb
  have hrun : (setObj i.blk ob').run C.P w = .ok () { w with heap := w.heap.setIfInBounds i.blk ob' } := by
    cases ob <;> first | exact absurd rfl (hnc _ _ _) | (simp only [setObj, Sem.run, hob]; done)
  refine ⟨_, hrun, h.update hnx hg hb (by simp) (fun k hk => ?_) ⟨rfl, rfl, rfl, by simp, fun k hk => ?_⟩ (ho _ ?_)⟩
  · show (w.heap.setIfInBounds i.blk ob')[k]? = _
    rw [Array.getElem?_setIfInBounds]
    exact if_neg (fun e => hk e.symm)
  · show (w.heap.setIfInBounds i.blk ob')[k]? = _
    rw [Array.getElem?_setIfInBounds]
    exact if_neg (by omega)
  · show (w.heap.setIfInBounds i.blk ob')[i.blk]? = _
    simp [hlt]

theorem sameBits_refl {k : Value} (hk : keyAtom k = true) (n : Nat) : Instr.sameBits n k k = true := by
  cases k <;> simp [keyAtom] at hk <;> simp [Instr.sameBits, ba_refl]

include ok h hnx in
theorem mapPut_sound {t : TypeId} {m k x m' k' x' : Value} (hm : VR β m m') (hk : VR β k k') (hx : VR β x x') (hq : mapPut C H nx t m k x = some e) :
    ∃ H', e = .val undef H' nx ∧ ∃ w', (Instr.mapUpdate t m' k' x').run C.P w = .ok () w' ∧ HR C N0 w0 β H' nx w' := by
  unfold mapPut at hq
  split at hq
  · rename_i kt el r hd
    obtain ⟨i, hi, e'⟩ := hm.map_inv
    split at hq
    · rename_i kd es clock hkd hg
      obtain ⟨j, hj, es', h1, h2, ⟨es1, hp, hp2, her⟩, hbo⟩ := h.obj _ _ hg
      rw [hi] at hj
      cases hj
      rw [hp2 rfl] at her
      split at hq
      · rename_i hkD
        have ek := keyD_eq hkD hk
        subst ek
        have hck : (Instr.checkKey false 10000 kt k').run C.P w = .ok () w := run_checkKey ok hkd hkD false 9999
        have hgo : (getObj i.blk).run C.P w = .ok (.map es' clock) w := by simp [getObj, Sem.run, h1]
        split at hq
        · -- a new key
          rename_i hf
          cases hq
          obtain ⟨r', h3, h4⟩ := findK_sound hkD her 0 hf
          cases r' with
          | some _ => exact h4.elim
          | none =>
            have hfk := run_findKey (w := w) ok hkd h3
            obtain ⟨w', h5, h6⟩ := setObj_sound (x' := .map (es ++ [(k', x, clock)]) (clock + 1) true) h hnx hg hi h2 h1 (fun _ _ _ e => by cases e) (.map (es'.push { key := k', val := x', born := clock }) (clock + 1))
              (fun w' hw' => ⟨_, hw', h2, ⟨es ++ [(k', x, clock)], .refl _, fun _ => rfl, by rw [Array.toList_push]; exact her.append (.cons (keyD_atom hkD) hx (fun _ => rfl) .nil)⟩, by rw [Array.toList_push]; exact hbo.push _ _⟩)
            exact ⟨_, rfl, w', by simp [Instr.mapUpdate, run_und ok w hd, e', hgo, hck, hfk, h5], h6⟩
        · rename_i n v hf
          split at hq
          · rename_i k2 v2 born hl
            cases hq
            obtain ⟨r', h3, h4⟩ := findK_sound hkD her 0 hf
            cases r' with
            | none => exact h4.elim
            | some p =>
              obtain ⟨m2, v'⟩ := p
              obtain ⟨rfl, _, h7, q, h8, h9⟩ := h4
              simp only [Nat.sub_zero] at h8 h9
              rw [lget_eq, h8] at hl
              cases hl
              have hfk := run_findKey (w := w) ok hkd h3
              have hes' : es'[n]? = some ⟨k', v', born⟩ := by simpa using h9
              have hlt : n < es'.size := by
                rcases Nat.lt_or_ge n es'.size with h | h
                · exact h
                · rw [Array.getElem?_eq_none h] at hes'; cases hes'
              have emod : (es'.modify n fun e => { e with key := k', val := x' }).toList = es'.toList.set n ⟨k', x', born⟩ := by
                rw [Array.toList_modify]
                apply List.ext_getElem?
                intro j
                rw [List.getElem?_modify, List.getElem?_set]
                by_cases e : n = j
                · subst e
                  simp [hlt]
                  rw [Array.getElem?_eq_getElem hlt] at hes'
                  have := Option.some.inj hes'
                  rw [this]
                · simp [e]
              obtain ⟨w', h5, h6⟩ := setObj_sound (x' := .map (lset (k', x, born) es n) clock true) h hnx hg hi h2 h1 (fun _ _ _ e => by cases e) (.map (es'.modify n fun e => { e with key := k', val := x' }) clock)
                (fun w' hw' => ⟨_, hw', h2, ⟨lset (k', x, born) es n, .refl _, fun _ => rfl, by rw [emod, lset_eq]; exact her.set (keyD_atom hkD) hx (fun _ => rfl) n⟩, hbo.of_map (by
                  rw [emod]
                  have hl : es'.toList[n]? = some ⟨k', v', born⟩ := by simpa using hes'
                  apply List.ext_getElem?
                  intro j
                  rw [List.getElem?_map, List.getElem?_map, List.getElem?_set]
                  by_cases e : n = j
                  · subst e; rw [hl]; simp [hlt]
                  · simp [e])⟩)
              refine ⟨_, rfl, w', ?_, h6⟩
              have hkst : (Instr.keyThatStays k' k').run C.P w = .ok k' w := by simp [Instr.keyThatStays, sameBits_refl (keyD_atom hkD)]
              simp [Instr.mapUpdate, run_und ok w hd, e', hgo, hck, hfk, hes', hkst, h5]
          · cases hq
        · cases hq
      · cases hq
    · cases hq
  · cases hq


include ok h hnx hρ in
theorem e_mapPut {t : TypeId} {m k x : Operand} (ho : o.op = .mapUpdate t m k x ∨ o.op = .insert t m k x) (hq : effect C H nx ρ o = some e) : ERes C N0 w0 β nx w (execOp ρ' o) e := by
  have hm := hρ m (by rcases ho with ho | ho <;> simp [ho, Op.operands])
  have hk := hρ k (by rcases ho with ho | ho <;> simp [ho, Op.operands])
  have hx := hρ x (by rcases ho with ho | ho <;> simp [ho, Op.operands])
  have hq' : mapPut C H nx t (ρ m) (ρ k) (ρ x) = some e := by rcases ho with ho | ho <;> simpa [effect, ho] using hq
  obtain ⟨H', rfl, w', h1, h2⟩ := mapPut_sound ok h hnx hm hk hx hq'
  refine ⟨.skip, undef, w', β, ?_, .inr ⟨rfl, rfl⟩, BM.ext_refl _ _, h2, VR.undef⟩
  rcases ho with ho | ho <;> simp [execOp, ho, h1]

theorem ER.erase {β : BM} {ex : Bool} {l : List (Value × Value × Nat)} {l' : List MapEntry} (h : ER β ex l l') : ∀ n, ER β ex (lerase l n) (l'.eraseIdx n) := by
  induction h with
  | nil => intro n; simp only [lerase, List.eraseIdx_nil]; exact .nil
  | cons hk hv hn hs ih =>
    intro n
    cases n with
    | zero => exact hs
    | succ n => exact .cons hk hv hn (ih n)
theorem BornOk.erase {clock : Nat} {es : List MapEntry} (h : BornOk clock es) (n : Nat) : BornOk clock (es.eraseIdx n) :=
  ⟨fun e he => h.1 e ((List.eraseIdx_sublist es n).subset he), ((List.eraseIdx_sublist es n).map (·.born)).nodup h.2⟩

include ok h hnx in
theorem mapDel_sound {t : TypeId} {m k m' k' : Value} (hm : VR β m m') (hk : VR β k k') (hq : mapDel C H nx t m k = some e) {ts : Array TypeId} {ty : TypeId} (ht : ts[0]? = some t) :
    ∃ H', e = .val undef H' nx ∧ ∃ w', (Builtin.delete_ ts ty #[m', k']).run C.P w = .ok (.tuple #[]) w' ∧ HR C N0 w0 β H' nx w' := by
  unfold mapDel at hq
  split at hq
  · rename_i kt el r hd
    obtain ⟨i, hi, e'⟩ := hm.map_inv
    split at hq
    · rename_i kd es clock hkd hg
      obtain ⟨j, hj, es', h1, h2, ⟨es1, hp, hp2, her⟩, hbo⟩ := h.obj _ _ hg
      rw [hi] at hj
      cases hj
      rw [hp2 rfl] at her
      split at hq
      · rename_i hkD
        have ek := keyD_eq hkD hk
        subst ek
        have hck : ∀ b, (Instr.checkKey b 10000 kt k').run C.P w = .ok () w := fun b => run_checkKey ok hkd hkD b 9999
        have hgo : (getObj i.blk).run C.P w = .ok (.map es' clock) w := by simp [getObj, Sem.run, h1]
        split at hq
        · rename_i hf
          cases hq
          obtain ⟨r', h3, h4⟩ := findK_sound hkD her 0 hf
          cases r' with
          | some _ => exact h4.elim
          | none =>
            have hfk := run_findKey (w := w) ok hkd h3
            obtain ⟨w', h5, h6⟩ := setObj_sound (x' := .map es clock true) h hnx hg hi h2 h1 (fun _ _ _ e => by cases e) (.map es' clock) (fun w' hw' => ⟨_, hw', h2, ⟨es, .refl _, fun _ => rfl, her⟩, hbo⟩)
            exact ⟨_, rfl, w', by simp [Builtin.delete_, ht, run_und ok w hd, e', hgo, hck, hfk, h5], h6⟩
        · rename_i n v hf
          cases hq
          obtain ⟨r', h3, h4⟩ := findK_sound hkD her 0 hf
          cases r' with
          | none => exact h4.elim
          | some p =>
            obtain ⟨m2, v'⟩ := p
            obtain ⟨rfl, _, h7, q, h8, h9⟩ := h4
            have hfk := run_findKey (w := w) ok hkd h3
            have her2 : (es'.eraseIdxIfInBounds n).toList = es'.toList.eraseIdx n := by simp
            obtain ⟨w', h5, h6⟩ := setObj_sound (x' := .map (lerase es n) clock true) h hnx hg hi h2 h1 (fun _ _ _ e => by cases e) (.map (es'.eraseIdxIfInBounds n) clock)
              (fun w' hw' => ⟨_, hw', h2, ⟨lerase es n, .refl _, fun _ => rfl, by rw [her2]; exact her.erase n⟩, by rw [her2]; exact hbo.erase n⟩)
            exact ⟨_, rfl, w', by simp [Builtin.delete_, ht, run_und ok w hd, e', hgo, hck, hfk, h5], h6⟩
        · cases hq
      · cases hq
    · cases hq
  · cases hq

include ok h hnx hρ in
theorem e_delete {c : Call} (ho : o.op = .call c) (hc : c.callee = .builtin .delete) (hq : effect C H nx ρ o = some e) : ERes C N0 w0 β nx w (execOp ρ' o) e := by
  have hargs : ∀ x ∈ c.args.toList, VR β (ρ x) (ρ' x) := fun x hx => hρ x (by simp only [ho, Op.operands, Call.operands]; exact Array.mem_append.2 (.inr (by simpa using hx)))
  simp only [effect, ho, hc] at hq
  split at hq
  · rename_i m k t ts hx ht
    have e1 : c.args.map ρ' = #[ρ' m, ρ' k] := by apply Array.ext'; simp [hx]
    have e2 : c.argTypes[0]? = some t := by rw [← Array.getElem?_toList, ht]; rfl
    obtain ⟨H', rfl, w', h1, h2⟩ := mapDel_sound ok h hnx (hargs m (by simp [hx])) (hargs k (by simp [hx])) hq (ty := o.type) e2
    have h1' : (Builtin.delete_ c.argTypes o.type #[ρ' m, ρ' k]).run C.P w = .ok Go.undef w' := h1
    exact ⟨_, _, w', β, by simp [execOp, ho, hc, resolve, invoke, builtin, e1, h1'], .inl rfl, BM.ext_refl _ _, h2, VR.undef⟩
  · cases hq

theorem MR.nil_inv {es' : List MapEntry} (hm : MR β true [] es') : es' = [] := by
  obtain ⟨es1, _, h2, h3⟩ := hm
  rw [h2 rfl] at h3
  cases h3
  rfl

include h hnx hρ in
theorem e_next {it : Operand} {b : Bool} (ho : o.op = .next it b) (hq : effect C H nx ρ o = some e) : ERes C N0 w0 β nx w (execOp ρ' o) e := by
  have hx := hρ it (by simp [ho, Op.operands])
  cases b with
  | true => simp [effect, ho] at hq
  | false =>
    simp only [effect, ho] at hq
    split at hq
    · rename_i r e0
      rw [e0] at hx
      obtain ⟨i, hi, e'⟩ := hx.ptr_inv
      split at hq
      · rename_i since seen stepped hg
        obtain ⟨j, hj, m', h1, h2, h3, hb0⟩ := h.obj _ _ hg
        rw [hi] at hj
        cases hj
        cases hq
        cases m' with
        | some _ => exact h3.elim
        | none =>
          have g1 : (getObj i.blk).run C.P w = .ok (.mapIter none since seen.toArray stepped) w := by simp [getObj, Sem.run, h1]
          exact ⟨_, _, w, β, by simp [execOp, ho, Instr.next, e', hb0, g1], .inl rfl, BM.ext_refl _ _, h, .tuple (.cons (.atom rfl) .nil)⟩
      · rename_i m since seen stepped hg
        obtain ⟨j, hj, m', h1, h2, h3, hb0⟩ := h.obj _ _ hg
        rw [hi] at hj
        cases hj
        cases m' with
        | none => exact h3.elim
        | some mb =>
          obtain ⟨jm, hjm, rfl⟩ := h3
          have g1 : (getObj i.blk).run C.P w = .ok (.mapIter (some jm.blk) since seen.toArray stepped) w := by simp [getObj, Sem.run, h1]
          split at hq
          · rename_i clock hgm
            cases hq
            obtain ⟨jm', hjm', es', h4, h5, h6, _⟩ := h.obj _ _ hgm
            rw [hjm] at hjm'
            cases hjm'
            have hes : es' = #[] := by apply Array.ext'; simpa using h6.nil_inv
            have g2 : (getObj jm.blk).run C.P w = .ok (.map es' clock) w := by simp [getObj, Sem.run, h4]
            refine ⟨_, _, w, β, ?_, .inl rfl, BM.ext_refl _ _, h, .tuple (.cons (.atom rfl) .nil)⟩
            simp [execOp, ho, Instr.next, e', hb0, g1, g2, hes, Question.forced]
          · rename_i k u born clock hgm
            obtain ⟨jm', hjm', es', h4, h5, h6, _⟩ := h.obj _ _ hgm
            rw [hjm] at hjm'
            cases hjm'
            obtain ⟨u', h7, h8, h9⟩ := h6.one
            have hes : es' = #[⟨k, u', born⟩] := by apply Array.ext'; simpa using h7
            have g2 : (getObj jm.blk).run C.P w = .ok (.map es' clock) w := by simp [getObj, Sem.run, h4]
            split at hq
            · split at hq
              · rename_i hlt
                have hlt : born < since := Nat.le_of_ble_eq_true hlt
                cases hq
                obtain ⟨w', h10, h11⟩ := setObj_sound (x' := .miter (some m) since [born] clock) h hnx hg hi h2 h1 (fun _ _ _ e => by cases e) (.mapIter (some jm.blk) since #[born] clock)
                  (fun w' hw' => ⟨_, hw', h2, ⟨jm, hjm, rfl⟩, hb0⟩)
                have hnle : (since ≤ born) = False := eq_false (by omega)
                have hlt2 : (born < since) = True := eq_true hlt
                refine ⟨_, .tuple ⟨[.bool true, k, u']⟩, w', β, ?_, .inl rfl, BM.ext_refl _ _, h11, .tuple (.cons (.atom rfl) (.cons (.atom (by cases k <;> simp [keyAtom] at h9 <;> rfl)) (.cons h8 .nil)))⟩
                simp [execOp, ho, Instr.next, e', hb0, g1, g2, hes, Question.forced, hnle, hlt2, h10]
              · cases hq
            · rename_i s
              split at hq
              · rename_i hc
                rw [Bool.and_eq_true] at hc
                have hc1 := Nat.eq_of_beq_eq_true hc.1
                have hc2 : born < stepped := Nat.le_of_ble_eq_true hc.2
                subst hc1
                cases hq
                refine ⟨_, _, w, β, ?_, .inl rfl, BM.ext_refl _ _, h, .tuple (.cons (.atom rfl) .nil)⟩
                simp [execOp, ho, Instr.next, e', hb0, g1, g2, hes, Question.forced, hc2]
              · cases hq
            · cases hq
          · cases hq
      · cases hq
    · cases hq


include ok hρ h in
theorem e_copy {c : Call} (ho : o.op = .call c) (hc : c.callee = .builtin .copy) (hq : effect C H nx ρ o = some e) : ERes C N0 w0 β nx w (execOp ρ' o) e := by
  have hargs : ∀ x ∈ c.args.toList, VR β (ρ x) (ρ' x) := fun x hx => hρ x (by simp only [ho, Op.operands, Call.operands]; exact Array.mem_append.2 (.inr (by simpa using hx)))
  simp only [effect, ho, hc] at hq
  split at hq
  · rename_i d x t ts hx ht
    have hd := hargs d (by simp [hx])
    have hxx := hargs x (by simp [hx])
    have e1 : c.args.map ρ' = #[ρ' d, ρ' x] := by apply Array.ext'; simp [hx]
    have e2 : c.argTypes[0]? = some t := by rw [← Array.getElem?_toList, ht]; rfl
    split at hq
    · rename_i el base len cc n hdt ed hn
      split at hq
      · rename_i sz hsz hmin
        cases hq
        have hlen := srcLen_sound (C := C) (w := w) hxx hn
        have hbase : ∃ base' cc', ρ' d = .slice base' len cc' := by
          rw [ed] at hd
          cases base with
          | none => obtain ⟨rfl, rfl, e'⟩ := hd.snil_inv; exact ⟨_, _, e'⟩
          | some p => obtain ⟨_, _, e'⟩ := hd.slc_any; exact ⟨_, _, e'⟩
        obtain ⟨base', cc', e3⟩ := hbase
        have hfc : (Builtin.firstCells sz 0 (ρ' x)).run C.P w = .ok #[] w := by
          unfold srcLen at hn
          split at hn
          · rename_i a l c2 ex
            rw [ex] at hxx
            cases a with
            | none => obtain ⟨_, _, e'⟩ := hxx.snil_inv; rw [e']; simp [Builtin.firstCells]
            | some p => obtain ⟨_, _, e'⟩ := hxx.slc_any; rw [e']; simp [Builtin.firstCells, loadCells, loadCellsFrom]
          · rename_i s ex
            rw [ex] at hxx
            rw [hxx.string_inv]
            simp only [Builtin.firstCells]
            simp
          · cases hn
        refine ⟨.value (goInt 0), goInt 0, w, β, ?_, .inl rfl, BM.ext_refl _ _, h, .atom rfl⟩
        cases base' with
        | none => simp [execOp, ho, hc, resolve, invoke, builtin, Builtin.copy_, e1, e2, run_und ok w hdt, e3, hlen, hmin, run_size ok w hsz, hfc]
        | some p => simp [execOp, ho, hc, resolve, invoke, builtin, Builtin.copy_, e1, e2, run_und ok w hdt, e3, hlen, hmin, run_size ok w hsz, hfc, storeCells]
      · cases hq
    · cases hq
  · cases hq

theorem LR.cons_inv {x : Value} {xs l' : List Value} (hl : LR β (x :: xs) l') : ∃ y ys, l' = y :: ys ∧ VR β x y ∧ LR β xs ys := by
  cases hl with
  | cons h hs => exact ⟨_, _, rfl, h, hs⟩
theorem LR.nil_inv {l' : List Value} (hl : LR β [] l') : l' = [] := by cases hl; rfl

theorem unsafeString_run {pt : TypeId} {ts : Array TypeId} {ty : TypeId} {p : Option Addr} {k : IntKind} {n : Int} (hpt : ts[0]? = some pt) :
    Builtin.unsafeString_ ts ty #[.pointer p, .int k n] = (do
      let n ← asInt (.int k n)
      let some pt := ts[0]? | stuck "unsafe.String: no argument types"
      if n < 0 then runtimePanic (.error "unsafe.String: len out of range")
      if n > IntKind.i64.max then unsupported (.unsafePointer "String: a length above the largest int")
      match p with
      | none =>
        if n = 0 then pure (.string .empty)
        else runtimePanic (.error "unsafe.String: ptr is nil and len is not zero")
      | some a =>
        if n = 0 then pure (.string .empty)
        else if ← variablesAt a (← elemOf pt) n.toNat then do
          let s ← loadBytes a .empty n.toNat
          freeze a n.toNat
          pure (.string s)
        else unsupported (.unsafePointer "String: not so many bytes at ptr")) := rfl

theorem liesAt_bytes_off {P : Program} {e : TypeId} (hc : P.cellsOf e = 1) (count off n : Nat) (hn : off + n ≤ count) : liesAt P P.depth e count off e n = true := by
  have hd : P.depth = (2 * (P.types.size + Made.depth) + 1) + 1 := rfl
  rw [hd]
  simp only [liesAt, Bool.or_eq_true]
  left
  rw [hd]
  simp [rowAt, hc, hn, sameLayout, Nat.mod_one]

theorem bytesOf_spec : ∀ {vs : List Value} {bs : List UInt8}, Abs.bytesOf vs = some bs → vs = bs.map fun b => Value.int .u8 b.toNat
  | [], bs, hb => by simp [Abs.bytesOf] at hb; subst hb; rfl
  | x :: vs, bs, hb => by
    unfold Abs.bytesOf at hb
    split at hb
    · rename_i e; cases e
    · rename_i y vs' e
      cases e
      split at hb
      · rename_i b2 hlt h2
        cases hb
        have hlt : y < 256 := Nat.le_of_ble_eq_true hlt
        rw [bytesOf_spec h2, List.map_cons]
        congr 2
        simp
        omega
      · cases hb
    · cases hb

theorem freeze_heap {b o n : Nat} {c : Array Value} {et : TypeId} {fz : Nat × Nat} (hc : w.heap[b]? = some (.cells c et fz)) :
    (∃ fz', (w.freeze ⟨b, o, none⟩ n).heap[b]? = some (.cells c et fz')) ∧ (w.freeze ⟨b, o, none⟩ n).heap.size = w.heap.size ∧ (∀ k, k ≠ b → (w.freeze ⟨b, o, none⟩ n).heap[k]? = w.heap[k]?) := by
  unfold World.freeze
  split
  · exact ⟨⟨fz, hc⟩, rfl, fun _ _ => rfl⟩
  · obtain ⟨lo, hi⟩ := fz
    refine ⟨⟨if lo == hi then (o, o + n) else (min lo o, max hi (o + n)), ?_⟩, by simp, fun k hk => ?_⟩
    · simp [Array.getElem?_modify, hc]
    · simp only [Array.getElem?_modify]
      rw [if_neg (by simpa using fun e => hk e.symm)]

include ok h hnx hρ in
theorem e_unsafeString {c : Call} (ho : o.op = .call c) (hc : c.callee = .builtin .unsafeString) (hq : effect C H nx ρ o = some e) : ERes C N0 w0 β nx w (execOp ρ' o) e := by
  have hargs : ∀ x ∈ c.args.toList, VR β (ρ x) (ρ' x) := fun x hx => hρ x (by simp only [ho, Op.operands, Call.operands]; exact Array.mem_append.2 (.inr (by simpa using hx)))
  have hl := LR.map c.args.toList hargs
  have e0 : c.args.map ρ' = ⟨c.args.toList.map ρ'⟩ := by apply Array.ext'; simp
  simp only [effect, ho, hc] at hq
  split at hq
  · rename_i b off lv pt ts ha ht
    rw [ha] at hl
    obtain ⟨p', r1, er1, h1, hs1⟩ := hl.cons_inv
    obtain ⟨lv', r2, er2, h2, hs2⟩ := hs1.cons_inv
    have er3 := hs2.nil_inv
    obtain ⟨i, hi, e1⟩ := h1.ptr_inv
    have ept : c.argTypes[0]? = some pt := by rw [← Array.getElem?_toList, ht]; rfl
    split at hq
    · rename_i n cs et kind u hnat hg hu
      split at hq
      · rename_i vs hv hz hsz
        simp only [Bool.and_eq_true] at hz
        have hue := Nat.eq_of_beq_eq_true hz.1.1
        have hn6 : n ≤ 1000000 := Nat.le_of_ble_eq_true hz.1.2
        have hk2 : kind < 2 := Nat.le_of_ble_eq_true hz.2
        subst hue
        split at hq
        · rename_i bs hbs
          cases hq
          obtain ⟨k, ek⟩ := h2.nat hnat
          obtain ⟨j, hj, hor⟩ := h.obj _ _ hg
          rw [hi] at hj
          cases hj
          obtain ⟨vs', hv1, hv2, hv3⟩ := cells_of hor hv
          obtain ⟨cc, fz, hcc, hcr, hes⟩ := hor
          have evs := bytesOf_spec hbs
          have hat : vs.all Abs.atom = true := by
            rw [evs, List.all_eq_true]
            intro y hy
            simp only [List.mem_map] at hy
            obtain ⟨_, _, rfl⟩ := hy
            rfl
          have evs' := hv1.atoms_eq hat
          subst evs'
          have hbl : bs.length = n + 1 := by have := congrArg List.length evs; simp at this; omega
          have hcell : ∀ (j : Nat) (x : UInt8), bs[j]? = some x → w.cell? ((⟨i.blk, i.base + off, none⟩ : Addr).add j) = some (.int .u8 x.toNat) := fun j x hj => hv3 j _ (by rw [evs]; simp [hj])
          have hlb := Go.Lib.run_loadBytes (P := C.P) w bs ⟨i.blk, i.base + off, none⟩ .empty hcell
          obtain ⟨ie, hie, hies⟩ := size_sound ok hsz
          have hco : C.P.cellsOf u = 1 := by simp [Program.cellsOf, hie, hies]
          have hsh : w.shape? i.blk = some (u, cc.size) := by simp [World.shape?, hcc]
          have hin : i.base + off + (n + 1) ≤ cc.size := by
            have h9 := hcell n bs[n] (by simp)
            rw [Addr.add_lit, cell?_cells hcc] at h9
            rcases Nat.lt_or_ge (i.base + off + n) cc.size with h | h
            · omega
            · rw [Array.getElem?_eq_none h] at h9; cases h9
          have hlies := liesAt_bytes_off (P := C.P) hco (cc.size / C.P.cellsOf u) (i.base + off) (n + 1) (by rw [hco]; simpa using hin)
          obtain ⟨⟨fz', f1⟩, f2, f3⟩ := freeze_heap (w := w) (b := i.blk) (o := i.base + off) (n := n + 1) hcc
          refine ⟨.value (.string ⟨⟨bs⟩⟩), .string ⟨⟨bs⟩⟩, w.freeze ⟨i.blk, i.base + off, none⟩ (n + 1), β, ?_, .inl rfl, BM.ext_refl _ _, ?_, .atom rfl⟩
          · have hmax : IntKind.i64.max = 9223372036854775807 := rfl
            have hneg : ¬ ((n : Int) + 1 < 0) := by omega
            have h63 : ¬ (9223372036854775807 < (n : Int) + 1) := by omega
            have hz0 : ¬ ((n : Int) + 1 = 0) := by omega
            have htn : ((n : Int) + 1).toNat = n + 1 := by omega
            rw [hbl] at hlb
            have ea : (⟨c.args.toList.map ρ'⟩ : Array Value) = #[.pointer (some ⟨i.blk, i.base + off, none⟩), .int k ((n : Int) + 1)] := by
              rw [er1, er2, er3, e1, ek]
              rfl
            simp [execOp, ho, hc, resolve, invoke, builtin, e0, ea, unsafeString_run ept, ept, asInt, asIntOf, hmax, hneg, h63, hz0, htn, elemOf, run_und ok w hu, variablesAt, hsh, hlies, hlb]
          · exact h.update hnx hg hi f2 f3 (Go.Lib.below_freeze (Below.refl _ _) (hcr.own hk2) _) ⟨cc, fz', f1, ⟨hcr.size, hcr.get, fun h9 => by omega, fun h9 => by omega, fun h9 => by omega⟩, fun h9 => by omega⟩
        · cases hq
      · cases hq
    · cases hq
  · rename_i lv pt ts' ha ht
    rw [ha] at hl
    obtain ⟨p', r1, er1, h1, hs1⟩ := hl.cons_inv
    obtain ⟨lv', r2, er2, h2, hs2⟩ := hs1.cons_inv
    have er3 := hs2.nil_inv
    have ept : c.argTypes[0]? = some pt := by rw [← Array.getElem?_toList, ht]; rfl
    split at hq
    · rename_i hnat
      cases hq
      obtain ⟨k, ek⟩ := h2.nat hnat
      have ea : (⟨c.args.toList.map ρ'⟩ : Array Value) = #[.pointer none, .int k 0] := by
        rw [er1, er2, er3, h1.pnil_inv, ek]
        rfl
      have hmax : IntKind.i64.max = 9223372036854775807 := rfl
      refine ⟨.value (.string .empty), .string .empty, w, β, ?_, .inl rfl, BM.ext_refl _ _, h, .atom rfl⟩
      simp [execOp, ho, hc, resolve, invoke, builtin, e0, ea, unsafeString_run ept, ept, asInt, asIntOf, hmax]
    · cases hq
  · cases hq


include ok h hnx hρ in
theorem e_append {c : Call} (ho : o.op = .call c) (hc : c.callee = .builtin .append) (hq : effect C H nx ρ o = some e) : ERes C N0 w0 β nx w (execOp ρ' o) e := by
  have hargs : ∀ x ∈ c.args.toList, VR β (ρ x) (ρ' x) := fun x hx => hρ x (by simp only [ho, Op.operands, Call.operands]; exact Array.mem_append.2 (.inr (by simpa using hx)))
  simp only [effect, ho, hc] at hq
  split at hq
  · rename_i s x t u hx ht
    have hs := hargs s (by simp [hx])
    have hxx := hargs x (by simp [hx])
    have e1 : c.args.map ρ' = #[ρ' s, ρ' x] := by apply Array.ext'; simp [hx]
    have e2 : c.argTypes = #[t, u] := by apply Array.ext'; simp [ht]
    have main : ∀ du, und C u = some du → notInt du = true → append C H nx t (ρ s) (ρ x) = some e → ERes C N0 w0 β nx w (execOp ρ' o) e := fun du hu hdu hq => by
      obtain ⟨v, H', nx', rfl, v', w', β', h1, h2, h3, h4⟩ := append_sound ok h hnx hu hdu hs hxx hq o.type
      exact ⟨.value v', v', w', β', by simp [execOp, ho, hc, resolve, invoke, builtin, e1, e2, h1], .inl rfl, h2, h3, h4⟩
    split at hq
    · rename_i hu
      exact main _ hu rfl hq
    · rename_i hu
      exact main _ hu rfl hq
    · cases hq
  · cases hq

theorem HR.congr (h : HR C N0 w0 β H nx w) {H' : AHeap} (e : ∀ b, H'.get b = H.get b) : HR C N0 w0 β H' nx w :=
  ⟨fun c y hc => h.obj c y ((e c).symm.trans hc), fun c d y y' j j' hc hd => h.inj c d y y' j j' ((e c).symm.trans hc) ((e d).symm.trans hd), h.lt, h.fresh, h.below, h.n0⟩

theorem bytes_lr (β : BM) (s : ByteArray) : LR β (bytesL s) (bytesL s) := by
  unfold bytesL
  induction s.data.toList with
  | nil => exact .nil
  | cons b l ih => exact .cons (.atom rfl) ih

theorem freeze_alloc (w : World) (c : Array Value) (et : TypeId) (n : Nat) : (w.alloc (.cells c et)).freeze ⟨w.heap.size, n, none⟩ 1 = w.alloc (.cells c et (n, n + 1)) := by
  unfold World.freeze World.alloc
  simp only [Nat.one_ne_zero, if_false]
  congr 1
  apply Array.ext_getElem?
  intro i
  simp only [Array.getElem?_modify, Array.getElem?_push]
  by_cases e : w.heap.size = i
  · subst e; simp
  · have e' : ¬ i = w.heap.size := fun h => e h.symm
    simp [e, e']

theorem fold_bytes : ∀ (l : List UInt8) (acc : ByteArray), (l.map fun b => (b.toNat : Int)).foldl (fun r n => r.push (UInt8.ofNat n.toNat)) acc = ⟨acc.data ++ ⟨l⟩⟩
  | [], acc => by simp
  | b :: l, acc => by
    rw [List.map_cons, List.foldl_cons, fold_bytes l]
    simp [ByteArray.push]

include ok h hnx hρ in
theorem e_convert {s d : TypeId} {x : Operand} (ho : o.op = .convert s d x) (hq : effect C H nx ρ o = some e) : ERes C N0 w0 β nx w (execOp ρ' o) e := by
  have hx := hρ x (by simp [ho, Op.operands])
  simp only [effect, ho] at hq
  split at hq
  · rename_i bs el ex hs hd
    split at hq
    · rename_i hel hsz hle
      cases hq
      rw [ex] at hx
      have ex' := hx.string_inv
      have hge := grownCap_ge w bs.size 0 el
      have hl : (bytesL bs).length = bs.size := by simp [bytesL]
      let arr : Array Value := (bs.data.map fun b => Value.int .u8 b.toNat) ++ Array.replicate (grownCap w bs.size 0 el - bs.size) (.int .u8 0)
      have harr : arr.size = grownCap w bs.size 0 el := by
        have : bs.data.size = bs.size := rfl
        simp only [arr, Array.size_append, Array.size_map, Array.size_replicate]
        omega
      have hn := h.fresh nx (Nat.le_refl _)
      have hmore : ∃ more, arr.toList = bytesL bs ++ more := ⟨List.replicate (grownCap w bs.size 0 el - bs.size) (.int .u8 0), by simp [arr, bytesL]⟩
      have h1 := h.drew.alloc hnx (.cells arr el) (i := ⟨w.heap.size, 0, arr.size, 1⟩) rfl (OR.row h (bytes_lr β bs) hsz hmore)
      have hw1 : (w.drew.alloc (.cells arr el)).heap[w.heap.size]? = some (.cells arr el (0, 0)) := heap_alloc_new w.drew _
      obtain ⟨c2, fz2, g1, g2, g3⟩ := OR.row h (bytes_lr β bs) hsz (c := arr) hmore
      have e12 : c2 = arr := by
        have := g1.symm.trans hw1
        cases this; rfl
      rw [e12] at g2
      have hfz := freeze_alloc w.drew arr el arr.size
      have h2 := h.drew.alloc hnx (.cells arr el (arr.size, arr.size + 1)) (i := ⟨w.heap.size, 0, arr.size, 1⟩) rfl
        (show OR C N0 _ _ _ (.cells (bytesL bs) el 1) from ⟨arr, (arr.size, arr.size + 1), heap_alloc_new w.drew _, ⟨g2.size, g2.get, fun _ j hj hh => by (have := hh.1; simp only at this; omega), g2.own, g2.whole⟩, g3⟩)
      rw [← hfz] at h2
      refine ⟨.value (.slice (some ⟨w.heap.size, 0, none⟩) bs.size (grownCap w bs.size 0 el)), .slice (some ⟨w.heap.size, 0, none⟩) bs.size (grownCap w bs.size 0 el), _, _, ?_, .inl rfl, BM.ext_set β _ hn, h2, ?_⟩
      · have hsh : (w.drew.alloc (.cells arr el)).shape? w.heap.size = some (el, arr.size) := by unfold World.shape?; rw [hw1]
        have hcut : (Question.appendCap bs.size 0 el).cut (w.tape w.drawn (.appendCap bs.size 0 el)) = grownCap w bs.size 0 el := rfl
        simp [execOp, ho, ex', convert, run_und ok w hs, run_und ok w hd, run_und ok w hel, Conv.stringToBytes, Question.forced, hcut, newRow, markStringish, hsh, arr]
      · exact VR.slice (o := 0) (BM.set_same _ _ _) (.inr ⟨rfl, hge, by simp only [Nat.zero_add, Nat.mul_one, harr]; exact Nat.le_refl _⟩)
    · cases hq
  · rename_i b off len cap el ex hs hd
    rw [ex] at hx
    obtain ⟨i, c', hb, _, e'⟩ := hx.slice_inv
    split at hq
    · rename_i cs hel hcs
      split at hq
      · rename_i bl hbs
        cases hq
        obtain ⟨l, et, kind, hg, hv⟩ : ∃ l et kind, H.get b = some (.cells l et kind) ∧ ltake? (ldrop l off) len = some cs := by
          unfold readCells getCells at hcs
          cases hg : H.get b with
          | none => simp [hg] at hcs
          | some y => cases y <;> simp [hg] at hcs <;> exact ⟨_, _, _, rfl, hcs⟩
        obtain ⟨j, hj, hor⟩ := h.obj _ _ hg
        rw [hb] at hj
        cases hj
        obtain ⟨vs', hv1, hv2, hv3⟩ := cells_of hor hv
        have evs := bytesOf_spec hbs
        have hat : cs.all Abs.atom = true := by
          rw [evs, List.all_eq_true]
          intro y hy
          simp only [List.mem_map] at hy
          obtain ⟨_, _, rfl⟩ := hy
          rfl
        have evs' := hv1.atoms_eq hat
        subst evs'
        have hl := run_loadCells_list (P := C.P) w ⟨i.blk, i.base + off, none⟩ vs' hv3
        rw [hv2] at hl
        have e2 : vs' = (bl.map fun b => (b.toNat : Int)).map (Value.int .u8) := by rw [evs, List.map_map]; rfl
        rw [e2] at hl
        have h3 := run_bytesToString (P := C.P) w ⟨i.blk, i.base + off, none⟩ len c' _ hl
        rw [fold_bytes] at h3
        refine ⟨.value (.string ⟨⟨bl⟩⟩), .string ⟨⟨bl⟩⟩, w, β, ?_, .inl rfl, BM.ext_refl _ _, h, .atom rfl⟩
        have h4 := run_convert_bytes_string (P := C.P) w s d el (some ⟨i.blk, i.base + off, none⟩) len c' (und_sound ok hs) (und_sound ok hel) (und_sound ok hd)
        simp [execOp, ho, e', h4, h3, ByteArray.empty, ByteArray.emptyWithCapacity]
        rfl
      · cases hq
    · cases hq
  · cases hq

/-- two places in two blocks -/
theorem sameAddr_two {i j : BI} {f g : Nat} {cb cc : Array Value} {et et' : TypeId} {fz fz' : Nat × Nat} {l m : List Value} (hne : i.blk ≠ j.blk) (k1 : w.heap[i.blk]? = some (.cells cb et fz)) (k2 : CR N0 β i l 0 cb fz) (hf : f < l.length)
    (k3 : w.heap[j.blk]? = some (.cells cc et' fz')) (k4 : CR N0 β j m 0 cc fz') (hg : g < m.length) : (sameAddr ⟨i.blk, i.base + f, none⟩ ⟨j.blk, j.base + g, none⟩).run C.P w = .ok false w := by
  obtain ⟨b1, b2⟩ := k2.whole rfl
  obtain ⟨b3, b4⟩ := k4.whole rfl
  have fa : w.frozen? ⟨i.blk, i.base + f, none⟩ = false := by
    have := k2.free (by decide) (i.base + f) (.inl (by omega))
    simp only [World.frozen?, k1]
    simp at this ⊢
    omega
  have fb : w.frozen? ⟨j.blk, j.base + g, none⟩ = false := by
    have := k4.free (by decide) (j.base + g) (.inl (by omega))
    simp only [World.frozen?, k3]
    simp at this ⊢
    omega
  have fa2 : w.frozen? ⟨i.blk, cb.size, none⟩ = false := by
    have := k2.free (by decide) cb.size (.inr ⟨rfl, rfl⟩)
    simp only [World.frozen?, k1]
    simp at this ⊢
    omega
  have fb2 : w.frozen? ⟨j.blk, cc.size, none⟩ = false := by
    have := k4.free (by decide) cc.size (.inr ⟨rfl, rfl⟩)
    simp only [World.frozen?, k3]
    simp at this ⊢
    omega
  have sa : w.shape? i.blk = some (et, cb.size) := by simp [World.shape?, k1]
  have sb : w.shape? j.blk = some (et', cc.size) := by simp [World.shape?, k3]
  simp [sameAddr, frozen, noView, viewAt, mayBeOne, stringish, shape, Sem.run, fa, fb, fa2, fb2, sa, sb, hne]

include ok h hρ in
theorem e_binOp {op : BinOp} {t u : TypeId} {x y : Operand} (ho : o.op = .binOp op t x y u) (hq : effect C H nx ρ o = some e) : ERes C N0 w0 β nx w (execOp ρ' o) e := by
  have hx := hρ x (by simp [ho, Op.operands])
  have hy := hρ y (by simp [ho, Op.operands])
  simp only [effect, ho] at hq
  split at hq
  · rename_i el b f c g hd ex ey
    rw [ex] at hx
    rw [ey] at hy
    obtain ⟨i, hi, ex'⟩ := hx.ptr_inv
    obtain ⟨j, hj, ey'⟩ := hy.ptr_inv
    split at hq
    · rename_i sz l et m et' hsz hbc hgb hgc
      obtain ⟨i', hi', cb, fz, k1, k2, _⟩ := h.obj _ _ hgb
      rw [hi] at hi'; cases hi'
      obtain ⟨j', hj', cc, fz', k3, k4, _⟩ := h.obj _ _ hgc
      rw [hj] at hj'; cases hj'
      have hne : i.blk ≠ j.blk := fun e => by
        have := h.inj b c _ _ i j hgb hgc hi hj e
        subst this
        simp at hbc
      have main : ∀ (_ : (Nat.blt f (llen l 0) && Nat.blt g (llen m 0)) = true), (Op.equal t (ρ' x) (ρ' y)).run C.P w = .ok false w ∧ ∀ op, (eqGuard op t x y (ρ' x) (ρ' y)).run C.P w = .ok () w := fun hc => by
        rw [Bool.and_eq_true] at hc
        have h1 : f < l.length := by have := Nat.le_of_ble_eq_true hc.1; rw [llen_eq] at this; omega
        have h2 : g < m.length := by have := Nat.le_of_ble_eq_true hc.2; rw [llen_eq] at this; omega
        have hsame := sameAddr_two (C := C) hne k1 k2 h1 k3 k4 h2
        rw [ex', ey']
        refine ⟨?_, fun op => guard_ptr⟩
        have key : ∀ n, (Op.equalIn (n + 1) t (.pointer (some ⟨i.blk, i.base + f, none⟩)) (.pointer (some ⟨j.blk, j.base + g, none⟩))).run C.P w = .ok false w := fun n => by
          simp [Op.equalIn, run_und ok w hd, run_size ok w hsz, hsame]
        exact key 9999
      split at hq
      · rename_i hc
        cases hq
        obtain ⟨h1, h2⟩ := main hc
        have e1 : (binOp .eql t (ρ' x) (ρ' y)).run C.P w = .ok (.bool false) w := by
          rw [binOp_eql (by rw [ex']; rfl)]
          simp [h1]
        exact ⟨.value (.bool false), .bool false, w, β, by simp [execOp, ho, h2, e1], .inl rfl, BM.ext_refl _ _, h, .atom rfl⟩
      · rename_i hc
        cases hq
        obtain ⟨h1, h2⟩ := main hc
        have e1 : (binOp .neq t (ρ' x) (ρ' y)).run C.P w = .ok (.bool true) w := by
          rw [binOp_neq (by rw [ex']; rfl)]
          simp [h1]
        exact ⟨.value (.bool true), .bool true, w, β, by simp [execOp, ho, h2, e1], .inl rfl, BM.ext_refl _ _, h, .atom rfl⟩
      · cases hq
    · cases hq
  · cases hq

include ok h hnx hρ in
/-- EVERY OTHER OPERATION. -/
theorem effect_sound (hq : effect C H nx ρ o = some e) : ERes C N0 w0 β nx w (execOp ρ' o) e := by
  cases ho : o.op with
  | store t a x => exact e_store ok h hnx hρ ho hq
  | mapUpdate t m k x => exact e_mapPut ok h hnx hρ (.inl ho) hq
  | insert t m k x => exact e_mapPut ok h hnx hρ (.inr ho) hq
  | next it b => exact e_next h hnx hρ ho hq
  | defer c => exact e_defer hρ ho hq
  | convert s d x => exact e_convert ok h hnx hρ ho hq
  | binOp op t x y u => exact e_binOp ok h hρ ho hq
  | call c =>
    cases hc : c.callee with
    | value f => exact e_value hρ ho hc hq
    | invoke r m => simp [effect, ho, hc] at hq
    | builtin b =>
      cases b with
      | append => exact e_append ok h hnx hρ ho hc hq
      | recover => exact e_recover ho hc hq
      | copy => exact e_copy ok h hρ ho hc hq
      | delete => exact e_delete ok h hnx hρ ho hc hq
      | unsafeString => exact e_unsafeString ok h hnx hρ ho hc hq
      | _ => simp [effect, ho, hc] at hq
  | _ => simp [effect, ho] at hq

end
end Go.Abs
