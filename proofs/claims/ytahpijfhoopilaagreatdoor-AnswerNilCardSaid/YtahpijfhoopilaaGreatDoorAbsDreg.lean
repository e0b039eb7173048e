/-
  THE ABSTRACT MACHINE: regions that draw their order: early ones, and looking again.
-/
import Derived.Test.YtahpijfhoopilaaGreatDoorAbsUnlock
set_option linter.unusedSectionVars false
set_option linter.unusedVariables false
set_option linter.unusedSimpArgs false
namespace Go.Abs
open Go
variable [Ops]

theorem POk.new {C : Ctx} {ng : Nat} {ops : Array Oper} {tm : List Value} {p : Pend} {o : Oper} (hop : ops[p.i]? = some o) (he : isEarly o = true ∨ isStore o = true) (hc : constsOk ng o = true) (hself : selfOk ops.toList o = true ∧ guardOk ops.toList tm o = true)
    (hval : (wantedL ops.toList tm o = false ∧ p.v = undef ∧ p.obj = none ∧ p.ins = none) ∨
    (wantedL ops.toList tm o = true ∧
      ((∃ e, insP C (ev tm) o = some e ∧ p.ins = some e ∧ p.obj = none ∧ p.v = undef) ∨
       (insP C (ev tm) o = none ∧ p.ins = none ∧ p.st = none ∧ ∃ b x, p.obj = some (b, x) ∧ readsHeap o = false ∧ ∀ H, quiet C H b (ev tm) o = some (p.v, some x)) ∨
       (insP C (ev tm) o = none ∧ p.ins = none ∧ p.obj = none ∧ (readsHeap o = false → ∀ H nx, quiet C H nx (ev tm) o = some (p.v, none))) ∨
       (p.ins = none ∧ p.v = undef ∧ ∃ t a y b x0 x1, o.op = .store t a y ∧ p.obj = some (b, x1) ∧ p.st = some x0 ∧ stV C t (ev tm a) (ev tm y) x0 = some (b, x1))))) :
    POk C ng ops (putDst tm o.dst p.v) p o := by
  have hs : ∀ d, o.dst = some d → d ∉ looks ops.toList o := fun d hd hl => by
    have hself := hself.1
    unfold selfOk at hself
    rw [hd] at hself
    simp [memN_iff.2 hl] at hself
  refine ⟨hop, he, hc, hs, (guardOk_put hs).trans hself.2, fun d hd hlt => ?_, ?_⟩
  · rw [putDst_len] at hlt
    rw [hd]
    exact putDst_same hlt
  · rw [wantedL_put hs, insP_congr (ev_put hs)]
    simp only [quiet_congr (ev_put hs)]
    exact hval.imp id fun ⟨h1, h2⟩ => ⟨h1, h2.imp id fun h2 => h2.imp id fun h2 => h2.imp id fun ⟨h3, h4, t, a, y, b, x0, x1, e1, e2, e3, e4⟩ =>
      ⟨h3, h4, t, a, y, b, x0, x1, e1, e2, e3, by rw [ev_put hs a (by simp [e1, Op.operands]), ev_put hs y (by simp [e1, Op.operands])]; exact e4⟩⟩

theorem Dreg.early {C : Ctx} {ng : Nat} {β : BM} {H Hs : AHeap} {nx nx' : Nat} {ops : Array Oper} {bef : List Nat} {done cur : Nat} {pend : List Pend} {l : Array Bool} {rest : List Nat} {tm : List Value} {tm' : Array Value}
    {chk : Bool} (hd : Dreg C ng β H Hs nx false ops bef done cur pend chk l rest tm tm') {p : Pend} {o : Oper} (hop : ops[p.i]? = some o) (he : isEarly o = true ∨ isStore o = true) (hn : done.testBit p.i = false) (hc : constsOk ng o = true)
    (hself : selfOk ops.toList o = true ∧ guardOk ops.toList tm o = true) (hap : apart ops.toList (bf ops p.i) o pend = true)
    (hval : (wantedL ops.toList tm o = false ∧ p.v = undef ∧ p.obj = none ∧ p.ins = none) ∨
    (wantedL ops.toList tm o = true ∧
      ((∃ e, insP C (ev tm) o = some e ∧ p.ins = some e ∧ p.obj = none ∧ p.v = undef) ∨
       (insP C (ev tm) o = none ∧ p.ins = none ∧ p.st = none ∧ ∃ b x, p.obj = some (b, x) ∧ readsHeap o = false ∧ ∀ H, quiet C H b (ev tm) o = some (p.v, some x)) ∨
       (insP C (ev tm) o = none ∧ p.ins = none ∧ p.obj = none ∧ (readsHeap o = false → ∀ H nx, quiet C H nx (ev tm) o = some (p.v, none))) ∨
       (p.ins = none ∧ p.v = undef ∧ ∃ t a y b x0 x1, o.op = .store t a y ∧ p.obj = some (b, x1) ∧ p.st = some x0 ∧ stV C t (ev tm a) (ev tm y) x0 = some (b, x1)))))
    (hins : ∀ b k v, p.ins = some (b, k, v) → (∃ q ∈ pend, q.obj = some (b, .map [] 0 true) ∧ (bf ops p.i).testBit q.i = true) ∧ (∀ q ∈ pend, ∀ k' v', q.ins = some (b, k', v') → sameKey k k' = some false))
    (hblk : ∀ b x, p.obj = some (b, x) → b < nx' ∧ H.get b = none ∧ (p.st = none → β b = none) ∧ ∀ x0, p.st = some x0 → Hs.get b = some x0)
    (hheap : chk = false → wantedL ops.toList tm o = true → p.obj = none → p.ins = none → ∀ nx, quiet C H nx (ev tm) o = some (p.v, none)) (hnx : nx ≤ nx') :
    Dreg C ng β H Hs nx' false ops bef (Nat.lor done (2 ^ p.i)) 0 (p :: pend) chk l rest (putDst tm o.dst p.v) tm' := by
  have hi := hd.inv
  have hne : ∀ q ∈ pend, q.i ≠ p.i := fun q hq e => by
    have := hi.mem q hq
    rw [e, hn] at this; cases this
  have hD : dn l p.i = false := by
    cases h : dn l p.i with
    | false => rfl
    | true => rw [hi.sub _ h] at hn; cases hn
  have hplt : p.i < ops.size := (Array.getElem?_eq_some_iff.1 hop).1
  have hap1 : ∀ q ∈ pend, ∀ oq, ops[q.i]? = some oq → (∀ d, oq.dst = some d → d ∈ looks ops.toList o → (bf ops p.i).testBit q.i = true) ∧ (∀ d, o.dst = some d → d ∉ looks ops.toList oq ∧ oq.dst ≠ some d) := fun q hq oq ho =>
    apart_spec hap q hq oq (by simpa using ho)
  have hpo := POk.new (C := C) (ng := ng) hop he hc hself hval
  have hs : ∀ d, o.dst = some d → d ∉ looks ops.toList o := hpo.self
  refine ⟨hd.bef, hd.back, hd.size, hd.ec, hd.ord, ⟨?_, fun t => ?_, fun i h => ?_, fun i hlt h => ?_, fun q hq => ?_, ?_, fun q hq hqD => ?_, fun q hq => ?_, fun q hq r hr hqr oq or hoq hor d hdst => ?_, fun q hq b k v hv => ?_, fun q hq r hr hqr b k v k' v' h1 h2 => ?_⟩, ?_, fun hchk _ => ?_, fun h => by cases h⟩
  · rw [putDst_len]; exact hi.len
  · by_cases e : o.dst = some t
    · exact .inr ⟨p, List.mem_cons_self, hD, o, hop, e⟩
    · rcases hi.slot t with h | ⟨q, hq, h⟩
      · exact .inl fun u hu => h u (by rw [putDst_ne e] at hu; exact hu)
      · exact .inr ⟨q, List.mem_cons_of_mem _ hq, h⟩
  · rw [testBit_done, hi.sub i h]; rfl
  · rw [testBit_done] at h
    simp only [Bool.or_eq_true, decide_eq_true_eq] at h
    rcases h with h | h
    · rcases hi.sup i hlt h with h | ⟨q, hq, e⟩
      · exact .inl h
      · exact .inr ⟨q, List.mem_cons_of_mem _ hq, e⟩
    · exact .inr ⟨p, List.mem_cons_self, h⟩
  · rw [testBit_done]
    rcases List.mem_cons.1 hq with rfl | hq
    · simp
    · simp [hi.mem q hq]
  · rw [List.map_cons, List.nodup_cons]
    refine ⟨fun h => ?_, hi.nodup⟩
    obtain ⟨q, hq, e⟩ := List.mem_map.1 h
    exact hne q hq e
  · rcases List.mem_cons.1 hq with rfl | hq
    · exact ⟨o, hpo⟩
    · obtain ⟨oq, hoq⟩ := hi.pok q hq hqD
      exact ⟨oq, hoq.put _ _ (fun t ht => (hap1 q hq oq hoq.op).2 t ht)⟩
  · rcases List.mem_cons.1 hq with rfl | hq
    · refine ⟨⟨o, hop, he⟩, fun h => ?_⟩
      rcases hval with ⟨_, _, h1, _⟩ | ⟨_, ⟨e, _, _, h1, _⟩ | ⟨_, h1, _⟩ | ⟨_, h1, _⟩ | ⟨h1, _⟩⟩
      · exact h1
      · exact h1
      · exact absurd h1 h
      · exact absurd h1 h
      · exact absurd h1 h
    · exact hi.rng q hq
  · rcases List.mem_cons.1 hq with e1 | hq1
    · rcases List.mem_cons.1 hr with e2 | hr1
      · rw [e1, e2] at hqr; exact absurd rfl hqr
      · rw [e1, hop] at hoq
        cases hoq
        obtain ⟨h1, h2⟩ := hap1 r hr1 or hor
        rw [e1]
        exact ⟨h1 d hdst, fun e => (h2 d e).2 hdst⟩
    · rcases List.mem_cons.1 hr with e2 | hr1
      · rw [e2, hop] at hor
        cases hor
        obtain ⟨h1, h2⟩ := hap1 q hq1 oq hoq
        exact ⟨fun h => absurd h (h2 d hdst).1, (h2 d hdst).2⟩
      · exact hi.pair q hq1 r hr1 hqr oq or hoq hor d hdst
  · rcases List.mem_cons.1 hq with rfl | hq
    · obtain ⟨⟨r, h1, h2⟩, _⟩ := hins b k v hv
      exact ⟨r, List.mem_cons_of_mem _ h1, h2⟩
    · obtain ⟨r, h1, h2⟩ := hi.ins q hq b k v hv
      exact ⟨r, List.mem_cons_of_mem _ h1, h2⟩
  · rcases List.mem_cons.1 hq with e1 | hq1
    · rcases List.mem_cons.1 hr with e2 | hr1
      · rw [e1, e2] at hqr; exact absurd rfl hqr
      · rw [e1] at h1; exact (hins b k v h1).2 r hr1 k' v' h2
    · rcases List.mem_cons.1 hr with e2 | hr1
      · rw [e2] at h2; exact sameKey_symm ((hins b k' v' h2).2 q hq1 k v h1)
      · exact hi.keys q hq1 r hr1 hqr b k v k' v' h1 h2
  · have hf : ((p :: pend).filter fun p => dn l p.i) = pend.filter fun p => dn l p.i := by rw [List.filter_cons, hD]; simp
    intro q hq b x hx
    rcases List.mem_cons.1 hq with rfl | hq
    · obtain ⟨h1, h2, h3⟩ := hblk b x hx
      exact ⟨h1, h2, fun _ => h3, fun h => by rw [hD] at h; cases h⟩
    · obtain ⟨h1, h2, h3, h4⟩ := hd.blk q hq b x hx
      exact ⟨by omega, h2, h3, fun h => by rw [hf]; exact h4 h⟩
  · intro q hq hqD oq hoq hw h1 h2 nx2
    rcases List.mem_cons.1 hq with rfl | hq
    · rw [hop] at hoq
      cases hoq
      rw [wantedL_put hs] at hw
      rw [quiet_congr (ev_put hs)]
      exact hheap hchk hw h1 h2 nx2
    · have hd' : ∀ t, o.dst = some t → t ∉ looks ops.toList oq := fun t ht => ((hap1 q hq oq hoq).2 t ht).1
      rw [wantedL_put hd'] at hw
      rw [quiet_congr (ev_put hd')]
      exact hd.heap hchk rfl q hq hqD oq hoq hw h1 h2 nx2

theorem recheck_spec {C : Ctx} {H : AHeap} {tm : List Value} {ops : List Oper} : ∀ {L : List Pend}, recheck C H tm ops L = true → ∀ p ∈ L, ∀ o, ops[p.i]? = some o → readsHeap o = true → wantedL ops tm o = true →
    quiet C H 0 (ev tm) o = some (p.v, none)
  | [], _, p, hp, _, _, _, _ => by cases hp
  | q :: L, h, p, hp, o, ho, h1, h2 => by
    unfold recheck at h
    rw [lget_eq] at h
    split at h
    · rename_i oq hoq
      simp only [Bool.and_eq_true] at h
      rcases List.mem_cons.1 hp with rfl | hp
      · rw [ho] at hoq
        cases hoq
        have h3 := h.1
        rw [h1, h2] at h3
        simp only [Bool.and_self] at h3
        split at h3
        · rename_i v hq
          rw [hq, eqv_eq _ _ _ h3]
        · cases h3
      · exact recheck_spec h.2 p hp o ho h1 h2
    · cases h

theorem Dreg.recheck {C : Ctx} {ng : Nat} {β : BM} {H Hs : AHeap} {nx : Nat} {ops : Array Oper} {bef : List Nat} {done cur cur' : Nat} {pend : List Pend} {l : Array Bool} {rest : List Nat} {tm : List Value} {tm' : Array Value}
    (hd : Dreg C ng β H Hs nx false ops bef done cur pend true l rest tm tm') (h : recheck C H tm ops.toList pend = true) :
    Dreg C ng β H Hs nx false ops bef done cur' pend false l rest tm tm' := by
  refine { hd with heap := fun _ _ => ?_, wait := fun h => by cases h }
  intro p hp hD o ho hw h1 h2 nx'
  obtain ⟨o2, hpo⟩ := hd.inv.pok p hp hD
  have e := hpo.op
  rw [ho] at e
  cases e
  rcases hpo.val with ⟨hw', _⟩ | ⟨_, hv⟩
  · rw [hw] at hw'; cases hw'
  · rcases hv with ⟨e, _, h3, _⟩ | ⟨_, _, _, b, x, h3, _⟩ | ⟨_, _, _, h3⟩ | ⟨_, _, _, _, _, b, _, x, _, h3, _⟩
    · rw [h2] at h3; cases h3
    · rw [h1] at h3; cases h3
    · cases hr : readsHeap o with
      | false => exact h3 hr H nx'
      | true => exact quiet_nx (recheck_spec h p hp o (by simpa using ho) hr hw)
    · rw [h1] at h3; cases h3
end Go.Abs
