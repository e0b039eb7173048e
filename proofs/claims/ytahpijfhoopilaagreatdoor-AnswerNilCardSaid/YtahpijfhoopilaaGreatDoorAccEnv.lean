/-
  The machine over the seat's program.
-/
import Derived.Test.YtahpijfhoopilaaGreatDoorAbsFast
import Derived.Test.YtahpijfhoopilaaGreatDoorChecked
import Derived.KernelRfl
set_option linter.unusedSectionVars false
set_option linter.unusedVariables false
set_option linter.unusedSimpArgs false
namespace Go.Abs
open Go Go.Proofs

noncomputable def mkEnv2 (P : Program) (f0 f1 f2 : FuncId) (el : TypeId) : Env := { P, ty := BT.ofList P.types.toList, fns := BT.ofList P.funcs.toList, ext := BT.put (some (Ext.makeNoZero el)) 20 (BT.put (some Ext.indexByte) 20 (BT.put (some Ext.same) 20 .nil f0) f1) f2, con := .nil, ng := 0 }

def nameOk (fn : Func) : Bool := fn.body.isNone || !(fn.name == "runtime.NumGoroutine")

theorem info_of {P : Program} {t : TypeId} {i : TypeInfo} (h : P.types[t]? = some i) : P.info? t = some i := by
  unfold Tables.info?
  have : t < P.types.size := (Array.getElem?_eq_some_iff.1 h).1
  rw [if_pos this]; exact h

theorem digits_size : ∀ (n t : Nat) (acc : Array Value), (Extern.BytealgMakeNoZero.digits n t acc).size = acc.size + n
  | 0, t, acc => rfl
  | n + 1, t, acc => by rw [Extern.BytealgMakeNoZero.digits, digits_size n]; simp; omega

theorem choose_run (P : Program) (q : Question) (w : World) : ∃ v w', (choose q).run P w = .ok v w' ∧ (w' = w ∨ w' = w.drew) := by
  simp only [choose, Sem.run]
  split
  · exact ⟨_, _, rfl, .inl rfl⟩
  · exact ⟨_, _, rfl, .inr rfl⟩

theorem makeNoZero_run [Ops] {C : Ctx} (ok : C.Ok) {params results : Array TypeId} {t e : TypeId} (ht : results[0]? = some t) (hu : und C t = some (.slice e)) {n : Nat} (hn : n ≤ 100000) (w : World) :
    ∃ (cap : Nat) (cells : Array Value) (w2 : World), (Extern.BytealgMakeNoZero.makeNoZero params results ⟨[.int .i64 (.ofNat n)]⟩).run C.P w = .ok (.slice (some ⟨w.heap.size, 0, none⟩) n cap) (w2.alloc (.cells cells e)) ∧
      n ≤ cap ∧ cells.size = cap ∧ (w2 = w.drew.drew ∨ w2 = w.drew) := by
  obtain ⟨v, w', h1, h2⟩ := choose_run C.P (.extern "internal/bytealg.MakeNoZero.bytes" 0) w.drew
  have hask : (askRoom (Go.grownCap w n 0 e)).run C.P w.drew = .ok () w.drew := by
    unfold askRoom
    split <;> rfl
  have h48 : ¬ (281474976710656 < (n : Int)) := by omega
  have h0 : ¬ ((n : Int) < 0) := by omega
  have hw' : w'.heap.size = w.heap.size := by rcases h2 with rfl | rfl <;> rfl
  have hgo : (Extern.BytealgMakeNoZero.makeNoZero params results ⟨[.int .i64 (.ofNat n)]⟩).run C.P w = .ok (.slice (some ⟨w.heap.size, 0, none⟩) n (Go.grownCap w n 0 e)) (w'.alloc (.cells (Extern.BytealgMakeNoZero.digits (Go.grownCap w n 0 e) v #[]) e)) := by
    have hch : (choose (.appendCap n 0 e)).run C.P w = .ok (Go.grownCap w n 0 e) w.drew := by
      simp [choose, Sem.run, Question.forced, Go.grownCap]
    show Sem.run C.P (do
      let some t := results[0]? | stuck "bytealg.MakeNoZero: no result type"
      let .slice elem ← underlying t | stuck "bytealg.MakeNoZero: slice type expected"
      if (Int.ofNat n) < 0 || (Int.ofNat n) > 2 ^ 48 then runtimePanic (.error "makeslice: len out of range")
      let cap ← choose (.appendCap (Int.ofNat n).toNat 0 elem)
      askRoom cap
      let bytes ← choose (.extern "internal/bytealg.MakeNoZero.bytes" 0)
      let a ← newRow elem (Extern.BytealgMakeNoZero.digits cap bytes #[])
      pure (Value.slice (some a) (Int.ofNat n).toNat cap) : Sem Value) w = _
    simp [ht, run_und ok w hu, hch, newRow, h48, h0]
    simp only [choose, Sem.run] at h1
    split at h1
    · rename_i hf
      rw [if_pos hf]; cases h1; rfl
    · rename_i hf
      rw [if_neg hf]; cases h1; rfl
  refine ⟨_, _, w', hgo, Go.grownCap_ge w n 0 e, by rw [digits_size]; simp, ?_⟩
  rcases h2 with rfl | rfl
  · exact .inr rfl
  · exact .inl rfl

theorem mkEnv2_ctx {P : Program} {f0 f1 f2 : FuncId} {el : TypeId} : (mkEnv2 P f0 f1 f2 el).toCtx.Ok :=
  ⟨fun t i h => info_of (P := P) (by have := BT.get_ofList h; rw [Array.getElem?_toList] at this; exact this), fun f fn h => by have := BT.get_ofList h; rw [Array.getElem?_toList] at this; exact this⟩
theorem mkEnv2_ok [Ops] {P : Program} {f0 f1 f2 : FuncId} {el : TypeId} (hlt : f0 < LIMIT) (hlt1 : f1 < LIMIT) (hlt2 : f2 < LIMIT) (mixed : P.follows .mixedOrders = true) (names : P.funcs.toList.all nameOk = true) (hext : ∀ v w, (callFunc f0 ⟨[v]⟩).run P w = .ok (.value v) w)
    (hext1 : ∀ (b : ByteArray) (c : Nat) w, (callFunc f1 ⟨[.string b, .int .u8 (.ofNat c)]⟩).run P w = .ok (.value (match (List.range b.size).find? (fun i => b[i]! == UInt8.ofNat c) with | some i => goInt i | none => goInt (-1))) w)
    (hext2 : size? (mkEnv2 P f0 f1 f2 el).toCtx el = some 1 ∧ ∀ (n : Nat) (w : World), n ≤ 100000 → ∃ (cap : Nat) (cells : Array Value) (w2 : World), (callFunc f2 ⟨[.int .i64 (.ofNat n)]⟩).run P w = .ok (.value (.slice (some ⟨w.heap.size, 0, none⟩) n cap)) (w2.alloc (.cells cells el)) ∧
        n ≤ cap ∧ cells.size = cap ∧ (w2 = w.drew.drew ∨ w2 = w.drew)) : (mkEnv2 P f0 f1 f2 el).Ok where
  con := fun g c h => by
    have : (BT.nil : BT Con).get g = some c := h
    simp [BT.get] at this
  ctx := ⟨fun t i h => info_of (P := P) (by have := BT.get_ofList h; rw [Array.getElem?_toList] at this; exact this), fun f fn h => by have := BT.get_ofList h; rw [Array.getElem?_toList] at this; exact this⟩
  mixed := mixed
  names := fun f fn h hb => by
    have h1 := BT.get_ofList h
    have := List.all_eq_true.1 names fn (List.mem_of_getElem? h1)
    unfold nameOk at this
    cases hbn : fn.body with
    | none => exact absurd hbn hb
    | some c => rw [hbn] at this; simpa using this
  ext := fun f fn x hx h hb => by
    have h2 : (BT.put (some (Ext.makeNoZero el)) 20 (BT.put (some Ext.indexByte) 20 (BT.put (some Ext.same) 20 .nil f0) f1) f2).get f = some x := hx
    by_cases e3 : f = f2
    · subst e3
      have h5 : (f : Nat) < 500000 := hlt2
      rw [BT.get_put_same _ _ _ _ (Nat.lt_of_lt_of_le (Nat.succ_lt_succ h5) (by decide))] at h2
      cases h2
      exact hext2
    rw [BT.get_put_ne _ _ _ _ _ (fun h => e3 h.symm)] at h2
    by_cases e : f = f1
    · subst e
      have h5 : (f : Nat) < 500000 := hlt1
      rw [BT.get_put_same _ _ _ _ (Nat.lt_of_lt_of_le (Nat.succ_lt_succ h5) (by decide))] at h2
      cases h2
      exact fun b c w => hext1 b c w
    · rw [BT.get_put_ne _ _ _ _ _ (fun h => e h.symm)] at h2
      by_cases e2 : f = f0
      · subst e2
        have h5 : (f : Nat) < 500000 := hlt
        rw [BT.get_put_same _ _ _ _ (Nat.lt_of_lt_of_le (Nat.succ_lt_succ h5) (by decide))] at h2
        cases h2
        exact fun v w => hext v w
      · rw [BT.get_put_ne _ _ _ _ _ (fun h => e2 h.symm)] at h2
        simp [BT.get] at h2

theorem names_all : Tryz.prog.funcs.toList.all nameOk = true := by kernel_rfl

theorem ext258 (v : Value) (w : World) : (callFunc 258 ⟨[v]⟩).run Tryz.prog w = .ok (.value v) w := by
  have hb0 : Tryz.f258.body.isNone = true := by kernel_rfl
  have hb : Tryz.f258.body = none := Option.isNone_iff_eq_none.1 hb0
  have hn : (Tryz.f258.name == "runtime.NumGoroutine") = false := by kernel_rfl
  have h1 : Extern.findNext Tryz.f258 = none := by kernel_rfl
  have h2 : Extern.find Tryz.f258 = some Extern.AbiNoEscape.same := by kernel_rfl
  have h3 : (Extern.AbiNoEscape.same #[v]).run Tryz.prog w = .ok v w := rfl
  simp only [beq_eq_false_iff_ne, ne_eq] at hn
  simp [callFunc, Tryz.func258, hn, hb, h1, h2, h3]

theorem indexByte_run (P : Program) (b : ByteArray) (c : Nat) (w : World) : (Extern.BytealgIndexByte.indexByte ⟨[.string b, .int .u8 (.ofNat c)]⟩).run P w =
    .ok (match (List.range b.size).find? (fun i => b[i]! == UInt8.ofNat c) with | some i => goInt i | none => goInt (-1)) w := by
  have e : Extern.BytealgIndexByte.indexByte ⟨[.string b, .int .u8 (.ofNat c)]⟩ = (match (List.range b.size).find? (fun i => b[i]! == UInt8.ofNat c) with | some i => pure (goInt i) | none => pure (goInt (-1))) := rfl
  rw [e]
  cases (List.range b.size).find? (fun i => b[i]! == UInt8.ofNat c) <;> rfl

theorem ext318 (b : ByteArray) (c : Nat) (w : World) : (callFunc 318 ⟨[.string b, .int .u8 (.ofNat c)]⟩).run Tryz.prog w =
    .ok (.value (match (List.range b.size).find? (fun i => b[i]! == UInt8.ofNat c) with | some i => goInt i | none => goInt (-1))) w := by
  have hb0 : Tryz.f318.body.isNone = true := by kernel_rfl
  have hb : Tryz.f318.body = none := Option.isNone_iff_eq_none.1 hb0
  have hn : (Tryz.f318.name == "runtime.NumGoroutine") = false := by kernel_rfl
  have h1 : Extern.findNext Tryz.f318 = none := by kernel_rfl
  have h2 : Extern.find Tryz.f318 = some Extern.BytealgIndexByte.indexByte := by kernel_rfl
  have h3 := indexByte_run Tryz.prog b c w
  generalize (⟨[.string b, .int .u8 (.ofNat c)]⟩ : Array Value) = a at h3 ⊢
  generalize (match (List.range b.size).find? (fun i => b[i]! == UInt8.ofNat c) with | some i => goInt i | none => goInt (-1)) = r at h3 ⊢
  simp only [beq_eq_false_iff_ne, ne_eq] at hn
  simp [callFunc, Tryz.func318, hn, hb, h1, h2, h3]

noncomputable def gEnv0 : Env := mkEnv2 Tryz.prog 258 318 259 5
noncomputable def gEnv (cs : BT Con) : Env := conEnv gEnv0 cs
theorem ctx0 : gEnv0.toCtx.Ok := mkEnv2_ctx
theorem ext259 [Ops] : size? gEnv0.toCtx 5 = some 1 ∧ ∀ (n : Nat) (w : World), n ≤ 100000 → ∃ (cap : Nat) (cells : Array Value) (w2 : World), (callFunc 259 ⟨[.int .i64 (.ofNat n)]⟩).run Tryz.prog w = .ok (.value (.slice (some ⟨w.heap.size, 0, none⟩) n cap)) (w2.alloc (.cells cells 5)) ∧
        n ≤ cap ∧ cells.size = cap ∧ (w2 = w.drew.drew ∨ w2 = w.drew) := by
  refine ⟨by kernel_rfl, fun n w hn => ?_⟩
  have hb0 : Tryz.f259.body.isNone = true := by kernel_rfl
  have hb : Tryz.f259.body = none := Option.isNone_iff_eq_none.1 hb0
  have hnm : (Tryz.f259.name == "runtime.NumGoroutine") = false := by kernel_rfl
  have h1 : Extern.findNext Tryz.f259 = none := by kernel_rfl
  have h2 : Extern.find Tryz.f259 = some (Extern.BytealgMakeNoZero.makeNoZero Tryz.f259.params Tryz.f259.resultTypes) := by kernel_rfl
  obtain ⟨t, ht, hu⟩ : ∃ t, Tryz.f259.resultTypes[0]? = some t ∧ und gEnv0.toCtx t = some (.slice 5) := ⟨36, by kernel_rfl, by kernel_rfl⟩
  obtain ⟨cap, cells, w2, h3, h4⟩ := makeNoZero_run (C := gEnv0.toCtx) ctx0 (params := Tryz.f259.params) ht hu hn w
  refine ⟨cap, cells, w2, ?_, h4⟩
  have h3' : (Extern.BytealgMakeNoZero.makeNoZero Tryz.f259.params Tryz.f259.resultTypes ⟨[.int .i64 (.ofNat n)]⟩).run Tryz.prog w = _ := h3
  generalize (⟨[.int .i64 (.ofNat n)]⟩ : Array Value) = a at h3' ⊢
  generalize Extern.BytealgMakeNoZero.makeNoZero Tryz.f259.params Tryz.f259.resultTypes = mk at h2 h3'
  simp only [beq_eq_false_iff_ne, ne_eq] at hnm
  simp [callFunc, Tryz.func259, hnm, hb, h1, h2, h3']
theorem gEnv0_ok [Ops] : gEnv0.Ok := mkEnv2_ok (by decide) (by decide) (by decide) Tryz.checked.mixed names_all ext258 ext318 ext259
def cons0 : BT Con := .nil
theorem ok0 [Ops] : (gEnv cons0).Ok := gEnv0_ok
end Go.Abs
