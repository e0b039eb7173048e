/-
  commonplacelaw30.known: it returns true, and leaves alone what there was.
-/
import Derived.Test.YtbnlcffnmlgomaaGreatDoorAbsTop
import Derived.Test.YtbnlcffnmlgomaaGreatDoorChecked
import Derived.KernelRfl
set_option linter.unusedSectionVars false
set_option linter.unusedVariables false
set_option linter.unusedSimpArgs false
namespace Go.Abs
open Go Go.Proofs

/-- no values but those that are known -/
@[reducible] def noOps : Ops := ⟨fun _ => .nilIface, fun _ => rfl, fun _ => rfl⟩

noncomputable def mkEnv (P : Program) (f : FuncId) : Env := { P, ty := BT.ofList P.types.toList, fns := BT.ofList P.funcs.toList, ext := BT.put (some Ext.same) 20 .nil f, con := .nil, ng := 0 }

def nameOk (fn : Func) : Bool := fn.body.isNone || !(fn.name == "runtime.NumGoroutine")

theorem info_of {P : Program} {t : TypeId} {i : TypeInfo} (h : P.types[t]? = some i) : P.info? t = some i := by
  unfold Tables.info?
  have : t < P.types.size := (Array.getElem?_eq_some_iff.1 h).1
  rw [if_pos this]; exact h

theorem mkEnv_ok [Ops] {P : Program} {f0 : FuncId} (hlt : f0 < LIMIT) (mixed : P.follows .mixedOrders = true) (names : P.funcs.toList.all nameOk = true) (hext : ∀ v w, (callFunc f0 ⟨[v]⟩).run P w = .ok (.value v) w) : (mkEnv P f0).Ok where
  con := fun g c h => by
    have : (BT.nil : BT Con).get g = some c := h
    simp [BT.get] at this
  ctx := ⟨fun t i h => info_of (P := P) (by have := BT.get_ofList h; rw [Array.getElem?_toList] at this; exact this), fun f fn h => by have := BT.get_ofList h; rw [Array.getElem?_toList] at this; exact this⟩
  mixed := mixed
  names := fun f fn h hb => by
    have h1 := BT.get_ofList h
    have := List.all_eq_true.1 names fn (List.mem_of_getElem? h1)
    unfold nameOk at this
    cases hbn : fn.body with
    | none => exact absurd hbn hb
    | some c => rw [hbn] at this; simpa using this
  ext := fun f fn x hx h hb => by
    by_cases e : f = f0
    · subst e
      have h2 : (BT.put (some Ext.same) 20 .nil f).get f = some x := hx
      have h5 : (f : Nat) < 500000 := hlt
      rw [BT.get_put_same (some Ext.same) 20 .nil f (Nat.lt_of_lt_of_le (Nat.succ_lt_succ h5) (by decide))] at h2
      cases h2
      exact fun v w => hext v w
    · have : (BT.put (some Ext.same) 20 .nil f0).get f = some x := hx
      rw [BT.get_put_ne _ _ _ _ _ (fun h => e h.symm)] at this
      simp [BT.get] at this

theorem names_all : Tryz.prog.funcs.toList.all nameOk = true := by kernel_rfl

theorem ext347 (v : Value) (w : World) : (callFunc 347 ⟨[v]⟩).run Tryz.prog w = .ok (.value v) w := by
  have hb0 : Tryz.f347.body.isNone = true := by kernel_rfl
  have hb : Tryz.f347.body = none := Option.isNone_iff_eq_none.1 hb0
  have hn : (Tryz.f347.name == "runtime.NumGoroutine") = false := by kernel_rfl
  have h1 : Extern.findNext Tryz.f347 = none := by kernel_rfl
  have h2 : Extern.find Tryz.f347 = some Extern.AbiNoEscape.same := by kernel_rfl
  have h3 : (Extern.AbiNoEscape.same #[v]).run Tryz.prog w = .ok v w := rfl
  simp only [beq_eq_false_iff_ne, ne_eq] at hn
  simp [callFunc, Tryz.func347, hn, hb, h1, h2, h3]

theorem envOk [Ops] : (mkEnv Tryz.prog 347).Ok := mkEnv_ok (by decide) Tryz.checked.mixed names_all ext347

theorem known30_out : outcomeS (mkEnv Tryz.prog 347) 9 [] .nil 0 10200 = some (.bool true) := by kernel_rfl

/-- commonplacelaw30.known, called in whatever world: true; nothing that there was is another one -/
theorem known30 (w : World) : Calls Tryz.prog 9 #[] w fun e w' => e = .returned (.bool true) ∧ RowKit.Below w.heap.size w w' :=
  letI := noOps
  calls_of_outcome envOk rfl rfl known30_out w
end Go.Abs
