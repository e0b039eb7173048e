/-
  THE ABSTRACT MACHINE: the orders of a region that draws one.
-/
import Derived.Test.YtahpijfhoopilaaGreatDoorAbsSub
import Derived.Test.YtahpijfhoopilaaGreatDoorAbsMach
set_option linter.unusedSectionVars false
set_option linter.unusedVariables false
set_option linter.unusedSimpArgs false
namespace Go.Abs
open Go
variable [Ops]

/-- what may be listed, from a set on -/
inductive Ord (ops : Array Oper) : Array Bool → List Nat → Prop where
  | nil {l : Array Bool} (h : Region.ready .any ops l = []) : Ord ops l []
  | cons {l : Array Bool} {i : Nat} {rest : List Nat} (h : i ∈ Region.ready .any ops l) (hs : Ord ops (l.setIfInBounds i true) rest) : Ord ops l (i :: rest)

theorem count_set : ∀ (l : List Bool) (i : Nat), l[i]? = some false → (l.set i true).count false + 1 = l.count false
  | [], i, h => by simp at h
  | x :: xs, 0, h => by simp at h; subst h; simp
  | x :: xs, i + 1, h => by
    have := count_set xs i (by simpa using h)
    cases x <;> simp [List.count_cons] <;> omega

theorem ready_nil_of_count {ops : Array Oper} {l : Array Bool} (hs : l.size = ops.size) (h : l.toList.count false = 0) : Region.ready .any ops l = [] := by
  apply List.eq_nil_iff_forall_not_mem.2
  intro i hi
  obtain ⟨h1, o, ho, _⟩ := mem_ready.1 hi
  have hlt : i < ops.size := (Array.getElem?_eq_some_iff.1 ho).1
  have h2 : l.toList[i]? = some false := by
    have : i < l.size := by omega
    simp [this] at h1 ⊢
    exact h1
  exact List.count_eq_zero.1 h (List.mem_of_getElem? h2)

theorem ord_go {ops : Array Oper} : ∀ (fuel t : Nat) (l : Array Bool), l.size = ops.size → l.toList.count false ≤ fuel → Ord ops l (Region.linearise.go .any ops fuel t l []) := by
  intro fuel
  induction fuel with
  | zero => intro t l hs hc; exact .nil (ready_nil_of_count hs (by omega))
  | succ fuel ih =>
    intro t l hs hc
    simp only [Region.linearise.go]
    change Ord ops l (match (Region.ready .any ops l)[t % (Region.ready .any ops l).length]? with
      | some i => Region.linearise.go .any ops fuel (t / (Region.ready .any ops l).length) (l.setIfInBounds i true) [i]
      | none => [].reverse)
    cases hi : (Region.ready .any ops l)[t % (Region.ready .any ops l).length]? with
    | none =>
      refine .nil ?_
      cases hr : Region.ready .any ops l with
      | nil => rfl
      | cons x xs =>
        rw [hr] at hi
        have hlt : t % (x :: xs).length < (x :: xs).length := Nat.mod_lt _ (by simp)
        simp at hi
        simp at hlt
        omega
    | some i =>
      have hm := List.mem_of_getElem? hi
      simp only []
      rw [linearise_go_acc, List.reverse_singleton, List.singleton_append]
      refine .cons hm (ih _ _ (by simpa using hs) ?_)
      obtain ⟨h1, o, ho, _⟩ := mem_ready.1 hm
      have hlt : i < ops.size := (Array.getElem?_eq_some_iff.1 ho).1
      have h2 : l.toList[i]? = some false := by
        have : i < l.size := by omega
        simp [this] at h1 ⊢
        exact h1
      have := count_set l.toList i h2
      rw [Array.toList_setIfInBounds]
      omega

theorem ord_linearise (ops : Array Oper) (t : Nat) : Ord ops (Array.replicate ops.size false) (Region.linearise .any ops t) := by
  unfold Region.linearise
  exact ord_go _ _ _ (by simp) (by simp)

/-! ## what is ahead -/
theorem testBit_subset {a b : Nat} (h : subset a b = true) {i : Nat} (hi : a.testBit i = true) : b.testBit i = true := by
  have h1 : Nat.land a b = a := Nat.eq_of_beq_eq_true h
  have h2 : (Nat.land a b).testBit i = true := by rw [h1]; exact hi
  have h3 : (a &&& b).testBit i = true := h2
  rw [Nat.testBit_and] at h3
  simp at h3
  exact h3.2

theorem subset_of {a b : Nat} (h : ∀ i, a.testBit i = true → b.testBit i = true) : subset a b = true := by
  have : a &&& b = a := by
    apply Nat.eq_of_testBit_eq
    intro i
    rw [Nat.testBit_and]
    cases ha : a.testBit i with
    | false => rfl
    | true => simp [h i ha]
  unfold subset
  have h2 : Nat.land a b = a := this
  rw [h2]; exact Nat.beq_refl a

theorem testBit_lor {a b i : Nat} : (Nat.lor a b).testBit i = (a.testBit i || b.testBit i) := Nat.testBit_or a b i

/-- closed under what is ahead -/
def EC (ops : Array Oper) (D : Nat → Bool) : Prop :=
  ∀ i o e, D i = true → ops[i]? = some o → e ∈ o.after → Region.binds .any e = true → D e.on = true

theorem maskE_spec {D : Nat → Bool} {acc : List Nat} (hacc : ∀ i, D i = true → ∀ j, (lnth acc i).testBit j = true → D j = true) :
    ∀ (es : List Edge), (∀ e ∈ es, Region.binds .any e = true → D e.on = true) → ∀ j, (maskE acc es).testBit j = true → D j = true
  | [], _, j, h => by simp [maskE] at h
  | e :: es, hes, j, h => by
    unfold maskE at h
    split at h
    · rename_i hb
      rw [testBit_lor, testBit_lor] at h
      have hon := hes e (by simp) hb
      simp only [Bool.or_eq_true] at h
      rcases h with (h | h) | h
      · rw [Nat.testBit_two_pow] at h
        simp at h
        rw [← h]; exact hon
      · exact hacc _ hon _ h
      · exact maskE_spec hacc es (fun e' he' => hes e' (by simp [he'])) j h
    · exact maskE_spec hacc es (fun e' he' => hes e' (by simp [he'])) j h

theorem lnth_append {acc : List Nat} {m i : Nat} : lnth (acc ++ [m]) i = if i = acc.length then m else lnth acc i := by
  unfold lnth
  rw [lget_eq, lget_eq]
  split
  · rename_i h
    rw [List.getElem?_append] at h
    split at h
    · rename_i hlt; rw [h, if_neg (by omega)]
    · rename_i hlt
      split
      · rename_i he; subst he; simp at h; exact h.symm
      · rename_i he
        have : i - acc.length ≠ 0 := by omega
        obtain ⟨k, hk⟩ := Nat.exists_eq_succ_of_ne_zero this
        rw [hk] at h; simp at h
  · rename_i h
    rw [List.getElem?_append] at h
    split at h
    · rename_i hlt; rw [h, if_neg (by omega)]
    · rename_i hlt
      have : i ≠ acc.length := fun he => by subst he; simp at h
      rw [if_neg this, List.getElem?_eq_none (by omega)]

theorem befs_spec {ops : Array Oper} {D : Nat → Bool} (hec : EC ops D) (hr0 : ∀ i, D i = true → ∃ o, ops[i]? = some o) : ∀ (rest : List Oper) (acc : List Nat),
    (∀ i, rest[i]? = ops[acc.length + i]?) →
    (∀ i o, ops[i]? = some o → (∀ e ∈ o.after, Region.binds .any e = true → D e.on = true) → ∀ j, (lnth acc i).testBit j = true → D j = true) →
    (∀ i o, ops[i]? = some o → (∀ e ∈ o.after, Region.binds .any e = true → D e.on = true) → ∀ j, (lnth (befs rest acc) i).testBit j = true → D j = true)
  | [], acc, _, h => h
  | o :: rest, acc, hr, h => by
    unfold befs
    refine befs_spec hec hr0 rest _ (fun i => ?_) (fun i o' ho' hes j hj => ?_)
    · have := hr (i + 1)
      rw [List.getElem?_cons_succ] at this
      rw [this]
      simp
      congr 1
      omega
    · rw [lnth_append] at hj
      split at hj
      · rename_i hi
        have h0 := hr 0
        simp at h0
        rw [hi, ← h0] at ho'
        cases ho'
        refine maskE_spec (fun i hD j hj => ?_) _ (fun e he => hes e (Array.mem_def.2 he)) j hj
        obtain ⟨oi, hoi⟩ := hr0 i hD
        exact h i oi hoi (fun e he hb => hec i oi e hD hoi he hb) j hj
      · exact h i o' ho' hes j hj

/-- those that are listed -/
def dn (l : Array Bool) (i : Nat) : Bool := l.getD i false

theorem dn_range {ops : Array Oper} {l : Array Bool} (hs : l.size = ops.size) {i : Nat} (h : dn l i = true) : ∃ o, ops[i]? = some o := by
  unfold dn at h
  have hlt : i < l.size := by
    rcases Nat.lt_or_ge i l.size with h' | h'
    · exact h'
    · simp [Array.getElem?_eq_none h'] at h
  exact ⟨_, Array.getElem?_eq_getElem (by omega)⟩

/-- one that may be listed -/
theorem ready_spec {ops : Array Oper} {l : Array Bool} (hec : EC ops (dn l)) (hs : l.size = ops.size) {i : Nat} (h : i ∈ Region.ready .any ops l) :
    dn l i = false ∧ ∃ o, ops[i]? = some o ∧ (∀ e ∈ o.after, Region.binds .any e = true → dn l e.on = true) ∧
      ∀ j, (lnth (befs ops.toList []) i).testBit j = true → dn l j = true := by
  obtain ⟨h1, o, ho, h2⟩ := mem_ready.1 h
  refine ⟨?_, o, ho, h2, ?_⟩
  · have hlt : i < l.size := by rw [hs]; exact (Array.getElem?_eq_some_iff.1 ho).1
    unfold dn
    simp [hlt] at h1 ⊢
    exact h1
  · exact befs_spec hec (fun i hi => dn_range hs hi) ops.toList [] (fun i => by simp) (fun i o _ _ j hj => by simp [lnth, lget] at hj) i o ho h2

theorem dn_set {l : Array Bool} {i : Nat} (hi : i < l.size) (j : Nat) : dn (l.setIfInBounds i true) j = (Nat.beq j i || dn l j) := by
  unfold dn
  by_cases e : i = j
  · subst e; simp [hi, Nat.beq_refl]
  · have : Nat.beq j i = false := by
      cases hb : Nat.beq j i with
      | false => rfl
      | true => exact absurd (Nat.eq_of_beq_eq_true hb).symm e
    rw [this]
    simp [Array.getElem?_setIfInBounds_ne e]

theorem ec_set {ops : Array Oper} {l : Array Bool} (hec : EC ops (dn l)) (hs : l.size = ops.size) {i : Nat} (h : i ∈ Region.ready .any ops l) : EC ops (dn (l.setIfInBounds i true)) := by
  obtain ⟨_, o, ho, h2, _⟩ := ready_spec hec hs h
  have hi : i < l.size := by rw [hs]; exact (Array.getElem?_eq_some_iff.1 ho).1
  intro k ok e hk hok he hb
  rw [dn_set hi] at hk ⊢
  simp only [Bool.or_eq_true] at hk ⊢
  rcases hk with hk | hk
  · have := Nat.eq_of_beq_eq_true hk
    subst this
    rw [ho] at hok
    cases hok
    exact .inr (h2 e he hb)
  · exact .inr (hec k ok e hk hok he hb)

theorem edgesBack_spec : ∀ (l : List Oper) (k : Nat), edgesBack l k = true → ∀ i o, l[i]? = some o → ∀ e ∈ o.after, Region.binds .any e = true → e.on < k + i
  | [], _, _, i, o, h, _, _, _ => by simp at h
  | x :: xs, k, h, i, o, ho, e, he, hb => by
    simp only [edgesBack, Bool.and_eq_true] at h
    cases i with
    | zero =>
      simp at ho; subst ho
      have := List.all_eq_true.1 h.1 e (Array.mem_def.1 he)
      rw [hb] at this
      simp at this
      omega
    | succ i =>
      have := edgesBack_spec xs (k + 1) h.2 i o (by simpa using ho) e he hb
      omega

/-- when nothing may be listed any more, all are -/
theorem all_listed {ops : Array Oper} {l : Array Bool} (hs : l.size = ops.size) (hb : edgesBack ops.toList 0 = true) (h : Region.ready .any ops l = []) :
    ∀ i, i < ops.size → dn l i = true := by
  intro i
  induction i using Nat.strongRecOn with
  | ind i ih =>
    intro hi
    cases hd : dn l i with
    | true => rfl
    | false =>
      exfalso
      have : i ∈ Region.ready .any ops l := by
        refine mem_ready.2 ⟨?_, ops[i], Array.getElem?_eq_getElem hi, fun e he hbe => ?_⟩
        · have hlt : i < l.size := by omega
          unfold dn at hd
          simp [hlt] at hd ⊢
          exact hd
        · have := edgesBack_spec ops.toList 0 hb i ops[i] (by simp [hi]) e he hbe
          exact ih e.on (by omega) (by omega)
      rw [h] at this
      cases this

/-! ## the abstract machine's choice -/
theorem pickOne_some {early : Bool} : ∀ {ops : List Oper} {bef : List Nat} {done k i : Nat}, pickOne early ops bef done k = some i →
    ∃ o, k ≤ i ∧ ops[i - k]? = some o ∧ isEarly o = early ∧ done.testBit i = false
  | [], _, _, _, _, h => by simp [pickOne] at h
  | _ :: _, [], _, _, _, h => by simp [pickOne] at h
  | o :: ops, m :: bef, done, k, i, h => by
    unfold pickOne at h
    split at h
    · rename_i hc
      cases h
      simp only [Bool.and_eq_true, beq_iff_eq, Bool.not_eq_true'] at hc
      exact ⟨o, Nat.le_refl _, by simp, hc.1, hc.2.1⟩
    · obtain ⟨o', h1, h2, h3⟩ := pickOne_some h
      refine ⟨o', by omega, ?_, h3⟩
      have : i - k = (i - (k + 1)) + 1 := by omega
      rw [this]; simpa using h2

theorem pickOne_none {early : Bool} : ∀ {ops : List Oper} {bef : List Nat} {done k : Nat}, bef.length = ops.length → pickOne early ops bef done k = none →
    ∀ j o, ops[j]? = some o → isEarly o = early → subset (lnth bef j) done = true → done.testBit (k + j) = true
  | [], _, _, _, _, _, j, o, h, _, _ => by simp at h
  | _ :: _, [], _, _, hl, _, _, _, _, _, _ => by simp at hl
  | o :: ops, m :: bef, done, k, hl, h, j, o', hj, he, hs => by
    unfold pickOne at h
    split at h
    · cases h
    · rename_i hc
      cases j with
      | zero =>
        simp at hj; subst hj
        simp [lnth, lget] at hs
        cases hd : done.testBit (k + 0) with
        | true => rfl
        | false =>
          simp at hd
          rw [hd, hs, he] at hc
          simp at hc
      | succ j =>
        have := pickOne_none (by simpa using hl) h j o' (by simpa using hj) he (by simpa [lnth, lget] using hs)
        rw [← this]; congr 1; omega

theorem sole_spec {c : Nat} : ∀ {ops : List Oper} {bef : List Nat} {done k : Nat}, bef.length = ops.length → sole c ops bef done k = true →
    ∀ j o, ops[j]? = some o → isEarly o = false → subset (lnth bef j) done = true → done.testBit (k + j) = false → k + j = c
  | [], _, _, _, _, _, j, o, h, _, _, _ => by simp at h
  | _ :: _, [], _, _, hl, _, _, _, _, _, _, _ => by simp at hl
  | o :: ops, m :: bef, done, k, hl, h, j, o', hj, he, hs, hd => by
    unfold sole at h
    simp only [Bool.and_eq_true] at h
    cases j with
    | zero =>
      simp at hj; subst hj
      simp [lnth, lget] at hs
      simp at hd
      rw [he, hd, hs] at h
      simp at h
      omega
    | succ j =>
      have := sole_spec (by simpa using hl) h.2 j o' (by simpa using hj) he (by simpa [lnth, lget] using hs) (by rw [← hd]; congr 1; omega)
      omega

theorem befs_length : ∀ (ops : List Oper) (acc : List Nat), (befs ops acc).length = acc.length + ops.length
  | [], acc => by simp [befs]
  | o :: ops, acc => by rw [befs, befs_length]; simp; omega

theorem full_spec {done n : Nat} (h : Nat.beq (Nat.land done (2 ^ n - 1)) (2 ^ n - 1) = true) : ∀ i, i < n → done.testBit i = true := by
  intro i hi
  have h1 : done &&& (2 ^ n - 1) = 2 ^ n - 1 := Nat.eq_of_beq_eq_true h
  have h2 : (done &&& (2 ^ n - 1)).testBit i = true := by rw [h1, Nat.testBit_two_pow_sub_one]; simp [hi]
  rw [Nat.testBit_and] at h2
  simp at h2
  exact h2.1

theorem memN_iff {t : Nat} : ∀ {l : List Nat}, memN t l = true ↔ t ∈ l
  | [] => by simp [memN]
  | x :: xs => by
    simp only [memN, Bool.or_eq_true, memN_iff, List.mem_cons]
    constructor
    · rintro (h | h)
      · exact .inl (Nat.eq_of_beq_eq_true h).symm
      · exact .inr h
    · rintro (h | h)
      · subst h; exact .inl (Nat.beq_refl _)
      · exact .inr h
end Go.Abs
