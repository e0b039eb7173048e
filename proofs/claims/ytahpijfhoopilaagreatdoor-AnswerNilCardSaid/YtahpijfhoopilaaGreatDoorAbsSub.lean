/-
  THE ABSTRACT MACHINE: with more blocks at hand its operations do the same.
-/
import Derived.Test.YtahpijfhoopilaaGreatDoorAbsEff4
set_option linter.unusedSectionVars false
set_option linter.unusedVariables false
set_option linter.unusedSimpArgs false
namespace Go.Abs
open Go
variable [Ops]

def Sub (H Hs : AHeap) : Prop := ∀ b x, H.get b = some x → Hs.get b = some x

section
variable {C : Ctx} {H Hs : AHeap} (hs : Sub H Hs) {nx : Nat} {ρ : Operand → Value} {o : Oper}
include hs

theorem getCells_sub {b : Nat} {l : List Value} (h : getCells H b = some l) : getCells Hs b = some l := by
  obtain ⟨et, kind, hg⟩ := getCells_spec h
  simp [getCells, hs _ _ hg]

theorem readCells_sub {b o n : Nat} {l : List Value} (h : readCells H b o n = some l) : readCells Hs b o n = some l := by
  unfold readCells at h ⊢
  split at h
  · rename_i hg; rw [getCells_sub hs hg]; exact h
  · cases h

theorem loadV_sub {t : TypeId} {b o : Nat} {v : Value} (h : loadV C H t b o = some v) : loadV C Hs t b o = some v := by
  unfold loadV at h ⊢
  cases hd : und C t with
  | none => simp [hd] at h
  | some d =>
    simp only [hd] at h ⊢
    cases ha : aggD d with
    | true =>
      simp only [ha] at h ⊢
      cases hn : size? C t with
      | none => simp [hn] at h
      | some n =>
        simp only [hn] at h ⊢
        cases hl : readCells H b o n with
        | none => simp [hl] at h
        | some l => rw [readCells_sub hs hl]; rw [hl] at h; exact h
    | false =>
      simp only [ha] at h ⊢
      cases hl : getCells H b with
      | none => simp [hl] at h
      | some l => rw [getCells_sub hs hl]; rw [hl] at h; exact h

theorem entriesOf_sub {x : Value} {es : List (Value × Value × Nat)} (h : entriesOf H x = some es) : entriesOf Hs x = some es := by
  unfold entriesOf at h
  split at h
  · cases h; rfl
  · split at h
    · rename_i hg; cases h; simp [entriesOf, hs _ _ hg]
    · cases h
  · cases h

theorem srcCells_sub {n sz : Nat} {x : Value} {vs : List Value} (h : srcCells H n sz x = some vs) : srcCells Hs n sz x = some vs := by
  unfold srcCells at h ⊢
  split at h
  · exact readCells_sub hs h
  · exact h
  · exact h
  · cases h

theorem quiet_sub {r : Value × Option AObj} (h : quiet C H nx ρ o = some r) : quiet C Hs nx ρ o = some r := by
  cases ho : o.op with
  | load t a =>
    simp only [quiet, ho] at h ⊢
    split at h
    · split at h
      · rename_i hl; rw [loadV_sub hs hl]; exact h
      · cases h
    · cases h
  | convert s d x =>
    simp only [quiet, ho] at h ⊢
    split at h
    · split at h
      · rename_i hg; rw [hs _ _ hg]; simp only [*]
      · rename_i hg; rw [hs _ _ hg]; simp only [*]
      · cases h
    · exact h
    · cases h
  | slice t x lo hi mx =>
    simp only [quiet, ho] at h ⊢
    split at h
    · exact h
    · split at h
      · split at h
        · split at h
          · split at h
            · split at h
              · exact h
              · split at h
                · split at h
                  · exact h
                  · split at h
                    · exact h
                    · rename_i hlen
                      split at h
                      · rename_i hlt hg
                        rw [hs _ _ hg]
                        simp only [hlt]
                        exact h
                      · cases h
                · exact h
              · cases h
            · cases h
          · exact h
          · cases h
        · cases h
      · cases h
    · exact h
    · cases h
  | lookup t x ix ok =>
    simp only [quiet, ho] at h ⊢
    cases hd : und C t with
    | none => simp [hd] at h
    | some d =>
      simp only [hd] at h ⊢
      split at h
      · split at h
        · split at h
          · cases he : entriesOf H (ρ x) with
            | none => simp [he] at h
            | some es => rw [he] at h; rw [entriesOf_sub hs he]; exact h
          · cases h
        · cases h
      · cases h
  | range t x =>
    simp only [quiet, ho] at h ⊢
    split at h
    · exact h
    · split at h
      · rename_i hg; rw [hs _ _ hg]; exact h
      · cases h
    · cases h
  | entry it =>
    simp only [quiet, ho] at h ⊢
    split at h
    · split at h
      · rename_i hg
        split at h
        · rename_i hg2; rw [hs _ _ hg]; simp only []; rw [hs _ _ hg2]; exact h
        · cases h
      · rename_i hg; rw [hs _ _ hg]; exact h
      · cases h
    · cases h
  | call c =>
    simp only [quiet, ho] at h ⊢
    split at h
    · split at h
      · split at h
        · exact h
        · exact h
        · exact h
        · split at h
          · rename_i hg; rw [hs _ _ hg]; exact h
          · cases h
        · cases h
      · cases h
    all_goals exact h
  | _ => simp only [quiet, ho] at h ⊢; exact h


end

section
variable {C : Ctx} {H Hs : AHeap} {nx : Nat} {ρ : Operand → Value} {o : Oper}

/-- what an effect leaves of blocks that it doesn't know -/
structure Keep (nx : Nat) (H Hs H' Hs' : AHeap) : Prop where
  sub : Sub H' Hs'
  old : ∀ b, b < nx → H.get b = none → H'.get b = none ∧ Hs'.get b = Hs.get b

theorem Keep.refl (hs : Sub H Hs) : Keep nx H Hs H Hs := ⟨hs, fun _ _ h => ⟨h, rfl⟩⟩

theorem Keep.hput (hs : Sub H Hs) (hnx : nx < LIMIT) {b : Nat} {x y : AObj} (hb : b < LIMIT) (hg : H.get b = some y) : Keep nx H Hs (hput H b x) (hput Hs b x) := by
  refine ⟨fun c z hc => ?_, fun c hc hn => ?_⟩
  · by_cases e : b = c
    · subst e; rw [hput_same hb] at hc ⊢; exact hc
    · rw [hput_ne e] at hc ⊢; exact hs _ _ hc
  · have e : b ≠ c := fun e => by subst e; rw [hg] at hn; cases hn
    rw [hput_ne e, hput_ne e]
    exact ⟨hn, rfl⟩

theorem Keep.new (hs : Sub H Hs) (hnx : nx < LIMIT) {x : AObj} : Keep nx H Hs (Abs.hput H nx x) (Abs.hput Hs nx x) := by
  refine ⟨fun c z hc => ?_, fun c hc hn => ?_⟩
  · by_cases e : nx = c
    · subst e; rw [hput_same hnx] at hc ⊢; exact hc
    · rw [hput_ne e] at hc ⊢; exact hs _ _ hc
  · have e : nx ≠ c := by omega
    rw [hput_ne e, hput_ne e]
    exact ⟨hn, rfl⟩

theorem Keep.move (hs : Sub H Hs) (hnx : nx < LIMIT) {b : Nat} {x y : AObj} (hb : b < nx) (hg : H.get b = some y) : Keep nx H Hs (Abs.hput (hdel H b) nx x) (Abs.hput (hdel Hs b) nx x) := by
  refine ⟨fun c z hc => ?_, fun c hc hn => ?_⟩
  · by_cases e : nx = c
    · subst e; rw [hput_same hnx] at hc ⊢; exact hc
    · rw [hput_ne e] at hc ⊢
      by_cases e' : b = c
      · subst e'; rw [hdel_same (by omega)] at hc; cases hc
      · rw [hdel_ne e'] at hc ⊢; exact hs _ _ hc
  · have e : nx ≠ c := by omega
    have e' : b ≠ c := fun e => by subst e; rw [hg] at hn; cases hn
    rw [hput_ne e, hput_ne e, hdel_ne e', hdel_ne e']
    exact ⟨hn, rfl⟩

theorem append_sub (hs : Sub H Hs) (hnx : nx < LIMIT) (hlt : ∀ b x, H.get b = some x → b < nx) {t : TypeId} {s x : Value} {e : Eff} (h : append C H nx t s x = some e) :
    ∃ v H' Hs' nx', e = .val v H' nx' ∧ append C Hs nx t s x = some (.val v Hs' nx') ∧ Keep nx H Hs H' Hs' ∧ nx ≤ nx' := by
  unfold append at h ⊢
  split at h
  · split at h
    · split at h
      · rename_i hsrc hsm
        rw [srcCells_sub hs hsrc]
        simp only [hsm]
        split at h
        · split at h
          · cases h; exact ⟨_, _, Hs, _, rfl, rfl, Keep.refl hs, Nat.le_refl _⟩
          · cases h
        · split at h
          · split at h
            · split at h
              · split at h
                · rename_i hg
                  rw [hs _ _ hg]
                  split at h
                  · cases h
                    exact ⟨_, _, _, _, rfl, by simp only [*], Keep.hput hs hnx (Nat.lt_trans (hlt _ _ hg) hnx) hg, Nat.le_refl _⟩
                  · cases h
                · cases h
              · cases h
            · split at h
              · rename_i hold
                rw [srcCells_sub hs hold]
                cases h
                exact ⟨_, _, _, _, rfl, rfl, Keep.new hs hnx, by omega⟩
              · cases h
          · split at h
            · split at h
              · rename_i hg
                rw [hs _ _ hg]
                split at h
                · cases h
                  exact ⟨_, _, _, _, rfl, by simp only [*], Keep.move hs hnx (hlt _ _ hg) hg, by omega⟩
                · cases h
              · cases h
            · cases h
      · cases h
    · cases h
  · cases h


theorem mapPut_sub (hs : Sub H Hs) (hnx : nx < LIMIT) (hlt : ∀ b x, H.get b = some x → b < nx) {t : TypeId} {m k x : Value} {e : Eff} (h : mapPut C H nx t m k x = some e) :
    ∃ v H' Hs' nx', e = .val v H' nx' ∧ mapPut C Hs nx t m k x = some (.val v Hs' nx') ∧ Keep nx H Hs H' Hs' ∧ nx ≤ nx' := by
  unfold mapPut at h ⊢
  split at h
  · split at h
    · rename_i hkd hg
      simp only [hkd, hs _ _ hg]
      split at h
      · split at h
        · cases h
          exact ⟨_, _, _, _, rfl, rfl, Keep.hput hs hnx (Nat.lt_trans (hlt _ _ hg) hnx) hg, Nat.le_refl _⟩
        · split at h
          · cases h
            exact ⟨_, _, _, _, rfl, rfl, Keep.hput hs hnx (Nat.lt_trans (hlt _ _ hg) hnx) hg, Nat.le_refl _⟩
          · cases h
        · cases h
      · cases h
    · cases h
  · cases h

theorem mapDel_sub (hs : Sub H Hs) (hnx : nx < LIMIT) (hlt : ∀ b x, H.get b = some x → b < nx) {t : TypeId} {m k : Value} {e : Eff} (h : mapDel C H nx t m k = some e) :
    ∃ v H' Hs' nx', e = .val v H' nx' ∧ mapDel C Hs nx t m k = some (.val v Hs' nx') ∧ Keep nx H Hs H' Hs' ∧ nx ≤ nx' := by
  unfold mapDel at h ⊢
  split at h
  · split at h
    · rename_i hkd hg
      simp only [hkd, hs _ _ hg]
      split at h
      · split at h
        · cases h
          exact ⟨_, _, _, _, rfl, rfl, Keep.hput hs hnx (Nat.lt_trans (hlt _ _ hg) hnx) hg, Nat.le_refl _⟩
        · cases h
          exact ⟨_, _, _, _, rfl, rfl, Keep.hput hs hnx (Nat.lt_trans (hlt _ _ hg) hnx) hg, Nat.le_refl _⟩
        · cases h
      · cases h
    · cases h
  · cases h

/-- what an effect comes to is the same with more blocks at hand -/
def EffSub (nx : Nat) (H Hs : AHeap) : Eff → Eff → Prop
  | .val v H' nx', .val v2 Hs' nx2 => v2 = v ∧ nx2 = nx' ∧ Keep nx H Hs H' Hs' ∧ nx ≤ nx'
  | .enter f a, .enter g b => g = f ∧ b = a
  | .round f a, .round g b => g = f ∧ b = a
  | .defer d, .defer d2 => d2 = d
  | .recover, .recover => True
  | _, _ => False

theorem effect_sub (hs : Sub H Hs) (hnx : nx < LIMIT) (hlt : ∀ b x, H.get b = some x → b < nx) {e : Eff} (h : effect C H nx ρ o = some e) : ∃ e2, effect C Hs nx ρ o = some e2 ∧ EffSub nx H Hs e e2 := by
  cases ho : o.op with
  | store t a x =>
    simp only [effect, ho] at h ⊢
    split at h
    · split at h
      · rename_i hc hg
        simp only [hc, hs _ _ hg]
        split at h
        · rename_i hk hput
          cases h
          exact ⟨_, rfl, rfl, rfl, Keep.hput hs hnx (Nat.lt_trans (hlt _ _ hg) hnx) hg, Nat.le_refl _⟩
        · cases h
      · cases h
    · cases h
  | convert s d x =>
    simp only [effect, ho] at h ⊢
    split at h
    · split at h
      · rename_i h1 h2 h3
        cases h
        exact ⟨_, rfl, rfl, rfl, Keep.new hs hnx, Nat.le_succ _⟩
      · cases h
    · split at h
      · rename_i hel hcs
        rw [readCells_sub hs hcs]
        simp only [hel]
        split at h
        · rename_i hbs
          cases h
          exact ⟨_, rfl, rfl, rfl, Keep.refl hs, Nat.le_refl _⟩
        · cases h
      · cases h
    · cases h
  | binOp op t x y u =>
    simp only [effect, ho] at h ⊢
    split at h
    · split at h
      · rename_i h1 h2 h3 h4
        simp only [h1, h2, hs _ _ h3, hs _ _ h4]
        split at h
        · rename_i h5
          first
            | simp only [h5]
            | skip
          cases h
          exact ⟨_, rfl, rfl, rfl, Keep.refl hs, Nat.le_refl _⟩
        · rename_i h5
          first
            | simp only [h5]
            | skip
          cases h
          exact ⟨_, rfl, rfl, rfl, Keep.refl hs, Nat.le_refl _⟩
        · cases h
      · cases h
    · cases h
  | mapUpdate t m k x =>
    simp only [effect, ho] at h ⊢
    obtain ⟨v, H', Hs', nx', rfl, h2, h3, h4⟩ := mapPut_sub hs hnx hlt h
    exact ⟨_, h2, rfl, rfl, h3, h4⟩
  | insert t m k x =>
    simp only [effect, ho] at h ⊢
    obtain ⟨v, H', Hs', nx', rfl, h2, h3, h4⟩ := mapPut_sub hs hnx hlt h
    exact ⟨_, h2, rfl, rfl, h3, h4⟩
  | next it b =>
    cases b with
    | true => simp [effect, ho] at h
    | false =>
      simp only [effect, ho] at h ⊢
      split at h
      · split at h
        · rename_i hg
          simp only [hs _ _ hg]
          cases h
          exact ⟨_, rfl, rfl, rfl, Keep.refl hs, Nat.le_refl _⟩
        · rename_i hg
          simp only [hs _ _ hg]
          split at h
          · rename_i hg2
            simp only [hs _ _ hg2]
            cases h
            exact ⟨_, rfl, rfl, rfl, Keep.refl hs, Nat.le_refl _⟩
          · rename_i hg2
            simp only [hs _ _ hg2]
            split at h
            · split at h
              · rename_i hb
                cases h
                exact ⟨_, rfl, rfl, rfl, Keep.hput hs hnx (Nat.lt_trans (hlt _ _ hg) hnx) hg, Nat.le_refl _⟩
              · cases h
            · split at h
              · rename_i hb
                cases h
                exact ⟨_, rfl, rfl, rfl, Keep.refl hs, Nat.le_refl _⟩
              · cases h
            · cases h
          · cases h
        · cases h
      · cases h
  | defer c =>
    simp only [effect, ho] at h ⊢
    refine ⟨e, h, ?_⟩
    split at h
    · split at h
      · cases h; rfl
      · cases h
    · cases h
  | call c =>
    cases hc : c.callee with
    | value f =>
      simp only [effect, ho, hc] at h ⊢
      refine ⟨e, h, ?_⟩
      unfold callV at h
      split at h
      · cases h; exact ⟨rfl, rfl⟩
      · cases h; exact ⟨rfl, rfl⟩
      · cases h
    | invoke r m => simp [effect, ho, hc] at h
    | builtin b =>
      cases b with
      | append =>
        simp only [effect, ho, hc] at h ⊢
        split at h
        · split at h
          · obtain ⟨v, H', Hs', nx', rfl, h2, h3, h4⟩ := append_sub hs hnx hlt h
            exact ⟨_, h2, rfl, rfl, h3, h4⟩
          · obtain ⟨v, H', Hs', nx', rfl, h2, h3, h4⟩ := append_sub hs hnx hlt h
            exact ⟨_, h2, rfl, rfl, h3, h4⟩
          · cases h
        · cases h
      | recover => simp only [effect, ho, hc] at h ⊢; exact ⟨e, h, by cases h; trivial⟩
      | copy =>
        simp only [effect, ho, hc] at h ⊢
        split at h
        · split at h
          · split at h
            · cases h
              exact ⟨_, rfl, rfl, rfl, Keep.refl hs, Nat.le_refl _⟩
            · cases h
          · cases h
        · cases h
      | delete =>
        simp only [effect, ho, hc] at h ⊢
        split at h
        · obtain ⟨v, H', Hs', nx', rfl, h2, h3, h4⟩ := mapDel_sub hs hnx hlt h
          exact ⟨_, h2, rfl, rfl, h3, h4⟩
        · cases h
      | unsafeString =>
        simp only [effect, ho, hc] at h ⊢
        split at h
        · split at h
          · rename_i hn hg hu
            simp only [hn, hs _ _ hg, hu]
            split at h
            · rename_i h1 h2 h3
              split at h
              · cases h
                exact ⟨_, rfl, rfl, rfl, Keep.hput hs hnx (Nat.lt_trans (hlt _ _ hg) hnx) hg, Nat.le_refl _⟩
              · cases h
            · cases h
          · cases h
        · split at h
          · cases h
            exact ⟨_, rfl, rfl, rfl, Keep.refl hs, Nat.le_refl _⟩
          · cases h
        · cases h
      | _ => simp [effect, ho, hc] at h
  | _ => simp [effect, ho] at h

end
end Go.Abs
