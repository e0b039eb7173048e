/-
  THE ABSTRACT MACHINE: its other operations: what append comes to.
-/
import Derived.Test.YtbnlcffnmlgomaaGreatDoorAbsEff
set_option linter.unusedSectionVars false
set_option linter.unusedVariables false
set_option linter.unusedSimpArgs false
namespace Go.Abs
open Go Go.RowKit
variable [Ops]

section
variable {C : Ctx} (ok : C.Ok) {N0 : Nat} {w0 : World} {β : BM} {H : AHeap} {nx : Nat} {w : World}

/-- the cells of what is appended, as the model reads them -/
theorem srcCells_sound (h : HR C N0 w0 β H nx w) {x x' : Value} (hx : VR β x x') {n sz : Nat} {vs : List Value} (hv : srcCells H n sz x = some vs) :
    ∃ vs', LR β vs vs' ∧ vs'.length = n * sz ∧
      (Builtin.firstCells sz n x').run C.P w = .ok ⟨vs'⟩ w ∧ (Builtin.firstCells sz n x').run C.P w.drew = .ok ⟨vs'⟩ w.drew := by
  unfold srcCells at hv
  split at hv
  · rename_i b o _ _
    obtain ⟨i, c', hi, _, e'⟩ := hx.slice_inv
    unfold readCells at hv
    split at hv
    · rename_i l hg
      obtain ⟨et, kind, hget⟩ := getCells_spec hg
      obtain ⟨j, hj, hor⟩ := h.obj _ _ hget
      rw [hi] at hj
      cases hj
      obtain ⟨vs', h1, h2, h3⟩ := cells_of hor hv
      refine ⟨vs', h1, h2, ?_, ?_⟩
      · rw [e']; exact run_firstCells_some w sz n _ _ _ vs' h2 h3
      · rw [e']; exact run_firstCells_some w.drew sz n _ _ _ vs' h2 h3
    · cases hv
  · obtain ⟨_, _, e'⟩ := hx.snil_inv
    split at hv
    · cases hv
      exact ⟨[], .nil, by simp, by rw [e']; simp [Builtin.firstCells], by rw [e']; simp [Builtin.firstCells]⟩
    · cases hv
  · rename_i s
    have e' := hx.string_inv
    split at hv
    · obtain ⟨h1, h2⟩ := ltake?_spec hv
      subst h2
      have e2 : ((s.extract 0 n).data.map fun b => Value.int .u8 b.toNat) = ⟨(bytesL s).take n⟩ := by
        apply Array.ext'
        simp [bytesL, ByteArray.data_extract, List.extract_eq_take_drop]
      have hlr : LR β ((bytesL s).take n) ((bytesL s).take n) := by
        refine LR.atoms _ ?_
        rw [List.all_eq_true]
        intro y hy
        have hy := List.mem_of_mem_take hy
        simp only [bytesL, List.mem_map] at hy
        obtain ⟨b, _, rfl⟩ := hy
        rfl
      refine ⟨_, hlr, by rw [List.length_take]; omega, ?_, ?_⟩
      · rw [e']; simp only [Builtin.firstCells]; rw [e2]; simp
      · rw [e']; simp only [Builtin.firstCells]; rw [e2]; simp
    · cases hv
  · cases hv

theorem srcLen_sound {x x' : Value} (hx : VR β x x') {n : Nat} (hn : srcLen x = some n) : (Builtin.lenOf x').run C.P w = .ok n w := by
  unfold srcLen at hn
  split at hn
  · rename_i a l c
    cases hn
    cases a with
    | none => obtain ⟨rfl, _, e'⟩ := hx.snil_inv; rw [e']; simp [Builtin.lenOf]
    | some p => obtain ⟨_, _, _, _, _, _, _, e'⟩ := hx.slc_inv; rw [e']; simp [Builtin.lenOf]
  · cases hn
    rw [hx.string_inv]; simp [Builtin.lenOf]
  · cases hn

theorem oneCells {vs vs' : List Value} (hl : LR β vs vs') (h1 : vs.all Abs.oneCell = true) : ∀ v ∈ vs', v.oneCell' = true := by
  induction vs generalizing vs' with
  | nil => cases hl; simp
  | cons x xs ih =>
    cases hl with
    | cons hx hs =>
      simp only [List.all_cons, Bool.and_eq_true] at h1
      intro v hv
      rcases List.mem_cons.1 hv with rfl | hv
      · exact hx.oneCell h1.1
      · exact ih hs h1.2 v hv

/-- blocks may be forgotten -/
theorem HR.del (h : HR C N0 w0 β H nx w) {b : Nat} (hb : b < LIMIT) : HR C N0 w0 β (hdel H b) nx w := by
  have live : ∀ c y, (hdel H b).get c = some y → H.get c = some y := fun c y hc => by
    by_cases e : b = c
    · subst e; rw [hdel_same hb] at hc; cases hc
    · rw [hdel_ne e] at hc; exact hc
  exact ⟨fun c y hc => h.obj c y (live c y hc), fun c d y y' j j' hc hd hj hj' e => h.inj c d y y' j j' (live c y hc) (live d y' hd) hj hj' e, h.lt, h.fresh, h.below, h.n0⟩

theorem zeroCells_size {z : Value} {sz n : Nat} (hz : (cellsL z).length = sz) : (Builtin.zeroCells z.cells n).size = n * sz := by
  have : z.cells.size = sz := by rw [← hz]; simp [cellsL]
  simp [Builtin.zeroCells, this]

/-- a row that was made anew by append -/
theorem OR.row (h : HR C N0 w0 β H nx w) {vs vs' : List Value} (hl : LR β vs vs') {et : TypeId} {sz : Nat} (hs : size? C et = some sz) {c : Array Value} (hc : ∃ more, c.toList = vs' ++ more) :
    OR C N0 (β.set nx ⟨w.heap.size, 0, c.size, sz⟩) (w.drew.alloc (.cells c et)) ⟨w.heap.size, 0, c.size, sz⟩ (.cells vs et 1) := by
  obtain ⟨more, hc⟩ := hc
  refine ⟨c, (0, 0), heap_alloc_new w.drew _, ⟨rfl, fun j v hj => ?_, fun _ j _ hj => by omega, fun _ => h.n0, fun h0 => by omega⟩, fun _ => hs⟩
  obtain ⟨v', h1, h2⟩ := hl.get hj
  refine ⟨v', ?_, h2.mono (BM.le_set β _ (h.fresh nx (Nat.le_refl _)))⟩
  rw [← Array.getElem?_toList, hc, Nat.zero_add, List.getElem?_append_left (by
    rcases Nat.lt_or_ge j vs'.length with h | h
    · exact h
    · rw [List.getElem?_eq_none h] at h1; cases h1)]
  exact h1

theorem grown_size {z : Value} {sz len n cap : Nat} {old' new' : List Value} (hz : (cellsL z).length = sz) (ho : old'.length = len * sz) (hl : new'.length = n * sz) (hge : len + n ≤ cap) :
    ((⟨old'⟩ : Array Value) ++ ⟨new'⟩ ++ Builtin.zeroCells z.cells (cap - (len + n))).size = cap * sz := by
  rw [Array.size_append, Array.size_append, zeroCells_size hz]
  simp only [List.size_toArray, ho, hl]
  rw [← Nat.add_mul, ← Nat.add_mul]
  congr 1
  omega

include ok in
/-- WHAT append COMES TO. -/
theorem append_sound (h : HR C N0 w0 β H nx w) (hnx : nx < LIMIT) {t u : TypeId} {du : TypeDesc} (hu : und C u = some du) (hdu : notInt du = true) {s s' x x' : Value} (hs : VR β s s') (hx : VR β x x')
    {e : Eff} (hq : append C H nx t s x = some e) (ty : TypeId) :
    ∃ v H' nx', e = .val v H' nx' ∧ ∃ v' w' β', (Builtin.append_ #[t, u] ty #[s', x']).run C.P w = .ok v' w' ∧ BM.ext nx β β' ∧ HR C N0 w0 β' H' nx' w' ∧ VR β' v v' := by
  unfold append at hq
  split at hq
  · rename_i el ht
    split at hq
    · rename_i sz z n base len c hsz hz hn
      have hlen := srcLen_sound (C := C) (w := w) hx hn
      split at hq
      · rename_i new hnew hsm
        simp only [Bool.and_eq_true] at hsm
        obtain ⟨⟨hsm1, hsm2⟩, hzl⟩ := hsm
        replace hsm1 := Nat.le_of_ble_eq_true hsm1
        replace hzl : (cellsL z).length = sz + 1 := by have := Nat.eq_of_beq_eq_true hzl; simpa [llen_eq] using this
        obtain ⟨new', hl, hl2, hfc, hfc'⟩ := srcCells_sound h hx hnew
        split at hq
        · -- nothing
          rename_i hn0
          split at hq
          · rename_i hc
            cases hq
            refine ⟨_, _, _, rfl, ?_⟩
            cases base with
            | none =>
              obtain ⟨_, _, e'⟩ := hs.snil_inv
              exact ⟨s', w, β, by rw [e']; exact append_run_none ok ht hu hdu hsz hlen hfc ty, BM.ext_refl _ _, h, hs⟩
            | some p =>
              obtain ⟨b, o, i, c', rfl, hb, hcap, e'⟩ := hs.slc_inv
              have hle : len ≤ c' := by
                rcases hcap with ⟨h1, h2⟩ | ⟨h1, h2, _⟩
                · rw [Bool.or_eq_true] at hc
                  rcases hc with hc | hc
                  · have := Nat.le_of_ble_eq_true hc; omega
                  · have := Nat.le_of_ble_eq_true hc; omega
                · exact h2
              have hnl : new' = [] := List.length_eq_zero_iff.1 (by rw [hl2]; simp)
              subst hnl
              refine ⟨s', w, β, ?_, BM.ext_refl _ _, h, hs⟩
              rw [e']
              exact append_run_fits ok ht hu hdu hsz hlen hfc (by omega) (by simp [storeCells]) ty
          · cases hq
        · rename_i n
          split at hq
          · -- the capacity is known
            rename_i hop
            have hop : c < OPEN := Nat.le_of_ble_eq_true hop
            split at hq
            · -- it fits
              rename_i hfit
              have hfit := Nat.le_of_ble_eq_true hfit
              split at hq
              · rename_i b o
                obtain ⟨i, c', hb, hcap, e'⟩ := hs.slice_inv
                have hcc : c' = c := by rcases hcap with ⟨_, h2⟩ | ⟨h1, _⟩ <;> omega
                subst hcc
                split at hq
                · rename_i l et hg
                  split at hq
                  · rename_i l2 hone hput
                    cases hq
                    obtain ⟨w', hrun, hh⟩ := store_sound h hnx hg hb (by omega) hput hl (oneCells hl hone)
                    refine ⟨_, _, _, rfl, _, w', β, ?_, BM.ext_refl _ _, hh, VR.slice hb (.inl ⟨hop, rfl⟩)⟩
                    rw [e']
                    exact append_run_fits ok ht hu hdu hsz hlen hfc hfit (by rw [Addr.add_lit, Nat.add_assoc]; exact hrun) ty
                  · cases hq
                · cases hq
              · cases hq
            · -- it does not
              rename_i hfit
              have hfit : c < len + (n + 1) := by
                rcases Nat.lt_or_ge c (len + (n + 1)) with h | h
                · exact h
                · rw [Nat.ble_eq_true_of_le h] at hfit; cases hfit
              split at hq
              · rename_i old hold
                cases hq
                obtain ⟨old', ho1, ho2, _, ho5⟩ := srcCells_sound h hs hold
                have hs' : ∃ base', s' = .slice base' len c := by
                  cases base with
                  | none => obtain ⟨rfl, rfl, e'⟩ := hs.snil_inv; exact ⟨_, e'⟩
                  | some p =>
                    obtain ⟨_, _, _, c', _, _, hcap, e'⟩ := hs.slc_inv
                    have hcc : c' = c := by rcases hcap with ⟨_, h2⟩ | ⟨h1, _⟩ <;> omega
                    exact ⟨_, by rw [e', hcc]⟩
                obtain ⟨base', es⟩ := hs'
                rw [es] at ho5
                have hrun := append_run_grow ok ht hu hdu hsz hz hsm2 hlen hfc' hfit hsm1 ho5 ty
                rw [← es] at hrun
                have hge := cap_cut w (len + (n + 1)) c el
                have hsz2 := grown_size hzl ho2 hl2 hge
                refine ⟨_, _, _, rfl, _, _, _, hrun, BM.ext_set β _ (h.fresh nx (Nat.le_refl _)), h.drew.alloc hnx _ rfl (OR.row h (ho1.append hl) hsz ⟨(Builtin.zeroCells z.cells (grownCap w (len + (n + 1)) c el - (len + (n + 1)))).toList, by simp⟩), ?_⟩
                exact VR.slice (o := 0) (BM.set_same _ _ _) (.inr ⟨rfl, hge, by simp only [Nat.zero_add, hsz2]; exact Nat.le_refl _⟩)
              · cases hq
          · -- nobody knows
            rename_i hop
            have hop : ¬ (c < OPEN) := fun hlt => by
              have : Nat.blt c OPEN = true := Nat.ble_eq_true_of_le hlt
              rw [this] at hop; cases hop
            split at hq
            · rename_i b o
              obtain ⟨i, c', hb, hcap, e'⟩ := hs.slice_inv
              split at hq
              · rename_i l et hg
                split at hq
                · rename_i old het hold
                  cases hq
                  rw [Bool.and_eq_true] at het
                  obtain ⟨het, hone⟩ := het
                  have het := Nat.eq_of_beq_eq_true het
                  subst het
                  obtain ⟨j, hj, hor⟩ := h.obj _ _ hg
                  rw [hb] at hj
                  cases hj
                  obtain ⟨old', ho1, ho2, ho3⟩ := cells_of hor hold
                  obtain ⟨cs, fz, hc, hcr, hes⟩ := hor
                  have hes := hes rfl
                  rw [hsz] at hes
                  have hes := Option.some.inj hes
                  rcases hcap with ⟨h1, _⟩ | ⟨hc1, hc2, hc3⟩
                  · omega
                  have hblt : b < LIMIT := Nat.lt_trans (h.lt_nx hb) hnx
                  by_cases hfit : len + (n + 1) ≤ c'
                  · -- it fits, in this world
                    have hroom : i.base + o + len * (sz + 1) + new'.length ≤ cs.size := by
                      have hl3 : new'.length = (n + 1) * (sz + 1) := hl2
                      have hc4 : i.base + o + c' * (sz + 1) ≤ i.cells := by
                        have e9 : sz + 1 = i.esz := hes
                        rw [e9]
                        exact hc3
                      rw [hcr.size, hl3]
                      have h1 : len * (sz + 1) + (n + 1) * (sz + 1) = (len + (n + 1)) * (sz + 1) := by rw [← Nat.add_mul]
                      have h2 : (len + (n + 1)) * (sz + 1) ≤ c' * (sz + 1) := Nat.mul_le_mul_right _ hfit
                      omega
                    have hst := run_storeCells_cells (P := C.P) i.blk (i.base + o + len * (sz + 1)) new' 0 w (fun j hj => by
                        rw [cell?_cells hc]
                        simp
                        omega) (fun j hj => by
                        have := hcr.free (by omega) (i.base + o + len * (sz + 1) + 0 + j) (by omega)
                        simp only [World.frozen?, hc]
                        simp at this ⊢
                        omega) (oneCells hl hone)
                    simp only [Nat.add_zero] at hst
                    obtain ⟨⟨c2, e1, e2⟩, e3, e4, e5⟩ := setCells_heap i.blk new' (i.base + o + len * (sz + 1)) w cs et fz hc hroom
                    have hc2s : c2.size = cs.size := by
                      have := congrArg List.length e2
                      simp at this
                      omega
                    have hol : old.length = len * (sz + 1) := by rw [ho1.length, ho2]
                    refine ⟨_, _, _, rfl, .slice (some ⟨i.blk, i.base + o, none⟩) (len + (n + 1)) c', _, β.set nx ⟨i.blk, i.base + o, i.cells, i.esz⟩, ?_, BM.ext_set β _ (h.fresh nx (Nat.le_refl _)),
                      h.move hnx hg hb rfl e3 e4 (e5 N0 (hcr.own (by omega))) ⟨c2, fz, e1, ⟨by rw [hc2s, hcr.size], fun j v hj => ?_, fun _ j hj => hcr.free (by omega) j (by omega), fun _ => hcr.own (by omega), fun h0 => by omega⟩, fun _ => by rw [hsz, hes]⟩, ?_⟩
                    · rw [e']
                      exact append_run_fits ok ht hu hdu hsz hlen hfc hfit (by rw [Addr.add_lit]; exact hst) ty
                    · have hle := BM.le_set β ⟨i.blk, i.base + o, i.cells, i.esz⟩ (h.fresh nx (Nat.le_refl _))
                      rw [← Array.getElem?_toList, e2, get_seg _ _ _ _ (by simpa using hroom)]
                      by_cases a : j < len * (sz + 1)
                      · rw [List.getElem?_append_left (by omega)] at hj
                        obtain ⟨v', h2, h3⟩ := ho1.get hj
                        have h4 := ho3 j v' h2
                        rw [Addr.add_lit, cell?_cells hc] at h4
                        exact ⟨v', by rw [if_pos (by show i.base + o + j < _; omega), Array.getElem?_toList]; exact h4, h3.mono hle⟩
                      · rw [List.getElem?_append_right (by omega)] at hj
                        obtain ⟨v', h2, h3⟩ := hl.get hj
                        have h5 : j - old.length < new'.length := by
                          rcases Nat.lt_or_ge (j - old.length) new'.length with h | h
                          · exact h
                          · rw [List.getElem?_eq_none h] at h2; cases h2
                        refine ⟨v', ?_, h3.mono hle⟩
                        rw [if_neg (by show ¬ (i.base + o + j < _); omega), if_pos (by show i.base + o + j < _; omega)]
                        rw [show i.base + o + j - (i.base + o + len * (sz + 1)) = j - old.length from by omega]
                        exact h2
                    · exact VR.slice (i := ⟨i.blk, i.base + o, i.cells, i.esz⟩) (o := 0) (BM.set_same _ _ _) (.inr ⟨rfl, hfit, hc3⟩)
                  · -- it does not
                    have hold' := run_firstCells_some (P := C.P) w.drew (sz + 1) len ⟨i.blk, i.base + o, none⟩ len c' old' ho2 ho3
                    have hrun := append_run_grow ok ht hu hdu hsz hz hsm2 hlen hfc' (sCap := c') (by omega) hsm1 hold' ty
                    rw [← e'] at hrun
                    have hge := cap_cut w (len + (n + 1)) c' et
                    have hsz2 := grown_size hzl ho2 hl2 hge
                    refine ⟨_, _, _, rfl, _, _, _, hrun, BM.ext_set β _ (h.fresh nx (Nat.le_refl _)), (h.del hblt).drew.alloc hnx _ rfl (OR.row h (ho1.append hl) hsz ⟨(Builtin.zeroCells z.cells (grownCap w (len + (n + 1)) c' et - (len + (n + 1)))).toList, by simp⟩), ?_⟩
                    exact VR.slice (o := 0) (BM.set_same _ _ _) (.inr ⟨rfl, hge, by simp only [Nat.zero_add, hsz2]; exact Nat.le_refl _⟩)
                · cases hq
              · cases hq
            · cases hq
      · cases hq
    · cases hq
  · cases hq

end
end Go.Abs
