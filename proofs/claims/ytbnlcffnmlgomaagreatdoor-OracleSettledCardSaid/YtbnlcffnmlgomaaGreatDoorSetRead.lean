/-
  Values, entries and views, as the row reads them.
-/
import Derived.Test.YtbnlcffnmlgomaaGreatDoorSetWalks8
import Derived.Test.YtbnlcffnmlgomaaGreatDoorRows
import Derived.ChangeArms
import Derived.DataReads
import Derived.KernelRfl
set_option linter.unusedSectionVars false
set_option linter.unusedVariables false
set_option linter.unusedSimpArgs false
namespace Go.Proofs.YtbnlcffnmlgomaaGreatDoor
open Go Go.RowKit
set_option maxRecDepth 100000

theorem cs1 {P : Program} {t : TypeId} (h : P.cellsOf t = 1) {l : List Value} {o : Nat} {c : Value} (hc : l[o]? = some c) : (l.drop o).take (P.cellsOf t) = [c] := by
  rw [h]
  have hlt : o < l.length := (List.getElem?_eq_some_iff.1 hc).1
  rw [List.drop_eq_getElem_cons hlt]
  have := (List.getElem?_eq_some_iff.1 hc).2
  simp [this]

theorem cells_at {w : World} {base : Nat} {a : Addr} {n : Nat} {cs : List Value} (h : w.cells? base a n = some cs) (hn : 0 < n) :
    a.spot = none ∧ a.block < w.heap.size ∧ ∀ j c, cs[j]? = some c → w.cell? ⟨a.block, a.off + j, none⟩ = some c := by
  unfold World.cells? at h
  split at h
  · have hlen := mapM_some_length h
    have hget := mapM_some_get h
    have h0 := hget 0 0 (by simp [hn])
    have hsp : a.spot = none ∧ a.block < w.heap.size := by
      have hs0 : (0 : Nat) < cs.length := by rw [hlen]; simpa using hn
      rw [List.getElem?_eq_getElem hs0] at h0
      have e : a.add 0 = a := by simp [Addr.add]
      rw [e] at h0
      unfold World.cell? at h0
      split at h0
      · rename_i hx
        split at h0
        · cases h0
        · rename_i hs
          exact ⟨by simpa using hs, (Array.getElem?_eq_some_iff.1 hx).1⟩
      · cases h0
    refine ⟨hsp.1, hsp.2, fun j c hj => ?_⟩
    have hjl : j < n := by
      have := (List.getElem?_eq_some_iff.1 hj).1
      rw [hlen] at this
      simpa using this
    have := hget j j (by simp [hjl])
    rw [hj] at this
    have e : a.add j = ⟨a.block, a.off + j, none⟩ := by
      unfold Addr.add
      split
      · rename_i hz
        subst hz
        obtain ⟨x, y, z⟩ := a
        have : z = none := hsp.1
        subst this; rfl
      · rfl
    rw [e] at this
    exact this
  · cases h

theorem add_at {a : Addr} (h : a.spot = none) (n : Nat) : a.add n = ⟨a.block, a.off + n, none⟩ := by
  unfold Addr.add
  split
  · rename_i hz
    subst hz
    obtain ⟨x, y, z⟩ := a
    have : z = none := h
    subst this; rfl
  · rfl

theorem c44 : Tryz.prog.cellsOf 44 = 1 := by kernel_rfl
theorem c4' : Tryz.prog.cellsOf 4 = 1 := by kernel_rfl
theorem c2' : Tryz.prog.cellsOf 2 = 1 := by kernel_rfl
theorem c9 : Tryz.prog.cellsOf 9 = 1 := by kernel_rfl
theorem c45 : Tryz.prog.cellsOf 45 = 1 := by kernel_rfl
theorem c46 : Tryz.prog.cellsOf 46 = 1 := by kernel_rfl
theorem c26 : Tryz.prog.cellsOf 26 = 1 := by kernel_rfl
theorem c70 : Tryz.prog.cellsOf 70 = 1 := by kernel_rfl
theorem c48 : Tryz.prog.cellsOf 48 = 6 := by kernel_rfl
theorem c159 : Tryz.prog.cellsOf 159 = 7 := by kernel_rfl
theorem c109 : Tryz.prog.cellsOf 109 = 7 := by kernel_rfl
theorem c122 : Tryz.prog.cellsOf 122 = 8 := by kernel_rfl
theorem c120 : Tryz.prog.cellsOf 120 = 6 := by kernel_rfl
theorem c39 : Tryz.prog.cellsOf 39 = 3 := by kernel_rfl

section
variable {H : Type} {enc : TypeId × Value → H} {W : World} {base : Nat} {sp : Nat → Bool} {held : Bool}

/-- a list of cells that reads as a value -/
def IsVal (W : World) (cs : List Value) : Prop := ∃ v cl co, cs = (v.cells cl co).toList ∧ RV W v cl co
/-- a list of cells that reads as a member, or an entry -/
def IsKV (W : World) (cs : List Value) : Prop := ∃ (k : ByteArray) (v : V) (cl co : Value), k.size ≤ maxLen ∧ cs = .string k :: (v.cells cl co).toList ∧ RV W v cl co

theorem rowV_of {a : Addr} {len : Nat} (hs : a.spot = none) (h : ∀ i, i < len → ∃ cs, W.cells? base (a.add (i * 6)) 6 = some cs ∧ IsVal W cs) : ∀ d i, d + i = len → ∃ l : VL, l.len = d ∧ RowV W l a.block (a.off + 6 * i)
  | 0, i, _ => ⟨.nil, rfl, by unfold RowV; trivial⟩
  | d + 1, i, hd => by
    obtain ⟨l, hl, hr⟩ := rowV_of hs h d (i + 1) (by omega)
    obtain ⟨cs, hcs, v, cl, co, rfl, hv⟩ := h i (by omega)
    rw [add_at hs] at hcs
    obtain ⟨_, _, hc⟩ := cells_at hcs (by decide)
    refine ⟨.cons v l, by simp only [VL.len]; omega, ?_⟩
    unfold RowV
    refine ⟨⟨cl, co, ?_, hv⟩, by rw [show a.off + 6 * i + 6 = a.off + 6 * (i + 1) by omega]; exact hr⟩
    have e : a.off + i * 6 = a.off + 6 * i := by omega
    simp only [e] at hc
    exact ⟨hc 0 _ rfl, hc 1 _ rfl, hc 2 _ rfl, hc 3 _ rfl, hc 4 _ rfl, hc 5 _ rfl⟩
theorem rowM_of {a : Addr} {len : Nat} (hs : a.spot = none) (h : ∀ i, i < len → ∃ cs, W.cells? base (a.add (i * 7)) 7 = some cs ∧ IsKV W cs) : ∀ d i, d + i = len → ∃ l : ML, l.len = d ∧ RowM W l a.block (a.off + 7 * i)
  | 0, i, _ => ⟨.nil, rfl, by unfold RowM; trivial⟩
  | d + 1, i, hd => by
    obtain ⟨l, hl, hr⟩ := rowM_of hs h d (i + 1) (by omega)
    obtain ⟨cs, hcs, k, v, cl, co, hk, rfl, hv⟩ := h i (by omega)
    rw [add_at hs] at hcs
    obtain ⟨_, _, hc⟩ := cells_at hcs (by decide)
    refine ⟨.cons k v l, by simp only [ML.len]; omega, ?_⟩
    unfold RowM
    have e : a.off + i * 7 = a.off + 7 * i := by omega
    simp only [e] at hc
    refine ⟨⟨hk, hc 0 _ rfl, cl, co, ⟨hc 1 _ rfl, hc 2 _ rfl, hc 3 _ rfl, hc 4 _ rfl, hc 5 _ rfl, hc 6 _ rfl⟩, hv⟩, by rw [show a.off + 7 * i + 7 = a.off + 7 * (i + 1) by omega]; exact hr⟩

/-- a slice of values -/
theorem sliceV_of {t e : TypeId} {n : Nat} {c : Value} {x : DataW H × List MemPlace} (ht : Tryz.prog.underlying t = some (.slice e)) (he : Tryz.prog.cellsOf e = 6)
    (ih : ∀ m, m < n → ∀ cs x, DataW.trod enc Tryz.prog W base sp held m e cs = some x → IsVal W cs) (h : DataW.trod enc Tryz.prog W base sp held n t [c] = some x) :
    ∃ l : VL, (l = .nil ∧ ∃ p q, c = .slice p 0 q) ∨ ∃ b f q, c = .slice (some ⟨b, f, none⟩) l.len q ∧ l.len ≤ q ∧ q ≤ maxLen ∧ b < W.heap.size ∧ RowV W l b f := by
  rcases DataW.trod_slice ht h with ⟨hc, _⟩ | ⟨a, len, cap, elems, rest, m, rfl, hc, _, _, h1, h2, h3, h4, _⟩
  · simp only [List.cons.injEq, and_true] at hc
    exact ⟨.nil, .inl ⟨rfl, none, 0, hc⟩⟩
  · simp only [List.cons.injEq, and_true] at hc
    subst hc
    rcases Nat.eq_zero_or_pos len with h0 | hpos
    · subst h0; exact ⟨.nil, .inl ⟨rfl, _, _, rfl⟩⟩
    · have hel : ∀ i, i < len → ∃ cs, W.cells? base (a.add (i * 6)) 6 = some cs ∧ IsVal W cs := fun i hi => by
        have := h4 i hi
        rw [he, List.getElem?_eq_getElem (by omega)] at this
        cases hcs : W.cells? base (a.add (i * 6)) 6 with
        | none => rw [hcs] at this; cases this
        | some cs =>
          rw [hcs] at this
          exact ⟨cs, rfl, ih m (Nat.lt_succ_self _) cs _ this⟩
      obtain ⟨cs, hcs, _⟩ := hel 0 hpos
      have e0 : a.add (0 * 6) = a := by simp [Addr.add]
      rw [e0] at hcs
      obtain ⟨hs, hb, _⟩ := cells_at hcs (by decide)
      obtain ⟨l, hl, hr⟩ := rowV_of hs hel len 0 (by omega)
      refine ⟨l, .inr ⟨a.block, a.off, cap, ?_, by omega, h2, hb, by simpa using hr⟩⟩
      obtain ⟨ab, ao, asp⟩ := a
      have : asp = none := hs
      subst this
      rw [hl]
theorem sliceM_of {t e : TypeId} {n : Nat} {c : Value} {x : DataW H × List MemPlace} (ht : Tryz.prog.underlying t = some (.slice e)) (he : Tryz.prog.cellsOf e = 7)
    (ih : ∀ m, m < n → ∀ cs x, DataW.trod enc Tryz.prog W base sp held m e cs = some x → IsKV W cs) (h : DataW.trod enc Tryz.prog W base sp held n t [c] = some x) :
    ∃ l : ML, (l = .nil ∧ ∃ p q, c = .slice p 0 q) ∨ ∃ b f q, c = .slice (some ⟨b, f, none⟩) l.len q ∧ l.len ≤ q ∧ q ≤ maxLen ∧ b < W.heap.size ∧ RowM W l b f := by
  rcases DataW.trod_slice ht h with ⟨hc, _⟩ | ⟨a, len, cap, elems, rest, m, rfl, hc, _, _, h1, h2, h3, h4, _⟩
  · simp only [List.cons.injEq, and_true] at hc
    exact ⟨.nil, .inl ⟨rfl, none, 0, hc⟩⟩
  · simp only [List.cons.injEq, and_true] at hc
    subst hc
    rcases Nat.eq_zero_or_pos len with h0 | hpos
    · subst h0; exact ⟨.nil, .inl ⟨rfl, _, _, rfl⟩⟩
    · have hel : ∀ i, i < len → ∃ cs, W.cells? base (a.add (i * 7)) 7 = some cs ∧ IsKV W cs := fun i hi => by
        have := h4 i hi
        rw [he, List.getElem?_eq_getElem (by omega)] at this
        cases hcs : W.cells? base (a.add (i * 7)) 7 with
        | none => rw [hcs] at this; cases this
        | some cs =>
          rw [hcs] at this
          exact ⟨cs, rfl, ih m (Nat.lt_succ_self _) cs _ this⟩
      obtain ⟨cs, hcs, _⟩ := hel 0 hpos
      have e0 : a.add (0 * 7) = a := by simp [Addr.add]
      rw [e0] at hcs
      obtain ⟨hs, hb, _⟩ := cells_at hcs (by decide)
      obtain ⟨l, hl, hr⟩ := rowM_of hs hel len 0 (by omega)
      refine ⟨l, .inr ⟨a.block, a.off, cap, ?_, by omega, h2, hb, by simpa using hr⟩⟩
      obtain ⟨ab, ao, asp⟩ := a
      have : asp = none := hs
      subst this
      rw [hl]

/-- a struct's fields -/
def Flds (enc : TypeId × Value → H) (W : World) (base : Nat) (sp : Nat → Bool) (held : Bool) (fs : Array Field) (k : Nat) (cs : List Value) : Prop :=
  ∀ (i : Nat) (f : Field), fs[i]? = some f → ∃ y, DataW.trod enc Tryz.prog W base sp held k f.type ((cs.drop f.offset).take (Tryz.prog.cellsOf f.type)) = some y
theorem flds {t : TypeId} {fs : Array Field} {n : Nat} {cs : List Value} {x : DataW H × List MemPlace} (ht : Tryz.prog.underlying t = some (.struct fs)) (h : DataW.trod enc Tryz.prog W base sp held n t cs = some x) :
    ∃ k, n = k + 1 ∧ cs.length = Tryz.prog.cellsOf t ∧ Flds enc W base sp held fs k cs := by
  obtain ⟨xs, k, rfl, _, hl, hxl, hf⟩ := DataW.trod_struct ht h
  refine ⟨k, rfl, hl, fun i f hi => ?_⟩
  have g := hf i f hi
  have hi' : i < xs.length := by rw [hxl]; exact (Array.getElem?_eq_some_iff.1 hi).1
  rw [List.getElem?_eq_getElem hi'] at g
  exact ⟨_, g⟩
theorem Flds.one {fs : Array Field} {k : Nat} {cs : List Value} (F : Flds enc W base sp held fs k cs) {i : Nat} {f : Field} (hi : fs[i]? = some f) {T : TypeId} {o : Nat} (e1 : f.type = T) (e2 : f.offset = o) (h1 : Tryz.prog.cellsOf T = 1) {c : Value} (hc : cs[o]? = some c) :
    ∃ y, DataW.trod enc Tryz.prog W base sp held k T [c] = some y := by
  obtain ⟨y, hy⟩ := F i f hi
  rw [e1, e2, cs1 h1 hc] at hy
  exact ⟨y, hy⟩
theorem Flds.many {fs : Array Field} {k : Nat} {cs : List Value} (F : Flds enc W base sp held fs k cs) {i : Nat} {f : Field} (hi : fs[i]? = some f) {T : TypeId} {o n : Nat} (e1 : f.type = T) (e2 : f.offset = o) (h1 : Tryz.prog.cellsOf T = n) :
    ∃ y, DataW.trod enc Tryz.prog W base sp held k T ((cs.drop o).take n) = some y := by
  obtain ⟨y, hy⟩ := F i f hi
  rw [e1, e2, h1] at hy
  exact ⟨y, hy⟩

/-- a key and a value -/
theorem kv_of {t : TypeId} {m : Nat} {cs : List Value} {x : DataW H × List MemPlace}
    (ht : ∃ (fs : Array Field) (f0 f1 : Field), Tryz.prog.underlying t = some (.struct fs) ∧ fs[0]? = some f0 ∧ fs[1]? = some f1 ∧ f0.type = 9 ∧ f0.offset = 0 ∧ f1.type = 48 ∧ f1.offset = 1) (hn : Tryz.prog.cellsOf t = 7)
    (ih : ∀ k, k < m → ∀ cs x, DataW.trod enc Tryz.prog W base sp held k 48 cs = some x → IsVal W cs) (h : DataW.trod enc Tryz.prog W base sp held m t cs = some x) : IsKV W cs := by
  obtain ⟨fs, f0, f1, hu, i0, i1, e1, e2, e3, e4⟩ := ht
  obtain ⟨k, rfl, hl, F⟩ := flds hu h
  rw [hn] at hl
  match cs, hl with
  | [k0, k1, k2, k3, k4, k5, k6], _ =>
    obtain ⟨y0, g0⟩ := F.one i0 e1 e2 c9 (c := k0) rfl
    obtain ⟨y1, g1⟩ := F.many i1 e3 e4 c48
    obtain ⟨s, hs, _, hsz⟩ := DataW.trod_string Tryz.underlying9 g0
    simp only [List.cons.injEq, and_true] at hs
    subst hs
    obtain ⟨v, cl, co, hv, hr⟩ := ih k (Nat.lt_succ_self _) _ _ g1
    exact ⟨s, v, cl, co, hsz, by rw [← hv]; rfl, hr⟩

theorem kv159 : ∃ (fs : Array Field) (f0 f1 : Field), Tryz.prog.underlying 159 = some (.struct fs) ∧ fs[0]? = some f0 ∧ fs[1]? = some f1 ∧ f0.type = 9 ∧ f0.offset = 0 ∧ f1.type = 48 ∧ f1.offset = 1 := ⟨_, _, _, Tryz.underlying159, rfl, rfl, rfl, rfl, rfl, rfl⟩
theorem kv109 : ∃ (fs : Array Field) (f0 f1 : Field), Tryz.prog.underlying 109 = some (.struct fs) ∧ fs[0]? = some f0 ∧ fs[1]? = some f1 ∧ f0.type = 9 ∧ f0.offset = 0 ∧ f1.type = 48 ∧ f1.offset = 1 := ⟨_, _, _, Tryz.underlying109, rfl, rfl, rfl, rfl, rfl, rfl⟩

/-- a value -/
theorem val_of : ∀ (n : Nat) (cs : List Value) (x : DataW H × List MemPlace), DataW.trod enc Tryz.prog W base sp held n 48 cs = some x → IsVal W cs := by
  intro n
  induction n using Nat.strongRecOn with
  | ind n ih =>
    intro cs x h
    obtain ⟨k, rfl, hl, F⟩ := flds Tryz.underlying48 h
    rw [c48] at hl
    match cs, hl with
    | [k0, k1, k2, k3, k4, k5], _ =>
      obtain ⟨y0, g0⟩ := F.one (i := 0) rfl (T := 44) (o := 0) rfl rfl c44 (c := k0) rfl
      obtain ⟨y1, g1⟩ := F.one (i := 1) rfl (T := 4) (o := 1) rfl rfl c4' (c := k1) rfl
      obtain ⟨y2, g2⟩ := F.one (i := 2) rfl (T := 2) (o := 2) rfl rfl c2' (c := k2) rfl
      obtain ⟨y3, g3⟩ := F.one (i := 3) rfl (T := 9) (o := 3) rfl rfl c9 (c := k3) rfl
      obtain ⟨y4, g4⟩ := F.one (i := 4) rfl (T := 45) (o := 4) rfl rfl c45 (c := k4) rfl
      obtain ⟨y5, g5⟩ := F.one (i := 5) rfl (T := 46) (o := 5) rfl rfl c46 (c := k5) rfl
      obtain ⟨kk, h0, _, _⟩ := DataW.trod_int Tryz.underlying44 g0
      obtain ⟨bb, h1, _⟩ := DataW.trod_bool Tryz.underlying4 g1
      obtain ⟨nn, h2, _, _⟩ := DataW.trod_int Tryz.underlying2 g2
      obtain ⟨ss, h3, _, hsz⟩ := DataW.trod_string Tryz.underlying9 g3
      simp only [List.cons.injEq, and_true] at h0 h1 h2 h3
      subst h0 h1 h2 h3
      obtain ⟨l, hL⟩ := sliceV_of Tryz.underlying45 c48 (fun m hm cs x hx => ih m (by omega) cs x hx) g4
      obtain ⟨o, hO⟩ := sliceM_of Tryz.underlying46 c159 (fun m hm cs x hx => kv_of kv159 c159 (fun m' hm' cs x hx => ih m' (by omega) cs x hx) hx) g5
      exact ⟨.mk kk bb nn ss l o, k4, k5, rfl, by unfold RV; exact ⟨hsz, hL, hO⟩⟩

/-- a slice of entries -/
theorem entries_of {n : Nat} {c : Value} {x : DataW H × List MemPlace} (h : DataW.trod enc Tryz.prog W base sp held n 26 [c] = some x) : ∃ (m : ML) (p : Option Addr) (q : Nat), c = .slice p m.len q ∧ HeadM W m p := by
  obtain ⟨l, hl⟩ := sliceM_of Tryz.underlying26 c109 (fun m hm cs x hx => kv_of kv109 c109 (fun m' hm' cs x hx => val_of m' cs x hx) hx) h
  obtain ⟨p, q, h1, h2⟩ := headM_of hl
  exact ⟨l, p, q, h1, h2⟩

/-- a list of cells that reads as a view -/
def IsView (W : World) (cs : List Value) : Prop := ∃ v : VW, cs = [v.x0, v.x1, v.x2, v.x3, v.x4, .slice v.pp v.np v.cp, .slice v.hp v.hd.len v.hc, v.x7] ∧ v.np ≤ maxLen ∧ HeadM W v.hd v.hp
theorem view_of {n : Nat} {cs : List Value} {x : DataW H × List MemPlace} (h : DataW.trod enc Tryz.prog W base sp held n 122 cs = some x) : IsView W cs := by
  obtain ⟨k, rfl, hl, F⟩ := flds Tryz.underlying122 h
  rw [c122] at hl
  match cs, hl with
  | [k0, k1, k2, k3, k4, k5, k6, k7], _ =>
    obtain ⟨y0, g0⟩ := F.many (i := 0) rfl (T := 120) (o := 0) rfl rfl c120
    obtain ⟨y1, g1⟩ := F.one (i := 1) rfl (T := 26) (o := 6) rfl rfl c26 (c := k6) rfl
    obtain ⟨m, rfl, hl2, F2⟩ := flds Tryz.underlying120 g0
    obtain ⟨y2, g2⟩ := F2.one (i := 5) rfl (T := 70) (o := 5) rfl rfl c70 (c := k5) rfl
    obtain ⟨hd, hp, hc, rfl, hh⟩ := entries_of g1
    have hk : ∃ pp np cp, k5 = .slice pp np cp ∧ np ≤ maxLen := by
      rcases DataW.trod_slice Tryz.underlying70 g2 with ⟨hc, _⟩ | ⟨a, len, cap, elems, rest, m, _, hc, _, _, h1, h2, _⟩
      · simp only [List.cons.injEq, and_true] at hc
        exact ⟨_, _, _, hc, Nat.zero_le _⟩
      · simp only [List.cons.injEq, and_true] at hc
        exact ⟨_, _, _, hc, by omega⟩
    obtain ⟨pp, np, cp, rfl, hnp⟩ := hk
    exact ⟨⟨k0, k1, k2, k3, k4, pp, np, cp, hd, hp, hc, k7⟩, rfl, hnp, hh⟩

/-- a slice of views -/
theorem views_of {n : Nat} {c : Value} {x : DataW H × List MemPlace} (h : DataW.trod enc Tryz.prog W base sp held n 40 [c] = some x) : ∃ (l : List VW) (p : Option Addr) (q : Nat), c = .slice p l.length q ∧ HeadW W l p := by
  rcases DataW.trod_slice Tryz.underlying40 h with ⟨hc, _⟩ | ⟨a, len, cap, elems, rest, m, rfl, hc, _, _, h1, h2, h3, h4, _⟩
  · simp only [List.cons.injEq, and_true] at hc
    exact ⟨[], none, 0, hc, Nat.zero_le _, fun k v hk => by simp at hk⟩
  · simp only [List.cons.injEq, and_true] at hc
    subst hc
    have hel : ∀ i, i < len → ∃ cs, W.cells? base (a.add (i * 8)) 8 = some cs ∧ IsView W cs := fun i hi => by
      have := h4 i hi
      rw [c122, List.getElem?_eq_getElem (by omega)] at this
      cases hcs : W.cells? base (a.add (i * 8)) 8 with
      | none => rw [hcs] at this; cases this
      | some cs =>
        rw [hcs] at this
        exact ⟨cs, rfl, view_of (x := elems[i]) this⟩
    have hall : ∀ d, d ≤ len → ∃ l : List VW, l.length = d ∧ ∀ (k : Nat) (v : VW), l[k]? = some v → ∃ cs, W.cells? base (a.add (k * 8)) 8 = some cs ∧ cs = [v.x0, v.x1, v.x2, v.x3, v.x4, .slice v.pp v.np v.cp, .slice v.hp v.hd.len v.hc, v.x7] ∧ v.np ≤ maxLen ∧ HeadM W v.hd v.hp := by
      intro d
      induction d with
      | zero => exact fun _ => ⟨[], rfl, fun k v hk => by simp at hk⟩
      | succ d ih =>
        intro hd
        obtain ⟨l, hl, hv⟩ := ih (by omega)
        obtain ⟨cs, hcs, v, e, h5, h6⟩ := hel d (by omega)
        refine ⟨l ++ [v], by simp [hl], fun k u hk => ?_⟩
        rcases Nat.lt_or_ge k d with hkd | hkd
        · rw [List.getElem?_append_left (by omega)] at hk
          exact hv k u hk
        · have hkl := (List.getElem?_eq_some_iff.1 hk).1
          have : k = d := by simp at hkl; omega
          subst this
          rw [List.getElem?_append_right (by omega), hl] at hk
          simp at hk
          subst hk
          exact ⟨cs, hcs, e, h5, h6⟩
    obtain ⟨l, hl, hv⟩ := hall len (Nat.le_refl _)
    rcases Nat.eq_zero_or_pos len with h0 | hpos
    · subst h0
      have : l = [] := List.eq_nil_of_length_eq_zero hl
      subst this
      exact ⟨[], _, _, rfl, Nat.zero_le _, fun k v hk => by simp at hk⟩
    · obtain ⟨cs, hcs, _⟩ := hel 0 hpos
      have e0 : a.add (0 * 8) = a := by simp [Addr.add]
      rw [e0] at hcs
      obtain ⟨hs, hb, _⟩ := cells_at hcs (by decide)
      refine ⟨l, some a, cap, by rw [hl], by omega, fun k v hk => ?_⟩
      obtain ⟨cs, hcs, e, h5, h6⟩ := hv k v hk
      subst e
      rw [add_at hs] at hcs
      obtain ⟨_, _, hc⟩ := cells_at hcs (by decide)
      refine ⟨h5, h6, a.block, a.off, ?_, hb, hc 0 _ rfl, hc 1 _ rfl, hc 2 _ rfl, hc 3 _ rfl, hc 4 _ rfl, hc 5 _ rfl, hc 6 _ rfl, hc 7 _ rfl⟩
      obtain ⟨ab, ao, asp⟩ := a
      have : asp = none := hs
      subst this
      rfl

/-- a store -/
theorem store_of {n : Nat} {cs : List Value} {x : DataW H × List MemPlace} (h : DataW.trod enc Tryz.prog W base sp held n 39 cs = some x) : ∃ (y0 y2 : Value) (m : ML) (p : Option Addr) (q : Nat), cs = [y0, .slice p m.len q, y2] ∧ HeadM W m p := by
  obtain ⟨k, rfl, hl, F⟩ := flds Tryz.underlying39 h
  rw [c39] at hl
  match cs, hl with
  | [k0, k1, k2], _ =>
    obtain ⟨y1, g1⟩ := F.one (i := 1) rfl (T := 26) (o := 1) rfl rfl c26 (c := k1) rfl
    obtain ⟨m, p, q, rfl, hm⟩ := entries_of g1
    exact ⟨k0, k2, m, p, q, rfl, hm⟩
end
end Go.Proofs.YtbnlcffnmlgomaaGreatDoor
