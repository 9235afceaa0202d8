/-
  Walks of region.Pool: slices.Index at bools, grow.
-/
import Derived.Test.YtmnklaphcjchiaaPoolW4
namespace Go.Proofs.Ytmnklaphcjchiaa
open Go.RowKit

theorem PoolRep.setTaken {w : World} {T : Tags} {b : Nat} {p : Pool} {L : Lay} (h : PoolRep w T b p L) {s : Nat} (hs : s < p.n) (v : Bool) :
    PoolRep (w.setCell ⟨L.tb, s, none⟩ (.bool v)) T b (p.setTaken s v) L := by
  have ne : ∀ {k t}, T k = t → t ≠ (3, 0) → k ≠ L.tb := fun hk ht => tag_ne hk h.tagt ht
  exact {
    tagb := h.tagb, tags := h.tags, tagt := h.tagt, tagx := h.tagx, tagl := h.tagl
    ltb := by simpa using h.ltb
    lts := by simpa using h.lts
    ltt := by simpa using h.ltt
    ltx := fun t ht => by simpa using h.ltx t ht
    fb := h.fb.setCell _ _, fs := h.fs.setCell _ _, ft := h.ft.setCell _ _, fx := fun t ht => (h.fx t ht).setCell _ _
    c0 := cell_ne h.c0 (Or.inl (ne h.tagb (by simp)))
    c1 := cell_ne h.c1 (Or.inl (ne h.tagb (by simp)))
    c2 := cell_ne h.c2 (Or.inl (ne h.tagb (by simp)))
    l0 := fun i hi => cell_ne (h.l0 i hi) (Or.inl (ne h.tagb (by simp)))
    l1 := fun i hi => cell_ne (h.l1 i hi) (Or.inl (ne h.tagb (by simp)))
    l2 := fun i hi => cell_ne (h.l2 i hi) (Or.inl (ne h.tagb (by simp)))
    l3 := fun i hi => cell_ne (h.l3 i hi) (Or.inl (ne h.tagb (by simp)))
    s := fun t ht => cell_ne (h.s t ht) (Or.inl (ne h.tags (by simp)))
    t := fun t ht => by
      simp only [Pool.setTaken] at ht ⊢
      by_cases e : t = s
      · subst e; rw [if_pos rfl]; exact cell_eq (h.t t ht)
      · rw [if_neg e]; exact cell_ne (h.t t ht) (Or.inr e)
    x := fun t ht j hj => cell_ne (h.x t ht j hj) (Or.inl (ne (h.tagx t ht) (by simp)))
    ls := fun i hi => ownsRow_setCell (h.ls i hi) (fun k hk => ne (h.tagl i hi k hk) (by simp)) _ }

theorem PoolRep.setFill {w : World} {T : Tags} {b : Nat} {p : Pool} {L : Lay} (h : PoolRep w T b p L) {i : Nat} (hi : i < 256) (f : Nat) :
    PoolRep (w.setCell ⟨b, 3 + i * 4 + 3, none⟩ (.int .i64 f)) T b (p.setLand i { p.lands i with fill := f }) L := by
  have ne : ∀ {k t}, T k = t → t ≠ (1, 0) → k ≠ b := fun hk ht => tag_ne hk h.tagb ht
  have land : ∀ j, ((p.setLand i { p.lands i with fill := f }).lands j).there = (p.lands j).there ∧ ((p.setLand i { p.lands i with fill := f }).lands j).gen = (p.lands j).gen ∧ ((p.setLand i { p.lands i with fill := f }).lands j).slabs = (p.lands j).slabs := by
    intro j
    simp only [Pool.setLand]
    by_cases e : j = i <;> simp [e]
  exact {
    tagb := h.tagb, tags := h.tags, tagt := h.tagt, tagx := h.tagx, tagl := h.tagl
    ltb := by simpa using h.ltb
    lts := by simpa using h.lts
    ltt := by simpa using h.ltt
    ltx := fun t ht => by simpa using h.ltx t ht
    fb := h.fb.setCell _ _, fs := h.fs.setCell _ _, ft := h.ft.setCell _ _, fx := fun t ht => (h.fx t ht).setCell _ _
    c0 := cell_ne h.c0 (by omega)
    c1 := cell_ne h.c1 (by omega)
    c2 := cell_ne h.c2 (by omega)
    l0 := fun j hj => by rw [(land j).1]; exact cell_ne (h.l0 j hj) (by omega)
    l1 := fun j hj => by rw [(land j).2.1]; exact cell_ne (h.l1 j hj) (by omega)
    l2 := fun j hj => cell_ne (h.l2 j hj) (by omega)
    l3 := fun j hj => by
      simp only [Pool.setLand]
      by_cases e : j = i
      · subst e; rw [if_pos rfl]; exact cell_eq (h.l3 j hj)
      · rw [if_neg e]; exact cell_ne (h.l3 j hj) (by omega)
    s := fun t ht => cell_ne (h.s t ht) (Or.inl (ne h.tags (by simp)))
    t := fun t ht => cell_ne (h.t t ht) (Or.inl (ne h.tagt (by simp)))
    x := fun t ht j hj => cell_ne (h.x t ht j hj) (Or.inl (ne (h.tagx t ht) (by simp)))
    ls := fun j hj => by rw [(land j).2.2]; exact ownsRow_setCell (h.ls j hj) (fun k hk => ne (h.tagl j hj k hk) (by simp)) _ }

/-- Region i's row of slabs has grown: its new value is stored. -/
theorem PoolRep.setSlabs {w w1 : World} {T : Tags} {b : Nat} {p : Pool} {L : Lay} (h : PoolRep w T b p L) {i : Nat} (hi : i < 256) (l : List Nat) (v : Value)
    (hg : w.grownBy w1 (L.lv i).ownBlock) (ho : w1.ownsRow 0 3 1 v l.length (slabInts l)) (hv : ∀ k, v.ownBlock = some k → (L.lv i).ownBlock = some k ∨ w.heap.size ≤ k) :
    ∃ T', Ext T T' w ∧ PoolRep (w1.setCell ⟨b, 3 + i * 4 + 2, none⟩ v) T' b (p.setLand i { p.lands i with slabs := l }) { L with lv := fun j => if j = i then v else L.lv j } := by
  obtain ⟨T', hT, htv⟩ : ∃ T', Ext T T' w ∧ ∀ k, v.ownBlock = some k → T' k = (5, i) := by
    cases hb : v.ownBlock with
    | none => exact ⟨T, Ext.refl _ _, fun k hk => by cases hk⟩
    | some k =>
      rcases hv k hb with hv | hv
      · exact ⟨T, Ext.refl _ _, fun k' hk => by cases hk; exact h.tagl i hi k hv⟩
      · exact ⟨T.put k (5, i), Ext.put _ _ _ _ hv, fun k' hk => by cases hk; exact Tags.put_same _ _ _⟩
  refine ⟨T', hT, ?_⟩
  have hs : Same (fun k => T k = (5, i)) w w1 := (Same.refl _ w).then_grown hg (fun k hk => Or.inl (h.tagl i hi k hk))
  have lt := hs.size
  have ltl : ∀ i, i < 256 → ∀ k, (L.lv i).ownBlock = some k → k < w.heap.size := fun i hi k hk => ((h.ls i hi).lt k hk).2
  have tg : ∀ {k t}, k < w.heap.size → T k = t → T' k = t := fun hk ht => (hT _ hk).trans ht
  have land : ∀ j, ((p.setLand i { p.lands i with slabs := l }).lands j).there = (p.lands j).there ∧ ((p.setLand i { p.lands i with slabs := l }).lands j).gen = (p.lands j).gen ∧ ((p.setLand i { p.lands i with slabs := l }).lands j).fill = (p.lands j).fill := by
    intro j
    simp only [Pool.setLand]
    by_cases e : j = i <;> simp [e]
  have ne : ∀ {k t}, T k = t → t ≠ (1, 0) → k ≠ b := fun hk ht => tag_ne hk h.tagb ht
  have ns : ∀ {k t}, T k = t → t ≠ (5, i) → ¬ T k = (5, i) := fun hk ht e => ht (hk.symm.trans e)
  have sb := ns h.tagb (by simp)
  exact {
    tagb := tg h.ltb h.tagb, tags := tg h.lts h.tags, tagt := tg h.ltt h.tagt, tagx := fun s hs => tg (h.ltx s hs) (h.tagx s hs)
    tagl := fun j hj k hk => by
      dsimp only at hk
      split at hk
      · rename_i e; subst e; exact htv k hk
      · exact tg (ltl j hj k hk) (h.tagl j hj k hk)
    ltb := by have := h.ltb; simp; omega
    lts := by have := h.lts; simp; omega
    ltt := by have := h.ltt; simp; omega
    ltx := fun t ht => by have := h.ltx t ht; simp; omega
    fb := (h.fb.same hs h.ltb sb).setCell _ _
    fs := (h.fs.same hs h.lts (ns h.tags (by simp))).setCell _ _
    ft := (h.ft.same hs h.ltt (ns h.tagt (by simp))).setCell _ _
    fx := fun t ht => ((h.fx t ht).same hs (h.ltx t ht) (ns (h.tagx t ht) (by simp))).setCell _ _
    c0 := cell_ne (hs.cell sb h.c0) (by omega)
    c1 := cell_ne (hs.cell sb h.c1) (by omega)
    c2 := cell_ne (hs.cell sb h.c2) (by omega)
    l0 := fun j hj => by rw [(land j).1]; exact cell_ne (hs.cell sb (h.l0 j hj)) (by omega)
    l1 := fun j hj => by rw [(land j).2.1]; exact cell_ne (hs.cell sb (h.l1 j hj)) (by omega)
    l2 := fun j hj => by
      dsimp only
      by_cases e : j = i
      · subst e; rw [if_pos rfl]; exact cell_eq (hs.cell sb (h.l2 j hj))
      · rw [if_neg e]; exact cell_ne (hs.cell sb (h.l2 j hj)) (by omega)
    l3 := fun j hj => by rw [(land j).2.2]; exact cell_ne (hs.cell sb (h.l3 j hj)) (by omega)
    s := fun t ht => cell_ne (hs.cell (ns h.tags (by simp)) (h.s t ht)) (Or.inl (ne h.tags (by simp)))
    t := fun t ht => cell_ne (hs.cell (ns h.tagt (by simp)) (h.t t ht)) (Or.inl (ne h.tagt (by simp)))
    x := fun t ht j hj => cell_ne (hs.cell (ns (h.tagx t ht) (by simp)) (h.x t ht j hj)) (Or.inl (ne (h.tagx t ht) (by simp)))
    ls := fun j hj => by
      simp only [Pool.setLand]
      by_cases e : j = i
      · subst e
        rw [if_pos rfl, if_pos rfl]
        refine ownsRow_setCell ho (fun k hk => ?_) _
        rintro rfl
        rcases hv _ hk with h1 | h1
        · exact ne (h.tagl j hj _ h1) (by simp) rfl
        · have := h.ltb; omega
      · rw [if_neg e, if_neg e]
        exact ownsRow_setCell (hs.owns (fun k hk => ns (h.tagl j hj k hk) (by simp [e])) (h.ls j hj)) (fun k hk => ne (h.tagl j hj k hk) (by simp)) _ }

set_option maxRecDepth 100000 in
set_option maxHeartbeats 400000 in
theorem index_yes (tb n s : Nat) (w : World) (hs : s < n) (hn : n ≤ 4096) (ht : ∀ j, j < s → w.cell? ⟨tb, j, none⟩ = some (.bool true)) (h1 : w.cell? ⟨tb, s, none⟩ = some (.bool false)) :
    Calls Try.prog 38 #[.slice (some ⟨tb, 0, none⟩) n n, .bool false] w fun e w' => e = .returned (.int .i64 s) ∧ w = w' := by
  have HT := Lib.hid ht
  clear ht
  go_enter Try.func38, Try.ntmps38
  go_wp2
  go_loop [8] (fun x => ∃ k : Nat, k ≤ s ∧ x = .int .i64 k) (fun x => s + 1 - (intOf x).toNat)
  case atStart => exact ⟨0, Nat.zero_le _, rfl⟩
  case round =>
    obtain ⟨k, hk, rfl⟩ := hrel
    by_cases hlt : k < s
    · have ck := HT.out k hlt
      go_wp2
      go_round
      case rel => exact ⟨k + 1, by omega, by go_num⟩
      case measure => simp [intOf]; omega
    · obtain rfl : k = s := by omega
      go_wp2
      go_ret
      exact ⟨rfl, rfl⟩

set_option maxRecDepth 100000 in
set_option maxHeartbeats 400000 in
theorem index_no (tb n : Nat) (w : World) (hn : n ≤ 4096) (ht : ∀ j, j < n → w.cell? ⟨tb, j, none⟩ = some (.bool true)) :
    Calls Try.prog 38 #[.slice (some ⟨tb, 0, none⟩) n n, .bool false] w fun e w' => e = .returned (.int .i64 (-1)) ∧ w = w' := by
  have HT := Lib.hid ht
  clear ht
  go_enter Try.func38, Try.ntmps38
  go_wp2
  go_loop [8] (fun x => ∃ k : Nat, k ≤ n ∧ x = .int .i64 k) (fun x => n - (intOf x).toNat)
  case atStart => exact ⟨0, Nat.zero_le _, rfl⟩
  case round =>
    obtain ⟨k, hk, rfl⟩ := hrel
    by_cases hlt : k < n
    · have ck := HT.out k hlt
      go_wp2
      go_round
      case rel => exact ⟨k + 1, by omega, by go_num⟩
      case measure => simp [intOf]; omega
    · obtain rfl : k = n := by omega
      go_wp2
      go_ret
      exact ⟨rfl, rfl⟩

end Go.Proofs.Ytmnklaphcjchiaa
