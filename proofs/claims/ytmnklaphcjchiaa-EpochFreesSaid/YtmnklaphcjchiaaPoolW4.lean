/-
  Walks of region.Pool: Store of a whole piece.
-/
import Derived.Test.YtmnklaphcjchiaaPoolW3
namespace Go.Proofs.Ytmnklaphcjchiaa
open Go.RowKit

theorem ownsRow_setCells {base : Nat} {e : TypeId} {size : Nat} {v : Value} {n : Nat} {xs : List Value} {g : Nat} (ha : ∀ k, v.ownBlock = some k → k ≠ g) (vs : List Value) (o : Nat) {w : World} (h : w.ownsRow base e size v n xs) : (w.setCells g o vs).ownsRow base e size v n xs :=
  Same.owns (S := fun k => k = g) (Same.then_setCells (S := fun k => k = g) (Or.inl rfl) vs o (Same.refl (fun k => k = g) w)) (fun k hk => ha k hk) h

/-- Some bytes of a slab are others. -/
theorem PoolRep.write {w : World} {T : Tags} {b : Nat} {p : Pool} {L : Lay} (h : PoolRep w T b p L) {s a : Nat} (hs : s < p.n) (xs : List Int) (hfit : a + xs.length ≤ p.size) :
    PoolRep (w.setCells (L.xb s) a (xs.map (Value.int .u8))) T b (p.write s a xs) L := by
  have ts := h.tagx s hs
  have ne : ∀ {k t}, T k = t → t ≠ (4, s) → k ≠ L.xb s := fun hk ht => tag_ne hk ts ht
  have len : (xs.map (Value.int .u8)).length = xs.length := by simp
  exact {
    tagb := h.tagb, tags := h.tags, tagt := h.tagt, tagx := h.tagx, tagl := h.tagl
    ltb := by rw [size_setCells']; exact h.ltb
    lts := by rw [size_setCells']; exact h.lts
    ltt := by rw [size_setCells']; exact h.ltt
    ltx := fun t ht => by rw [size_setCells']; exact h.ltx t ht
    fb := h.fb.setCells _ _ _, fs := h.fs.setCells _ _ _, ft := h.ft.setCells _ _ _, fx := fun t ht => (h.fx t ht).setCells _ _ _
    c0 := cells_ne h.c0 (Or.inl (ne h.tagb (by simp)))
    c1 := cells_ne h.c1 (Or.inl (ne h.tagb (by simp)))
    c2 := cells_ne h.c2 (Or.inl (ne h.tagb (by simp)))
    l0 := fun i hi => cells_ne (h.l0 i hi) (Or.inl (ne h.tagb (by simp)))
    l1 := fun i hi => cells_ne (h.l1 i hi) (Or.inl (ne h.tagb (by simp)))
    l2 := fun i hi => cells_ne (h.l2 i hi) (Or.inl (ne h.tagb (by simp)))
    l3 := fun i hi => cells_ne (h.l3 i hi) (Or.inl (ne h.tagb (by simp)))
    s := fun t ht => cells_ne (h.s t ht) (Or.inl (ne h.tags (by simp)))
    t := fun t ht => cells_ne (h.t t ht) (Or.inl (ne h.tagt (by simp)))
    x := fun t ht j hj => by
      simp only [Pool.write] at hj ⊢
      by_cases e : t = s
      · subst e
        simp only [if_true]
        by_cases hin : a ≤ j ∧ j < a + xs.length
        · rw [if_pos hin]
          have h1 := World.cell?_setCells_in (L.xb t) (xs.map (Value.int .u8)) a w (fun i hi => by
            rw [len] at hi
            rw [h.x t hs (a + i) (by omega)]; rfl) (j - a) (by rw [len]; omega)
          rw [show a + (j - a) = j by omega] at h1
          rw [h1]
          have : j - a < xs.length := by omega
          simp [List.getD, List.getElem?_eq_getElem this]
        · rw [if_neg hin]
          exact cells_ne (h.x t hs j hj) (Or.inr (by rw [len]; omega))
      · simp only [if_neg e]
        exact cells_ne (h.x t ht j hj) (Or.inl (ne (h.tagx t ht) (by simp [e])))
    ls := fun i hi => ownsRow_setCells (fun k hk => ne (h.tagl i hi k hk) (by simp)) _ _ (h.ls i hi) }

def StorePost (w : World) (T : Tags) (b : Nat) (q : Pool) (L : Lay) (e : Ending) (w' : World) : Prop :=
  e = .returned (.int .i64 0) ∧ Same (PoolOwn T) w w' ∧ PoolRep w' T b q L

set_option maxRecDepth 100000 in
set_option maxHeartbeats 400000 in
theorem store_whole {w : World} {T : Tags} {b : Nat} {p : Pool} {L : Lay} (h : PoolRep w T b p L) (wf : p.WF) (r g off n : Int) (s at_ m : Nat) (hp : p.piece ⟨r, g, off, n⟩ = .ok (s, at_, m))
    (ab ao ac : Nat) (xs : List Int) (hx : xs.length = m) (hc : ∀ i, i < m → w.cell? ⟨ab, ao + i, none⟩ = some (.int .u8 (xs.getD i 0))) :
    Calls Try.prog 27 #[.pointer (some ⟨b, 0, none⟩), .agg #[.int .i64 r, .int .i64 g, .int .i64 off, .int .i64 n], .int .i64 0, .slice (some ⟨ab, ao, none⟩) m ac] w
      (StorePost w T b (p.write s at_ xs) L) := by
  have h' := h.alloc (.cells #[.int .i64 r, .int .i64 g, .int .i64 off, .int .i64 n] 43)
  have C := Lib.hid (piece_any h' wf r g off n)
  obtain ⟨-, -, -, -, -, k4, -, -, k5, k6, -, -⟩ := Pool.piece_ok wf hp
  have hsz := wf.size1
  have H := Lib.hid h
  have H' := Lib.hid h'
  have HP := Lib.hid hp
  have HC := Lib.hid hc
  have HX := Lib.hid hx
  have hlt := h.ltb
  clear h h' hp wf hc hx
  have d1 : decide ((m : Int) < 0) = false := by simp
  go_enter Try.func27, Try.ntmps27
  go_wp2_with fail
  refine C.out.mono ?_
  unfold PiecePost
  rw [HP.out]
  rintro e w1 ⟨hb, rfl⟩
  have h1 := H'.out.below hb
  have X := Lib.hid h1.x
  have FX := Lib.hid h1.fx
  have HR := Lib.hid h1
  clear h1
  go_wp2_with (with_reducible refine wpList_copy_cells rfl (.tmp 41) (.tmp 42) 48 48 rfl 5 Try.underlying48 (by kernel_rfl) (L.xb s) at_ m (p.size - at_) ⟨ab, ao, none⟩ m ac rfl rfl (xs.map (Value.int .u8)) ?c1 ?c2 ?c3 ?c4 ?c5 ?_)
  case c1 => simp [HX.out]
  case c2 =>
    intro j v hj
    have hjm : j < m := by
      have := (List.getElem?_eq_some_iff.1 hj).1
      simp [HX.out] at this; omega
    have hcj := HC.out j hjm
    rw [add_mk, hb.cell (p := ⟨ab, ao + j, none⟩) (by have := World.block_lt_of_cell? _ _ hcj; simp at this ⊢; omega), World.cell?_alloc_past _ _ _ (by have := World.block_lt_of_cell? _ _ hcj; simpa using this), hcj]
    rw [← hj]
    simp [List.getD, List.getElem?_eq_getElem (show j < xs.length by rw [HX.out]; exact hjm)]
  case c3 =>
    intro j hj
    rw [X.out s k4 (at_ + j) (by simp [HX.out] at hj; omega)]; rfl
  case c4 => intro j hj; exact FX.out s k4 _
  case c5 => intro v hv; obtain ⟨x, -, rfl⟩ := List.mem_map.1 hv; rfl
  go_wp2
  go_ret
  have hb0 : Below w.heap.size w w1 := ((Below.refl _ _).alloc (Nat.le_refl _) _).trans (hb.mono (by simp))
  have hts := H.out.tagx s k4
  refine ⟨rfl, Same.then_setCells (Or.inl ?_) _ _ (Same.of_below hb0), HR.out.write k4 xs (by rw [HX.out]; omega)⟩
  unfold PoolOwn
  rw [hts]
  simp

end Go.Proofs.Ytmnklaphcjchiaa
