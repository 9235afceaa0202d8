/-
  How region.Pool lies in memory: labels 1 (the pool), 2 (the row of slabs), 3 (taken), 4 (slab s), 5 (the row of region i's slabs).
-/
import Derived.Test.YtmnklaphcjchiaaPoolM
import Derived.Test.YtmnklaphcjchiaaRows
namespace Go.Proofs.Ytmnklaphcjchiaa
open Go.RowKit

def slabSlice (x size : Nat) : Value := .slice (some ⟨x, 0, none⟩) size size

structure Lay where
  sb : Nat
  scap : Nat
  tb : Nat
  xb : Nat → Nat
  lv : Nat → Value

def slabInts (l : List Nat) : List Value := l.map fun (s : Nat) => Value.int .i64 (s : Int)

structure PoolRep (w : World) (T : Tags) (b : Nat) (p : Pool) (L : Lay) : Prop where
  tagb : T b = (1, 0)
  tags : T L.sb = (2, 0)
  tagt : T L.tb = (3, 0)
  tagx : ∀ s, s < p.n → T (L.xb s) = (4, s)
  tagl : ∀ i, i < 256 → ∀ k, (L.lv i).ownBlock = some k → T k = (5, i)
  ltb : b < w.heap.size
  lts : L.sb < w.heap.size
  ltt : L.tb < w.heap.size
  ltx : ∀ s, s < p.n → L.xb s < w.heap.size
  fb : Free w b
  fs : Free w L.sb
  ft : Free w L.tb
  fx : ∀ s, s < p.n → Free w (L.xb s)
  c0 : w.cell? ⟨b, 0, none⟩ = some (.int .i64 p.size)
  c1 : w.cell? ⟨b, 1, none⟩ = some (.slice (some ⟨L.sb, 0, none⟩) p.n L.scap)
  c2 : w.cell? ⟨b, 2, none⟩ = some (.slice (some ⟨L.tb, 0, none⟩) p.n p.n)
  l0 : ∀ i, i < 256 → w.cell? ⟨b, 3 + i * 4, none⟩ = some (.bool (p.lands i).there)
  l1 : ∀ i, i < 256 → w.cell? ⟨b, 3 + i * 4 + 1, none⟩ = some (.int .i64 (p.lands i).gen)
  l2 : ∀ i, i < 256 → w.cell? ⟨b, 3 + i * 4 + 2, none⟩ = some (L.lv i)
  l3 : ∀ i, i < 256 → w.cell? ⟨b, 3 + i * 4 + 3, none⟩ = some (.int .i64 (p.lands i).fill)
  s : ∀ s, s < p.n → w.cell? ⟨L.sb, s, none⟩ = some (slabSlice (L.xb s) p.size)
  t : ∀ s, s < p.n → w.cell? ⟨L.tb, s, none⟩ = some (.bool (p.taken s))
  x : ∀ s, s < p.n → ∀ j, j < p.size → w.cell? ⟨L.xb s, j, none⟩ = some (.int .u8 (p.bytes s j))
  ls : ∀ i, i < 256 → w.ownsRow 0 3 1 (L.lv i) (p.lands i).slabs.length (slabInts (p.lands i).slabs)

/-- The blocks that a pool may write. -/
def PoolOwn (T : Tags) (k : Nat) : Prop := 1 ≤ (T k).1 ∧ (T k).1 ≤ 5

/-- It lies as it lay behind whatever leaves its blocks alone. -/
theorem PoolRep.same {w w' : World} {T T' : Tags} {b : Nat} {p : Pool} {L : Lay} {S : Nat → Prop} (h : PoolRep w T b p L) (hs : Same S w w') (hS : ∀ k, k < w.heap.size → PoolOwn T k → ¬ S k) (hT : Ext T T' w) : PoolRep w' T' b p L := by
  have own : ∀ {k c i}, T k = (c, i) → 1 ≤ c → c ≤ 5 → PoolOwn T k := fun h1 h2 h3 => by unfold PoolOwn; rw [h1]; exact ⟨h2, h3⟩
  have nb := hS b h.ltb (own h.tagb (by omega) (by omega))
  have ns := hS L.sb h.lts (own h.tags (by omega) (by omega))
  have nt := hS L.tb h.ltt (own h.tagt (by omega) (by omega))
  have nx := fun s (hs : s < p.n) => hS (L.xb s) (h.ltx s hs) (own (h.tagx s hs) (by omega) (by omega))
  have lt := hs.size
  have ltl : ∀ i, i < 256 → ∀ k, (L.lv i).ownBlock = some k → k < w.heap.size := fun i hi k hk => ((h.ls i hi).lt k hk).2
  exact {
    tagb := (hT _ h.ltb).trans h.tagb, tags := (hT _ h.lts).trans h.tags, tagt := (hT _ h.ltt).trans h.tagt
    tagx := fun s hs => (hT _ (h.ltx s hs)).trans (h.tagx s hs)
    tagl := fun i hi k hk => (hT _ (ltl i hi k hk)).trans (h.tagl i hi k hk)
    ltb := by have := h.ltb; omega
    lts := by have := h.lts; omega
    ltt := by have := h.ltt; omega
    ltx := fun s hs => by have := h.ltx s hs; omega
    fb := h.fb.same hs h.ltb nb, fs := h.fs.same hs h.lts ns, ft := h.ft.same hs h.ltt nt
    fx := fun s hl => (h.fx s hl).same hs (h.ltx s hl) (nx s hl)
    c0 := hs.cell nb h.c0, c1 := hs.cell nb h.c1, c2 := hs.cell nb h.c2
    l0 := fun i hi => hs.cell nb (h.l0 i hi), l1 := fun i hi => hs.cell nb (h.l1 i hi), l2 := fun i hi => hs.cell nb (h.l2 i hi), l3 := fun i hi => hs.cell nb (h.l3 i hi)
    s := fun s hl => hs.cell ns (h.s s hl), t := fun s hl => hs.cell nt (h.t s hl)
    x := fun s hl j hj => hs.cell (nx s hl) (h.x s hl j hj)
    ls := fun i hi => hs.owns (fun k hk => hS k (ltl i hi k hk) (own (h.tagl i hi k hk) (by omega) (by omega))) (h.ls i hi) }

theorem PoolRep.drewN {w : World} {T : Tags} {b : Nat} {p : Pool} {L : Lay} (h : PoolRep w T b p L) (n : Nat) : PoolRep (w.drewN n) T b p L :=
  h.same (S := fun _ => False) ((Same.refl _ _).then_drewN n) (fun _ _ _ h => h) (Ext.refl _ _)

theorem PoolRep.alloc {w : World} {T : Tags} {b : Nat} {p : Pool} {L : Lay} (h : PoolRep w T b p L) (o : Obj) : PoolRep (w.alloc o) T b p L :=
  h.same (S := fun _ => False) ((Same.refl _ _).then_alloc o) (fun _ _ _ h => h) (Ext.refl _ _)

theorem PoolRep.below {w w' : World} {T : Tags} {b : Nat} {p : Pool} {L : Lay} (h : PoolRep w T b p L) (hb : Below w.heap.size w w') : PoolRep w' T b p L :=
  h.same (S := fun _ => False) (Same.of_below hb) (fun _ _ _ h => h) (Ext.refl _ _)

/-- Blocks with different labels are different. -/
theorem tag_ne {T : Tags} {a b : Nat} {x y : Nat × Nat} (ha : T a = x) (hb : T b = y) (h : x ≠ y) : a ≠ b := by
  rintro rfl; exact h (ha.symm.trans hb)

end Go.Proofs.Ytmnklaphcjchiaa
