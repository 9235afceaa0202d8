/-
  Frames: what a call leaves alone, told by labels on blocks; cells of blocks. Plain facts on worlds; no function of the program.
-/
import Derived.WalkKit
import Derived.WalkSpells
import Derived.WalkLawsBesides
import Derived.Lib.Hide
import Derived.Deep.QuietTactic
import Derived.BigQuiet
namespace Go.Proofs.Ytmnklaphcjchiaa
open Go.RowKit

/-- Blocks outside S are as they were; nothing has gone. -/
structure Same (S : Nat → Prop) (w w' : World) : Prop where
  os : w'.os = w.os
  tape : w'.tape = w.tape
  output : w'.output = w.output
  size : w.heap.size ≤ w'.heap.size
  block : ∀ k, k < w.heap.size → ¬ S k → w'.heap[k]? = w.heap[k]?

theorem Same.refl (S : Nat → Prop) (w : World) : Same S w w := ⟨rfl, rfl, rfl, Nat.le_refl _, fun _ _ _ => rfl⟩

theorem Same.trans {S S' : Nat → Prop} {a b c : World} (h : Same S a b) (k : Same S' b c) (hS : ∀ i, i < a.heap.size → S' i → S i) : Same S a c :=
  ⟨k.os.trans h.os, k.tape.trans h.tape, k.output.trans h.output, Nat.le_trans h.size k.size,
    fun i hi hs => (k.block i (Nat.lt_of_lt_of_le hi h.size) (fun hs' => hs (hS i hi hs'))).trans (h.block i hi hs)⟩

theorem Same.mono {S S' : Nat → Prop} {a b : World} (h : Same S a b) (hS : ∀ i, i < a.heap.size → S i → S' i) : Same S' a b :=
  ⟨h.os, h.tape, h.output, h.size, fun i hi hs => h.block i hi (fun hs' => hs (hS i hi hs'))⟩

theorem Same.then_alloc {S : Nat → Prop} {a b : World} (h : Same S a b) (o : Obj) : Same S a (b.alloc o) :=
  ⟨h.os, h.tape, h.output, by have := h.size; simp; omega, fun i hi hs => by
    have := h.size
    rw [Below.heap_alloc _ _ _ (by omega)]; exact h.block i hi hs⟩

theorem Same.then_setCell {S : Nat → Prop} {a b : World} (h : Same S a b) {p : Addr} (hp : S p.block ∨ a.heap.size ≤ p.block) (u : Value) : Same S a (b.setCell p u) :=
  ⟨h.os, h.tape, h.output, by have := h.size; simpa [World.setCell] using this, fun i hi hs => by
    rw [Below.heap_setCell _ _ _ _ (by rintro rfl; rcases hp with hp | hp; exact hs hp; omega)]; exact h.block i hi hs⟩

theorem Same.then_drew {S : Nat → Prop} {a b : World} (h : Same S a b) : Same S a b.drew := ⟨h.os, h.tape, h.output, h.size, h.block⟩

theorem Same.then_drewN {S : Nat → Prop} {a b : World} (h : Same S a b) (n : Nat) : Same S a (b.drewN n) := ⟨h.os, h.tape, h.output, h.size, h.block⟩

theorem Same.then_grown {S : Nat → Prop} {a b c : World} {row : Option Nat} (h : Same S a b) (hg : b.grownBy c row) (hr : ∀ k, row = some k → S k ∨ a.heap.size ≤ k) : Same S a c :=
  ⟨hg.os.trans h.os, hg.tape.trans h.tape, hg.output.trans h.output, Nat.le_trans h.size hg.size, fun i hi hs => by
    have := h.size
    rw [hg.block i (by omega) (by rintro e; rcases hr i e.symm with h1 | h1; exact hs h1; omega)]; exact h.block i hi hs⟩

theorem Same.then_below {S : Nat → Prop} {a b c : World} (h : Same S a b) (hb : Below b.heap.size b c) : Same S a c :=
  ⟨hb.os.trans h.os, hb.tape.trans h.tape, hb.output.trans h.output, Nat.le_trans h.size hb.size, fun i hi hs => by
    have := h.size
    rw [hb.block i (by omega)]; exact h.block i hi hs⟩

theorem Same.of_below {S : Nat → Prop} {a b : World} (h : Below a.heap.size a b) : Same S a b := (Same.refl S a).then_below h

theorem Same.below {S : Nat → Prop} {a b : World} (h : Same S a b) {B : Nat} (hB : B ≤ a.heap.size) (hS : ∀ i, i < B → ¬ S i) : Below B a b :=
  ⟨h.os, h.tape, h.output, h.size, fun i hi => h.block i (by omega) (hS i hi)⟩

theorem Same.cell {S : Nat → Prop} {a b : World} (h : Same S a b) {k o : Nat} {v : Value} (hs : ¬ S k) (hc : a.cell? ⟨k, o, none⟩ = some v) : b.cell? ⟨k, o, none⟩ = some v := by
  have hk := World.block_lt_of_cell? a _ hc
  rw [World.cell?_of_block (w := a) (h.block k hk hs)]; exact hc

theorem Same.free {S : Nat → Prop} {a b : World} (h : Same S a b) {k o : Nat} (hk : k < a.heap.size) (hs : ¬ S k) (hc : a.frozen? ⟨k, o, none⟩ = false) : b.frozen? ⟨k, o, none⟩ = false := by
  rw [World.frozen?_of_block (w := a) (h.block k hk hs)]; exact hc

theorem Same.obj {S : Nat → Prop} {a b : World} (h : Same S a b) {k : Nat} {o : Obj} (hs : ¬ S k) (hc : a.heap[k]? = some o) : b.heap[k]? = some o := by
  have hk := (Array.getElem?_eq_some_iff.1 hc).1
  rw [h.block k hk hs]; exact hc

theorem Same.owns {S : Nat → Prop} {a b : World} (h : Same S a b) {base : Nat} {e : TypeId} {size : Nat} {v : Value} {n : Nat} {xs : List Value} (hs : ∀ k, v.ownBlock = some k → ¬ S k)
    (hc : a.ownsRow base e size v n xs) : b.ownsRow base e size v n xs := by
  refine ⟨hc.1, ?_⟩
  rcases hc.2 with hn | ⟨g, cap, cur, rfl, hb, hgg, rest⟩
  · exact .inl hn
  · exact .inr ⟨g, cap, cur, rfl, hb, h.obj (hs g (by simp [Value.ownBlock])) hgg, rest⟩

theorem add_mk (b o i : Nat) : (⟨b, o, none⟩ : Addr).add i = ⟨b, o + i, none⟩ := by unfold Addr.add; split <;> simp_all

theorem owns_shape {w : World} {base : Nat} {e : TypeId} {size : Nat} {v : Value} {n : Nat} {xs : List Value} (h : w.ownsRow base e size v n xs) : ∃ a c, v = .slice a n c := by
  rcases h.2 with ⟨h1, h2⟩ | ⟨g, cap, _, h1, _⟩
  · subst h2; exact ⟨_, _, h1⟩
  · exact ⟨_, _, h1⟩

/-- No cell of block b is frozen. -/
def Free (w : World) (b : Nat) : Prop := ∀ o, w.frozen? ⟨b, o, none⟩ = false

theorem Free.same {S : Nat → Prop} {a b : World} {k : Nat} (hf : Free a k) (h : Same S a b) (hk : k < a.heap.size) (hs : ¬ S k) : Free b k := fun o => h.free hk hs (hf o)

theorem Free.setCell {w : World} {k : Nat} (hf : Free w k) (p : Addr) (v : Value) : Free (w.setCell p v) k := fun o => by rw [World.frozen?_setCell]; exact hf o

theorem Free.of_obj {w : World} {k : Nat} {c : Array Value} {t : TypeId} (h : w.heap[k]? = some (.cells c t)) : Free w k := fun o => by simp [World.frozen?, h]

/-- Labels: each block has a class and a number in it. -/
abbrev Tags := Nat → Nat × Nat

def Ext (T T' : Tags) (w : World) : Prop := ∀ k, k < w.heap.size → T' k = T k

theorem Ext.refl (T : Tags) (w : World) : Ext T T w := fun _ _ => rfl
theorem Ext.trans {T T' T'' : Tags} {w w' : World} (h : Ext T T' w) (h' : Ext T' T'' w') (hs : w.heap.size ≤ w'.heap.size) : Ext T T'' w := fun k hk => (h' k (by omega)).trans (h k hk)

/-- The label of one block. -/
def Tags.put (T : Tags) (k : Nat) (t : Nat × Nat) : Tags := fun i => if i = k then t else T i

theorem Tags.put_same (T : Tags) (k : Nat) (t : Nat × Nat) : T.put k t k = t := by simp [Tags.put]
theorem Tags.put_ne (T : Tags) (k : Nat) (t : Nat × Nat) {i : Nat} (h : i ≠ k) : T.put k t i = T i := by simp [Tags.put, h]
theorem Ext.put (T : Tags) (w : World) (k : Nat) (t : Nat × Nat) (h : w.heap.size ≤ k) : Ext T (T.put k t) w := fun i hi => Tags.put_ne _ _ _ (by omega)

/-- Labels of the blocks that are there alone. -/
def Tags.cut (T : Tags) (n : Nat) : Tags := fun k => if k < n then T k else (0, 0)
theorem Tags.cut_lt (T : Tags) {n k : Nat} (h : k < n) : T.cut n k = T k := by simp [Tags.cut, h]
theorem Tags.cut_ge (T : Tags) {n k : Nat} (h : n ≤ k) : T.cut n k = (0, 0) := by simp [Tags.cut]; omega
theorem Ext.cut (T : Tags) (w : World) : Ext T (T.cut w.heap.size) w := fun _ hk => T.cut_lt hk
theorem Ext.of_cut {T T' : Tags} {w : World} (h : Ext (T.cut w.heap.size) T' w) : Ext T T' w := fun k hk => (h k hk).trans (T.cut_lt hk)

theorem cell_ne {w : World} {b o b' o' : Nat} {v u : Value} (h : w.cell? ⟨b', o', none⟩ = some v) (hne : b' ≠ b ∨ o' ≠ o) : (w.setCell ⟨b, o, none⟩ u).cell? ⟨b', o', none⟩ = some v := by
  rw [World.cell?_setCell_other _ _ _ _ (?_)]; exact h
  intro e; cases e; rcases hne with h | h <;> exact h rfl

theorem cell_eq {w : World} {b o : Nat} {v u : Value} (h : w.cell? ⟨b, o, none⟩ = some v) : (w.setCell ⟨b, o, none⟩ u).cell? ⟨b, o, none⟩ = some u := World.cell?_setCell_same _ _ _ h

end Go.Proofs.Ytmnklaphcjchiaa
