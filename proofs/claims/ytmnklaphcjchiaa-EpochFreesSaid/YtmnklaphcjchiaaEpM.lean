/-
  The plain model of epoch.Epochs, and how it lies in memory: labels 6 (the epochs), 7 (live), 8 (pins), 9 (era of epoch k), 10 (its notes).
-/
import Derived.Test.YtmnklaphcjchiaaPoolW10
import Derived.Test.YtmnklaphcjchiaaMaps
namespace Go.Proofs.Ytmnklaphcjchiaa
open Go.RowKit
open Go.Maps (Keyed int_keyed keyOf_int_mk)

structure Note where
  epoch : Int
  at_ : Hnd
  deriving DecidableEq

def Note.cells (n : Note) : Array Value := #[.int .i64 n.epoch, .int .i64 n.at_.region, .int .i64 n.at_.gen, .int .i64 n.at_.off, .int .i64 n.at_.len]

structure Era where
  region : Nat
  notes : List Note
  bytes : Nat

structure Eps where
  lo : Nat
  now : Nat
  era : Nat → Era
  pins : List (Nat × Nat)
  last : Nat

def Eps.cnt (e : Eps) : Nat := e.now + 1 - e.lo

structure EpLay where
  b : Nat
  L : Lay
  lm : Nat
  pm : Nat
  eb : Nat → Nat
  nb : Nat → Nat

def liveList (lo cnt : Nat) (eb : Nat → Nat) : List (Value × Value) := (List.range' lo cnt).map fun (k : Nat) => (Value.int .i64 (k : Int), Value.pointer (some ⟨eb k, 0, none⟩))

def pinList (l : List (Nat × Nat)) : List (Value × Value) := l.map fun x => (Value.int .i64 (x.1 : Int), Value.int .i64 (x.2 : Int))

def noteList (l : List Note) : List (Value × Value) := l.map fun n => (Value.agg n.cells, Value.agg #[])

theorem Try.intKeyed : Keyed Try.prog 3 := int_keyed (q := .i64) Try.underlying3

structure EpRep (w : World) (T : Tags) (a : Nat) (p : Pool) (e : Eps) (E : EpLay) : Prop where
  pool : PoolRep w T E.b p E.L
  taga : T a = (6, E.b)
  tagl : T E.lm = (7, 0)
  tagp : T E.pm = (8, 0)
  tage : ∀ k, e.lo ≤ k → k ≤ e.now → T (E.eb k) = (9, k)
  tagn : ∀ k, e.lo ≤ k → k ≤ e.now → T (E.nb k) = (10, k)
  lta : a < w.heap.size
  lte : ∀ k, e.lo ≤ k → k ≤ e.now → E.eb k < w.heap.size
  fa : Free w a
  fe : ∀ k, e.lo ≤ k → k ≤ e.now → Free w (E.eb k)
  c0 : w.cell? ⟨a, 0, none⟩ = some (.pointer (some ⟨E.b, 0, none⟩))
  c1 : w.cell? ⟨a, 1, none⟩ = some (.int .i64 e.now)
  c2 : w.cell? ⟨a, 2, none⟩ = some (.map (some E.lm))
  c3 : w.cell? ⟨a, 3, none⟩ = some (.map (some E.pm))
  c4 : w.cell? ⟨a, 4, none⟩ = some (.int .i64 e.last)
  c5 : w.cell? ⟨a, 5, none⟩ = some (.bool false)
  live : MapIs w Try.prog 3 E.lm (liveList e.lo e.cnt E.eb)
  pins : MapIs w Try.prog 3 E.pm (pinList e.pins)
  e0 : ∀ k, e.lo ≤ k → k ≤ e.now → w.cell? ⟨E.eb k, 0, none⟩ = some (.int .i64 (e.era k).region)
  e1 : ∀ k, e.lo ≤ k → k ≤ e.now → w.cell? ⟨E.eb k, 1, none⟩ = some (.map (some (E.nb k)))
  e2 : ∀ k, e.lo ≤ k → k ≤ e.now → w.cell? ⟨E.eb k, 2, none⟩ = some (.int .i64 (e.era k).bytes)
  notes : ∀ k, e.lo ≤ k → k ≤ e.now → MapIs w Try.prog 45 (E.nb k) (noteList (e.era k).notes)

/-- The blocks that epochs may write. -/
def EpOwn (T : Tags) (k : Nat) : Prop := 1 ≤ (T k).1 ∧ (T k).1 ≤ 10

theorem EpOwn.of_pool {T : Tags} {k : Nat} (h : PoolOwn T k) : EpOwn T k := ⟨h.1, Nat.le_trans h.2 (by omega)⟩

theorem EpRep.same {w w' : World} {T T' : Tags} {a : Nat} {p : Pool} {e : Eps} {E : EpLay} {S : Nat → Prop} (h : EpRep w T a p e E) (hs : Same S w w') (hS : ∀ k, k < w.heap.size → EpOwn T k → ¬ S k) (hT : Ext T T' w) : EpRep w' T' a p e E := by
  have own : ∀ {k c i}, T k = (c, i) → 1 ≤ c → c ≤ 10 → EpOwn T k := fun h1 h2 h3 => by unfold EpOwn; rw [h1]; exact ⟨h2, h3⟩
  have na := hS a h.lta (own h.taga (by omega) (by omega))
  have nl := hS E.lm h.live.lt (own h.tagl (by omega) (by omega))
  have np := hS E.pm h.pins.lt (own h.tagp (by omega) (by omega))
  have ne := fun k h1 h2 => hS (E.eb k) (h.lte k h1 h2) (own (h.tage k h1 h2) (by omega) (by omega))
  have nn := fun k h1 h2 => hS (E.nb k) (h.notes k h1 h2).lt (own (h.tagn k h1 h2) (by omega) (by omega))
  have lt := hs.size
  exact {
    pool := h.pool.same hs (fun k hk ho => hS k hk (.of_pool ho)) hT
    taga := (hT _ h.lta).trans h.taga
    tagl := (hT _ h.live.lt).trans h.tagl
    tagp := (hT _ h.pins.lt).trans h.tagp
    tage := fun k h1 h2 => (hT _ (h.lte k h1 h2)).trans (h.tage k h1 h2)
    tagn := fun k h1 h2 => (hT _ (h.notes k h1 h2).lt).trans (h.tagn k h1 h2)
    lta := by have := h.lta; omega
    lte := fun k h1 h2 => by have := h.lte k h1 h2; omega
    fa := h.fa.same hs h.lta na
    fe := fun k h1 h2 => (h.fe k h1 h2).same hs (h.lte k h1 h2) (ne k h1 h2)
    c0 := hs.cell na h.c0, c1 := hs.cell na h.c1, c2 := hs.cell na h.c2, c3 := hs.cell na h.c3, c4 := hs.cell na h.c4, c5 := hs.cell na h.c5
    live := h.live.same hs nl, pins := h.pins.same hs np
    e0 := fun k h1 h2 => hs.cell (ne k h1 h2) (h.e0 k h1 h2)
    e1 := fun k h1 h2 => hs.cell (ne k h1 h2) (h.e1 k h1 h2)
    e2 := fun k h1 h2 => hs.cell (ne k h1 h2) (h.e2 k h1 h2)
    notes := fun k h1 h2 => (h.notes k h1 h2).same hs (nn k h1 h2) }

/-- The pool stays the same block. -/
theorem EpRep.sameB {w w' : World} {T T' : Tags} {a : Nat} {p p' : Pool} {e e' : Eps} {E E' : EpLay} (h : EpRep w T a p e E) (h' : EpRep w' T' a p' e' E') (hT : Ext T T' w) : E'.b = E.b := by
  have h1 := (hT a h.lta).trans h.taga
  rw [h'.taga] at h1
  exact congrArg Prod.snd h1

theorem EpRep.cut {w : World} {T : Tags} {a : Nat} {p : Pool} {e : Eps} {E : EpLay} (h : EpRep w T a p e E) : EpRep w (T.cut w.heap.size) a p e E :=
  h.same (S := fun _ => False) (Same.refl _ _) (fun _ _ _ h => h) (Ext.cut T w)

theorem EpRep.drewN {w : World} {T : Tags} {a : Nat} {p : Pool} {e : Eps} {E : EpLay} (h : EpRep w T a p e E) (n : Nat) : EpRep (w.drewN n) T a p e E :=
  h.same (S := fun _ => False) ((Same.refl _ _).then_drewN n) (fun _ _ _ h => h) (Ext.refl _ _)

theorem EpRep.alloc {w : World} {T : Tags} {a : Nat} {p : Pool} {e : Eps} {E : EpLay} (h : EpRep w T a p e E) (o : Obj) : EpRep (w.alloc o) T a p e E :=
  h.same (S := fun _ => False) ((Same.refl _ _).then_alloc o) (fun _ _ _ h => h) (Ext.refl _ _)

theorem EpRep.below {w w' : World} {T : Tags} {a : Nat} {p : Pool} {e : Eps} {E : EpLay} (h : EpRep w T a p e E) (hb : Below w.heap.size w w') : EpRep w' T a p e E :=
  h.same (S := fun _ => False) (Same.of_below hb) (fun _ _ _ h => h) (Ext.refl _ _)

/-- The epochs' own cells and maps are left alone where the pool alone is turned. -/
theorem EpRep.of_pool {w w' : World} {T T' : Tags} {a : Nat} {p q : Pool} {e : Eps} {E : EpLay} {L' : Lay} (h : EpRep w T a p e E) (hs : Same (PoolOwn T) w w') (hT : Ext T T' w) (hp : PoolRep w' T' E.b q L') :
    EpRep w' T' a q e { E with L := L' } := by
  have n6 : ∀ {k c i}, T k = (c, i) → 6 ≤ c → ¬ PoolOwn T k := fun h1 h2 h3 => by unfold PoolOwn at h3; rw [h1] at h3; have := h3.2; simp at this; omega
  have na := n6 h.taga (by omega)
  have nl := n6 h.tagl (by omega)
  have np := n6 h.tagp (by omega)
  have ne := fun k h1 h2 => n6 (h.tage k h1 h2) (by omega)
  have nn := fun k h1 h2 => n6 (h.tagn k h1 h2) (by omega)
  have lt := hs.size
  exact {
    pool := hp
    taga := (hT _ h.lta).trans h.taga
    tagl := (hT _ h.live.lt).trans h.tagl
    tagp := (hT _ h.pins.lt).trans h.tagp
    tage := fun k h1 h2 => (hT _ (h.lte k h1 h2)).trans (h.tage k h1 h2)
    tagn := fun k h1 h2 => (hT _ (h.notes k h1 h2).lt).trans (h.tagn k h1 h2)
    lta := by have := h.lta; omega
    lte := fun k h1 h2 => by have := h.lte k h1 h2; show E.eb k < _; omega
    fa := h.fa.same hs h.lta na
    fe := fun k h1 h2 => (h.fe k h1 h2).same hs (h.lte k h1 h2) (ne k h1 h2)
    c0 := hs.cell na h.c0, c1 := hs.cell na h.c1, c2 := hs.cell na h.c2, c3 := hs.cell na h.c3, c4 := hs.cell na h.c4, c5 := hs.cell na h.c5
    live := h.live.same hs nl, pins := h.pins.same hs np
    e0 := fun k h1 h2 => hs.cell (ne k h1 h2) (h.e0 k h1 h2)
    e1 := fun k h1 h2 => hs.cell (ne k h1 h2) (h.e1 k h1 h2)
    e2 := fun k h1 h2 => hs.cell (ne k h1 h2) (h.e2 k h1 h2)
    notes := fun k h1 h2 => (h.notes k h1 h2).same hs (nn k h1 h2) }

theorem int_key {x : Int} (h0 : -9223372036854775808 ≤ x) (h1 : x ≤ 9223372036854775807) : keyOf Try.prog 3 (.int .i64 x) = some (.int .i64 x) :=
  keyOf_int_mk (q := .i64) Try.underlying3 (by simp [Lit.wf, IntKind.min, IntKind.max, IntKind.signed, IntKind.bits]; omega)

end Go.Proofs.Ytmnklaphcjchiaa
