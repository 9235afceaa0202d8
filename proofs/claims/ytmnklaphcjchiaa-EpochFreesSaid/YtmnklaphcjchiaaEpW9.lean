/-
  Walks of epoch: Retire: what it does to memory, ahead of the walk.
-/
import Derived.Test.YtmnklaphcjchiaaEpW8
import Derived.DeepKeys4
namespace Go.Proofs.Ytmnklaphcjchiaa
open Go.RowKit
open Go.Maps (Keyed int_keyed keyOf_int_mk)

def Eps.setEra (e : Eps) (k : Nat) (x : Era) : Eps := { e with era := fun j => if j = k then x else e.era j }

/-- The notes and the count of bytes of one era are others. -/
theorem EpRep.setEra {w w1 : World} {T : Tags} {a : Nat} {p : Pool} {e : Eps} {E : EpLay} (h : EpRep w T a p e E) {k : Nat} (h1 : e.lo ≤ k) (h2 : k ≤ e.now) (l : List Note) (n : Nat)
    (hg : w.grownBy w1 (some (E.nb k))) (hm : MapIs w1 Try.prog 45 (E.nb k) (noteList l)) :
    EpRep (w1.setCell ⟨E.eb k, 2, none⟩ (.int .i64 n)) T a p (e.setEra k { e.era k with notes := l, bytes := n }) E := by
  have S1 : Same (fun j => j = E.nb k) w w1 := (Same.refl _ w).then_grown hg (fun j hj => Or.inl (Option.some.inj hj).symm)
  have S : Same (fun j => j = E.nb k ∨ j = E.eb k) w (w1.setCell ⟨E.eb k, 2, none⟩ (.int .i64 n)) := (S1.mono (fun _ _ h => Or.inl h)).then_setCell (S := fun j => j = E.nb k ∨ j = E.eb k) (p := ⟨E.eb k, 2, none⟩) (Or.inl (Or.inr rfl)) _
  have tn := h.tagn k h1 h2
  have te := h.tage k h1 h2
  have nn : ∀ {j c i}, T j = (c, i) → (c, i) ≠ (9, k) → (c, i) ≠ (10, k) → ¬ (j = E.nb k ∨ j = E.eb k) := fun q1 q9 q10 q3 => by
    rcases q3 with rfl | rfl
    · rw [tn] at q1; exact q10 q1.symm
    · rw [te] at q1; exact q9 q1.symm
  have lt := S.size
  have nee : E.eb k ≠ E.nb k := tag_ne te tn (by simp)
  have ce : ∀ o v, w.cell? ⟨E.eb k, o, none⟩ = some v → o ≠ 2 → (w1.setCell ⟨E.eb k, 2, none⟩ (.int .i64 n)).cell? ⟨E.eb k, o, none⟩ = some v := fun o v hv ho =>
    cell_ne (S1.cell nee hv) (Or.inr ho)
  exact {
    pool := h.pool.same S (fun j hj ho => by
      unfold PoolOwn at ho
      refine nn (Prod.eta (T j)).symm ?_ ?_ <;> (intro q; have := congrArg Prod.fst q; simp at this; omega)) (Ext.refl _ _)
    taga := h.taga, tagl := h.tagl, tagp := h.tagp, tage := h.tage, tagn := h.tagn
    lta := by have := h.lta; omega
    lte := fun j q1 q2 => by have := h.lte j q1 q2; omega
    fa := h.fa.same S h.lta (nn h.taga (by simp) (by simp))
    fe := fun j q1 q2 => by
      by_cases q : j = k
      · subst q; exact ((h.fe j q1 q2).same S1 (h.lte j q1 q2) nee).setCell _ _
      · exact (h.fe j q1 q2).same S (h.lte j q1 q2) (nn (h.tage j q1 q2) (by simp [q]) (by simp))
    c0 := S.cell (nn h.taga (by simp) (by simp)) h.c0, c1 := S.cell (nn h.taga (by simp) (by simp)) h.c1, c2 := S.cell (nn h.taga (by simp) (by simp)) h.c2
    c3 := S.cell (nn h.taga (by simp) (by simp)) h.c3, c4 := S.cell (nn h.taga (by simp) (by simp)) h.c4, c5 := S.cell (nn h.taga (by simp) (by simp)) h.c5
    live := h.live.same S (nn h.tagl (by simp) (by simp))
    pins := h.pins.same S (nn h.tagp (by simp) (by simp))
    e0 := fun j q1 q2 => by
      simp only [Eps.setEra]
      by_cases q : j = k
      · subst q; simp only [if_true]; exact ce 0 _ (h.e0 j q1 q2) (by omega)
      · simp only [if_neg q]; exact S.cell (nn (h.tage j q1 q2) (by simp [q]) (by simp)) (h.e0 j q1 q2)
    e1 := fun j q1 q2 => by
      by_cases q : j = k
      · subst q; exact ce 1 _ (h.e1 j q1 q2) (by omega)
      · exact S.cell (nn (h.tage j q1 q2) (by simp [q]) (by simp)) (h.e1 j q1 q2)
    e2 := fun j q1 q2 => by
      simp only [Eps.setEra]
      by_cases q : j = k
      · subst q; simp only [if_true]; exact cell_eq (S1.cell nee (h.e2 j q1 q2))
      · simp only [if_neg q]; exact S.cell (nn (h.tage j q1 q2) (by simp [q]) (by simp)) (h.e2 j q1 q2)
    notes := fun j q1 q2 => by
      simp only [Eps.setEra]
      by_cases q : j = k
      · subst q
        simp only [if_true]
        exact hm.of_heap (Below.heap_setCell _ _ _ _ nee.symm)
      · simp only [if_neg q]; exact (h.notes j q1 q2).same S (nn (h.tagn j q1 q2) (by simp) (by simp [q])) }

set_option maxRecDepth 100000

theorem Try.laidOut : laidOutB Try.prog = true := by kernel_rfl
theorem Try.rowNote : (45 : TypeId) < Try.prog.types.size := of_decide_eq_true (by kernel_rfl)
theorem Try.wideNote : (match Try.prog.underlying 45 with | some (.array _ _) | some (.struct _) => true | _ => false) = true := by kernel_rfl
theorem Try.noteKeyed : Keyed Try.prog 45 := Keyed.of_law (deep_law_laid Try.laidOut (m := 3) (by omega) Try.rowNote (by kernel_rfl) Try.wideNote)

theorem lits_int (d : Nat) (x : Int) (h : (Lit.int .i64 x).wf = true) : Try.prog.keyLits (d + 1) 3 [.int .i64 x] = some [.int .i64 x] := by simp [Program.keyLits, Try.underlying3, h]

theorem Try.cellsHandle : Try.prog.cellsOf 43 = 4 := by kernel_rfl
theorem Try.cellsNote : Try.prog.cellsOf 45 = 5 := by kernel_rfl
theorem Try.cellsInt : Try.prog.cellsOf 3 = 1 := by kernel_rfl

theorem lits_handle (d : Nat) (h : Hnd) (h0 : (Lit.int .i64 h.region).wf = true) (h1 : (Lit.int .i64 h.gen).wf = true) (h2 : (Lit.int .i64 h.off).wf = true) (h3 : (Lit.int .i64 h.len).wf = true) :
    Try.prog.keyLits (d + 2) 43 [.int .i64 h.region, .int .i64 h.gen, .int .i64 h.off, .int .i64 h.len] = some [.int .i64 h.region, .int .i64 h.gen, .int .i64 h.off, .int .i64 h.len] := by
  unfold Program.keyLits
  rw [Try.underlying43]
  simp only [Try.cellsHandle]
  rw [if_pos ⟨rfl, by kernel_rfl⟩]
  simp [Try.cellsInt, lits_int d _ h0, lits_int d _ h1, lits_int d _ h2, lits_int d _ h3]

/-- Its numbers are ints. -/
structure Note.WF (n : Note) : Prop where
  e : (Lit.int .i64 n.epoch).wf = true
  r : (Lit.int .i64 n.at_.region).wf = true
  g : (Lit.int .i64 n.at_.gen).wf = true
  o : (Lit.int .i64 n.at_.off).wf = true
  l : (Lit.int .i64 n.at_.len).wf = true

theorem note_key {n : Note} (h : n.WF) : ∃ kl, keyOf Try.prog 45 (.agg n.cells) = some kl := by
  have hk : Try.prog.keyType 45 = true := by kernel_rfl
  have hs : Try.prog.types.size + 1 = (Try.prog.types.size - 2) + 3 := by have h9 : (45 : Nat) < Try.prog.types.size := Try.rowNote; omega
  have hl : Try.prog.keyLits (Try.prog.types.size + 1) 45 n.cells.toList = some [.int .i64 n.epoch, .int .i64 n.at_.region, .int .i64 n.at_.gen, .int .i64 n.at_.off, .int .i64 n.at_.len] := by
    rw [hs]
    unfold Program.keyLits
    rw [Try.underlying45]
    simp only [Try.cellsNote]
    rw [if_pos ⟨rfl, by kernel_rfl⟩]
    simp [Try.cellsInt, Try.cellsHandle, Note.cells, lits_int _ _ h.e, lits_handle _ n.at_ h.r h.g h.o h.l]
  refine ⟨.string (keyBytes [.int .i64 n.epoch, .int .i64 n.at_.region, .int .i64 n.at_.gen, .int .i64 n.at_.off, .int .i64 n.at_.len]), ?_⟩
  have hf : (Value.agg n.cells).formed Try.prog 45 = true := by simp [Value.formed, Try.underlying45, Try.cellsNote, Note.cells]
  unfold keyOf
  rw [Try.underlying45]
  simp only [hk, hf, Bool.and_self, if_true, Value.cells]
  rw [hl]
  rfl

theorem note_cells_inj {n m : Note} (h : Value.agg n.cells = Value.agg m.cells) : n = m := by
  obtain ⟨e, r, g, o, l⟩ := n
  obtain ⟨e', r', g', o', l'⟩ := m
  simp [Note.cells] at h
  obtain ⟨rfl, rfl, rfl, rfl, rfl⟩ := h
  rfl

end Go.Proofs.Ytmnklaphcjchiaa
