/-
  Walks of epoch: New.
-/
import Derived.Test.YtmnklaphcjchiaaEpW5
namespace Go.Proofs.Ytmnklaphcjchiaa
open Go.RowKit
open Go.Maps (Keyed int_keyed keyOf_int_mk)

def Eps.none : Eps := { lo := 1, now := 0, era := fun _ => { region := 0, notes := [], bytes := 0 }, pins := [], last := 0 }

def epCells (b m1 m2 : Nat) : Array Value := #[.pointer (some ⟨b, 0, none⟩), .int .i64 0, .map (some m1), .map (some m2), .int .i64 0, .bool false]

theorem EpRep.start {w : World} {T : Tags} {b : Nat} {p : Pool} {L : Lay} (h : PoolRep w T b p L) :
    ∃ T' E', Ext T T' w ∧ EpRep (((w.alloc (.map #[] 0)).alloc (.map #[] 0)).alloc (.cells (epCells b w.heap.size (w.heap.size + 1)) 68)) T' (w.heap.size + 2) p .none E' ∧ E'.b = b := by
  have hT : Ext T (((T.put w.heap.size (7, 0)).put (w.heap.size + 1) (8, 0)).put (w.heap.size + 2) (6, b)) w :=
    (Ext.put T w _ _ (Nat.le_refl _)).trans ((Ext.put _ w _ _ (by omega)).trans (Ext.put _ w _ _ (by omega)) (Nat.le_refl _)) (Nat.le_refl _)
  have hp := h.same (S := fun _ => False) (T' := ((T.put w.heap.size (7, 0)).put (w.heap.size + 1) (8, 0)).put (w.heap.size + 2) (6, b))
    ((((Same.refl (fun _ => False) w).then_alloc (.map #[] 0)).then_alloc (.map #[] 0)).then_alloc (.cells (epCells b w.heap.size (w.heap.size + 1)) 68)) (fun _ _ _ h => h) hT
  have h2 : (((w.alloc (.map #[] 0)).alloc (.map #[] 0)).alloc (.cells (epCells b w.heap.size (w.heap.size + 1)) 68)).heap[w.heap.size + 2]? = some (.cells (epCells b w.heap.size (w.heap.size + 1)) 68) := by
    have := heap_alloc_new ((w.alloc (.map #[] 0)).alloc (.map #[] 0)) (.cells (epCells b w.heap.size (w.heap.size + 1)) 68)
    simpa using this
  have h1 : (((w.alloc (.map #[] 0)).alloc (.map #[] 0)).alloc (.cells (epCells b w.heap.size (w.heap.size + 1)) 68)).heap[w.heap.size + 1]? = some (.map #[] 0) := by
    rw [Below.heap_alloc _ _ _ (by simp)]
    have := heap_alloc_new (w.alloc (.map #[] 0)) (.map #[] 0)
    simpa using this
  have h0 : (((w.alloc (.map #[] 0)).alloc (.map #[] 0)).alloc (.cells (epCells b w.heap.size (w.heap.size + 1)) 68)).heap[w.heap.size]? = some (.map #[] 0) := by
    rw [Below.heap_alloc _ _ _ (by simp; omega), Below.heap_alloc _ _ _ (by simp)]
    exact heap_alloc_new _ _
  have hc : ∀ i v, (epCells b w.heap.size (w.heap.size + 1))[i]? = some v → (((w.alloc (.map #[] 0)).alloc (.map #[] 0)).alloc (.cells (epCells b w.heap.size (w.heap.size + 1)) 68)).cell? ⟨w.heap.size + 2, i, none⟩ = some v := fun i v hv => by
    rw [World.cell?, h2]; simpa using hv
  have no : ∀ k : Nat, (Eps.none).lo ≤ k → k ≤ (Eps.none).now → False := fun k h1 h2 => by simp only [Eps.none] at h1 h2; omega
  refine ⟨((T.put w.heap.size (7, 0)).put (w.heap.size + 1) (8, 0)).put (w.heap.size + 2) (6, b), ⟨b, L, w.heap.size, w.heap.size + 1, fun _ => 0, fun _ => 0⟩, hT, ?_, rfl⟩
  exact {
    pool := hp
    taga := Tags.put_same _ _ _
    tagl := by rw [Tags.put_ne _ _ _ (by show w.heap.size ≠ _; omega), Tags.put_ne _ _ _ (by show w.heap.size ≠ _; omega)]; exact Tags.put_same _ _ _
    tagp := by rw [Tags.put_ne _ _ _ (by show w.heap.size + 1 ≠ _; omega)]; exact Tags.put_same _ _ _
    tage := fun k h1 h2 => (no k h1 h2).elim
    tagn := fun k h1 h2 => (no k h1 h2).elim
    lta := by simp
    lte := fun k h1 h2 => (no k h1 h2).elim
    fa := Free.of_obj h2
    fe := fun k h1 h2 => (no k h1 h2).elim
    c0 := hc 0 _ rfl, c1 := hc 1 _ rfl, c2 := hc 2 _ rfl, c3 := hc 3 _ rfl, c4 := hc 4 _ rfl, c5 := hc 5 _ rfl
    live := ⟨#[], 0, h0, MapKept.stamped_empty 0, by simp [liveList, Eps.cnt, Eps.none], by simp [liveList, Eps.cnt, Eps.none]⟩
    pins := ⟨#[], 0, h1, MapKept.stamped_empty 0, by simp [pinList, Eps.none], by simp [pinList, Eps.none]⟩
    e0 := fun k h1 h2 => (no k h1 h2).elim
    e1 := fun k h1 h2 => (no k h1 h2).elim
    e2 := fun k h1 h2 => (no k h1 h2).elim
    notes := fun k h1 h2 => (no k h1 h2).elim }

def EpNewPost (w : World) (T : Tags) (b : Nat) (q : Pool) (r : Nat) (x : Ending) (w' : World) : Prop :=
  ∃ a, x = .returned (.tuple #[.pointer (some ⟨a, 0, none⟩), .int .i64 0]) ∧ ∃ T' E', Ext T T' w ∧ Same (EpOwn T) w w' ∧ EpRep w' T' a q (Eps.none.advance r) E' ∧ E'.b = b

set_option maxRecDepth 100000 in
set_option maxHeartbeats 800000 in
theorem epnew_any {w : World} {T : Tags} {b : Nat} {p : Pool} {L : Lay} (h : PoolRep w T b p L) (r : Nat) (q : Pool) (hm : p.make = some (r, q)) :
    Calls Try.prog 9 #[.pointer (some ⟨b, 0, none⟩)] w (EpNewPost w T b q r) := by
  have hmm := @run_makeMap Try.prog
  have h' := h.same (S := fun _ => False) (Same.refl _ _) (fun _ _ _ h => h) (Ext.cut T w)
  obtain ⟨T1, E1, hT1, R1, hb1⟩ := EpRep.start h'
  have CA := Lib.hid (advance_any R1 (by simp [Eps.none]) (by simp [Eps.none]))
  unfold epCells at CA
  have HT1 := Lib.hid hT1
  have HB1 := Lib.hid hb1
  have HR1 := Lib.hid R1
  have HM := Lib.hid (show advanced p .none = some (q, Eps.none.advance r) by unfold advanced; rw [hm])
  clear h h' R1 hT1 hb1 hm
  go_enter Try.func9, Try.ntmps9
  go_wp2_with fail
  refine CA.out.mono ?_
  unfold AdvancePost
  rw [HM.out]
  rintro e w1 ⟨rfl, S2, T2, E2, hT2, R2⟩
  have HS2 := Lib.hid S2
  have HT2 := Lib.hid hT2
  have HR2 := Lib.hid R2
  clear S2 hT2 R2
  go_wp2
  go_ret2
  refine ⟨_, rfl, T2, E2, fun k hk => ?_, ?_, HR2.out, (HR1.out.sameB HR2.out HT2.out).trans HB1.out⟩
  · rw [HT2.out k (by simp; omega), HT1.out k hk, Tags.cut_lt _ hk]
  · refine ((((Same.refl (EpOwn T) w).then_alloc _).then_alloc _).then_alloc _).trans HS2.out (fun k hk ho => ?_)
    unfold EpOwn at ho ⊢
    rw [HT1.out k hk, Tags.cut_lt _ hk] at ho
    exact ho

end Go.Proofs.Ytmnklaphcjchiaa
