/-
  Walks of epoch.Epochs: Advance.
-/
import Derived.Test.YtmnklaphcjchiaaEpW4
import Derived.Deep.RegionHeld3
namespace Go.Proofs.Ytmnklaphcjchiaa
open Go.RowKit
open Go.Maps (Keyed int_keyed keyOf_int_mk)

def Eps.advance (e : Eps) (r : Nat) : Eps := { e with now := e.now + 1, era := fun k => if k = e.now + 1 then { region := r, notes := [], bytes := 0 } else e.era k }

def eraCells (r m : Nat) : Array Value := #[.int .i64 (r : Int), .map (some m), .int .i64 0]

theorem liveList_snoc (lo cnt : Nat) (eb : Nat → Nat) (x : Nat) : liveList lo cnt eb ++ [(.int .i64 ((lo + cnt : Nat) : Int), .pointer (some ⟨x, 0, none⟩))] = liveList lo (cnt + 1) (fun k => if k = lo + cnt then x else eb k) := by
  unfold liveList
  rw [List.range'_concat, List.map_append]
  congr 1
  · refine List.map_congr_left (fun k hk => ?_)
    have h1 := List.mem_range'_1.1 hk
    have h2 : ¬ k = lo + cnt := by omega
    simp [h2]
  · simp

/-- A new era: its map and its cells are made, the number of the epoch that goes on is stored, and the map of live epochs has it. -/
theorem EpRep.newEra {w w4 : World} {T : Tags} {a : Nat} {p : Pool} {e : Eps} {E : EpLay} (h : EpRep w T a p e E) (hlo : e.lo ≤ e.now + 1) (r n : Nat) {w2 : World} (hw2 : w2 = w.setCell ⟨a, 1, none⟩ (.int .i64 ((e.now : Int) + 1)))
    (hg : (((w2.alloc (.map #[] 0)).alloc (.cells (eraCells r w2.heap.size) 73)).drewN n).grownBy w4 (some E.lm))
    (hm : MapIs w4 Try.prog 3 E.lm (liveList e.lo e.cnt E.eb ++ [(.int .i64 ((e.now : Int) + 1), .pointer (some ⟨w2.heap.size + 1, 0, none⟩))])) :
    ∃ T' E', Ext T T' w ∧ Same (EpOwn T) w w4 ∧ EpRep w4 T' a p (e.advance r) E' := by
  have hz : w2.heap.size = w.heap.size := by rw [hw2]; simp
  have hlm := h.live.lt
  have nal : E.lm ≠ a := tag_ne h.tagl h.taga (by simp)
  obtain ⟨T', hT, t10, t9⟩ : ∃ T', Ext T T' w ∧ T' w.heap.size = (10, e.now + 1) ∧ T' (w.heap.size + 1) = (9, e.now + 1) :=
    ⟨(T.put w.heap.size (10, e.now + 1)).put (w.heap.size + 1) (9, e.now + 1), (Ext.put T w _ _ (Nat.le_refl _)).trans (Ext.put _ w _ _ (by omega)) (Nat.le_refl _), by rw [Tags.put_ne _ _ _ (by omega), Tags.put_same], Tags.put_same _ _ _⟩
  have S2 : Same (fun k => k = a) w w2 := by rw [hw2]; exact (Same.refl (fun k => k = a) w).then_setCell (p := ⟨a, 1, none⟩) (Or.inl rfl) _
  have S4 : Same (fun k => k = a ∨ k = E.lm) w w4 :=
    ((((S2.mono (fun k _ h => Or.inl h)).then_alloc _).then_alloc _).then_drewN n).then_grown hg (fun k hk => Or.inl (Or.inr (Option.some.inj hk).symm))
  have nn : ∀ {k c i}, T k = (c, i) → c ≠ 6 → c ≠ 7 → ¬ (k = a ∨ k = E.lm) := fun h1 h6 h7 h3 => by
    rcases h3 with rfl | rfl
    · rw [h.taga] at h1; simp at h1; omega
    · rw [h.tagl] at h1; simp at h1; omega
  have g4 : ∀ k, k < w2.heap.size + 2 → k ≠ E.lm → w4.heap[k]? = ((w2.alloc (.map #[] 0)).alloc (.cells (eraCells r w2.heap.size) 73)).heap[k]? := fun k hk hne =>
    hg.block k (by show k < ((w2.alloc _).alloc _).heap.size; simp; omega) (fun e1 => hne (Option.some.inj e1))
  have hbm : w4.heap[w.heap.size]? = some (.map #[] 0) := by
    rw [g4 _ (by omega) (by omega), Below.heap_alloc _ _ _ (by simp; omega), ← hz]; exact heap_alloc_new _ _
  have hbe : w4.heap[w.heap.size + 1]? = some (.cells (eraCells r w2.heap.size) 73) := by
    rw [g4 _ (by omega) (by omega), ← hz]
    have := heap_alloc_new (w2.alloc (.map #[] 0)) (.cells (eraCells r w2.heap.size) 73)
    rw [World.size_alloc] at this
    exact this
  have hba : w4.heap[a]? = w2.heap[a]? := by
    rw [g4 _ (by have := h.lta; omega) (fun e1 => nal e1.symm), Below.heap_alloc _ _ _ (by have := h.lta; simp; omega), Below.heap_alloc _ _ _ (by have := h.lta; omega)]
  have ga : ∀ o v, w.cell? ⟨a, o, none⟩ = some v → o ≠ 1 → w4.cell? ⟨a, o, none⟩ = some v := fun o v hv ho => by
    rw [World.cell?_of_block (w := w2) (a := ⟨a, o, none⟩) hba, hw2]
    exact cell_ne hv (Or.inr ho)
  have hcnt : (e.advance r).cnt = e.cnt + 1 := by simp only [Eps.advance, Eps.cnt]; omega
  have hsum : e.lo + e.cnt = e.now + 1 := by simp only [Eps.cnt]; omega
  have lt := S4.size
  have hz4 : w.heap.size + 2 ≤ w4.heap.size := by
    have := hg.size
    have h1 : (((w2.alloc (.map #[] 0)).alloc (.cells (eraCells r w2.heap.size) 73)).drewN n).heap.size = w2.heap.size + 2 := by show ((w2.alloc _).alloc _).heap.size = _; simp
    omega
  have old : ∀ k, e.lo ≤ k → k ≤ e.now + 1 → k ≠ e.now + 1 → k ≤ e.now := fun k _ h2 h3 => by omega
  refine ⟨T', { E with eb := fun k => if k = e.now + 1 then w.heap.size + 1 else E.eb k, nb := fun k => if k = e.now + 1 then w.heap.size else E.nb k }, hT, S4.mono (fun k _ hk => ?_), ?_⟩
  · unfold EpOwn
    rcases hk with rfl | rfl
    · rw [h.taga]; simp
    · rw [h.tagl]; simp
  · exact {
      pool := h.pool.same S4 (fun k hk ho => by
        unfold PoolOwn at ho
        exact nn (Prod.eta (T k)).symm (by omega) (by omega)) hT
      taga := (hT _ h.lta).trans h.taga
      tagl := (hT _ hlm).trans h.tagl
      tagp := (hT _ h.pins.lt).trans h.tagp
      tage := fun k h1 h2 => by
        by_cases e1 : k = e.now + 1
        · subst e1; simp only [if_true]; exact t9
        · simp only [if_neg e1]; have h3 := old k h1 h2 e1; exact (hT _ (h.lte k h1 h3)).trans (h.tage k h1 h3)
      tagn := fun k h1 h2 => by
        by_cases e1 : k = e.now + 1
        · subst e1; simp only [if_true]; exact t10
        · simp only [if_neg e1]; have h3 := old k h1 h2 e1; exact (hT _ (h.notes k h1 h3).lt).trans (h.tagn k h1 h3)
      lta := by have := h.lta; omega
      lte := fun k h1 h2 => by
        by_cases e1 : k = e.now + 1
        · simp only [if_pos e1]; omega
        · simp only [if_neg e1]; have := h.lte k h1 (old k h1 h2 e1); omega
      fa := Free.of_block (w := w2) (by rw [hw2]; exact h.fa.setCell _ _) hba
      fe := fun k h1 h2 => by
        by_cases e1 : k = e.now + 1
        · simp only [if_pos e1]; exact Free.of_obj hbe
        · simp only [if_neg e1]; have h3 := old k h1 h2 e1; exact (h.fe k h1 h3).same S4 (h.lte k h1 h3) (nn (h.tage k h1 h3) (by omega) (by omega))
      c0 := ga 0 _ h.c0 (by omega)
      c1 := by
        rw [World.cell?_of_block (w := w2) (a := ⟨a, 1, none⟩) hba, hw2]
        exact cell_eq h.c1
      c2 := ga 2 _ h.c2 (by omega), c3 := ga 3 _ h.c3 (by omega), c4 := ga 4 _ h.c4 (by omega), c5 := ga 5 _ h.c5 (by omega)
      live := by
        rw [hcnt]
        have h1 := liveList_snoc e.lo e.cnt E.eb (w.heap.size + 1)
        rw [hsum] at h1
        show MapIs w4 _ _ E.lm (liveList e.lo (e.cnt + 1) _)
        rw [← h1]
        simpa [hz] using hm
      pins := h.pins.same S4 (nn h.tagp (by omega) (by omega))
      e0 := fun k h1 h2 => by
        simp only [Eps.advance]
        by_cases e1 : k = e.now + 1
        · simp only [if_pos e1]; rw [World.cell?, hbe]; simp [eraCells]
        · simp only [if_neg e1]; have h3 := old k h1 h2 e1; exact S4.cell (nn (h.tage k h1 h3) (by omega) (by omega)) (h.e0 k h1 h3)
      e1 := fun k h1 h2 => by
        by_cases e1 : k = e.now + 1
        · simp only [if_pos e1]; rw [World.cell?, hbe]; simp [eraCells, hz]
        · simp only [if_neg e1]; have h3 := old k h1 h2 e1; exact S4.cell (nn (h.tage k h1 h3) (by omega) (by omega)) (h.e1 k h1 h3)
      e2 := fun k h1 h2 => by
        simp only [Eps.advance]
        by_cases e1 : k = e.now + 1
        · simp only [if_pos e1]; rw [World.cell?, hbe]; simp [eraCells]
        · simp only [if_neg e1]; have h3 := old k h1 h2 e1; exact S4.cell (nn (h.tage k h1 h3) (by omega) (by omega)) (h.e2 k h1 h3)
      notes := fun k h1 h2 => by
        simp only [Eps.advance]
        by_cases e1 : k = e.now + 1
        · simp only [if_pos e1]
          exact ⟨#[], 0, hbm, MapKept.stamped_empty 0, by simp [noteList], by simp [noteList]⟩
        · simp only [if_neg e1]; have h3 := old k h1 h2 e1; exact (h.notes k h1 h3).same S4 (nn (h.tagn k h1 h3) (by omega) (by omega)) }

theorem EpRep.setPool {w w1 : World} {T : Tags} {a : Nat} {p q : Pool} {e : Eps} {E : EpLay} {L1 : Lay} (h : EpRep w T a p e E) (hs : Same (PoolOwn T) w w1) (hp : PoolRep w1 T E.b q L1) : EpRep w1 T a q e { E with L := L1 } :=
  h.of_pool hs (Ext.refl _ _) hp

theorem Same.pool_ep {T : Tags} {w w1 : World} (h : Same (PoolOwn T) w w1) : Same (EpOwn T) w w1 := h.mono (fun _ _ => EpOwn.of_pool)

/-- What Advance does to pool and epochs. -/
def advanced (p : Pool) (e : Eps) : Option (Pool × Eps) :=
  match p.make with
  | some (r, q) => some (q, e.advance r)
  | none => none

def AdvancePost (w : World) (T : Tags) (a : Nat) (p : Pool) (e : Eps) (x : Ending) (w' : World) : Prop :=
  match advanced p e with
  | some (q, e') => EpPost w T a (.tuple #[.int .i64 ((e.now : Int) + 1), .int .i64 0]) q e' x w'
  | none => x = .returned (.tuple #[.int .i64 0, .int .i64 5]) ∧ w = w'

set_option maxRecDepth 100000 in
set_option maxHeartbeats 1600000 in
theorem advance_any {w : World} {T : Tags} {a : Nat} {p : Pool} {e : Eps} {E : EpLay} (h : EpRep w T a p e E) (hlo : e.lo ≤ e.now + 1) (hn : e.now < 4611686018427387904) :
    Calls Try.prog 12 #[.pointer (some ⟨a, 0, none⟩)] w (AdvancePost w T a p e) := by
  have C := Lib.hid (none_at a false w h.c5)
  have CM := Lib.hid (make_any h.pool)
  have c0 := h.c0
  have H := Lib.hid h
  have hmm := @run_makeMap Try.prog
  cases hp : p.make with
  | none =>
    have HP := Lib.hid hp
    clear h hp
    go_enter Try.func12, Try.ntmps12
    go_wp2_with fail
    refine C.out.mono ?_
    rintro e w' ⟨rfl, rfl⟩
    go_wp2_with fail
    refine CM.out.mono ?_
    unfold MakePost
    rw [HP.out]
    rintro e w' ⟨rfl, rfl⟩
    go_wp2
    go_ret2
    unfold AdvancePost advanced
    rw [HP.out]
    exact ⟨rfl, rfl⟩
  | some rq =>
    obtain ⟨r, q⟩ := rq
    have HP := Lib.hid hp
    clear h hp
    go_enter Try.func12, Try.ntmps12
    go_wp2_with fail
    refine C.out.mono ?_
    rintro e w' ⟨rfl, rfl⟩
    go_wp2_with fail
    refine CM.out.mono ?_
    unfold MakePost
    rw [HP.out]
    rintro e1 w1 ⟨rfl, S1, L1, R1⟩
    have E1 := H.out.setPool S1 R1
    have HS1 := Lib.hid S1
    have d1 := E1.c1
    have d2 := E1.c2
    have f1 := E1.fa 1
    have lta := E1.lta
    have HE1 := Lib.hid E1
    have nal : E.lm ≠ a := tag_ne E1.tagl E1.taga (by simp)
    obtain ⟨w2, hw2⟩ : ∃ w2, w2 = w1.setCell ⟨a, 1, none⟩ (.int .i64 ((e.now : Int) + 1)) := ⟨_, rfl⟩
    have hz : w2.heap.size = w1.heap.size := by rw [hw2]; simp
    have k1 : w2.cell? ⟨a, 1, none⟩ = some (.int .i64 ((e.now : Int) + 1)) := by rw [hw2]; exact cell_eq d1
    have k2 : w2.cell? ⟨a, 2, none⟩ = some (.map (some E.lm)) := by rw [hw2]; exact cell_ne d2 (by omega)
    have hlm : E.lm < w1.heap.size := E1.live.lt
    have ML : MapIs (((w2.alloc (.map #[] 0)).alloc (.cells (eraCells r w2.heap.size) 73)).drew) Try.prog 3 E.lm (liveList e.lo e.cnt E.eb) := by
      refine E1.live.of_heap ?_
      show ((w2.alloc _).alloc _).heap[_]? = _
      rw [Below.heap_alloc _ _ _ (by simp; omega), Below.heap_alloc _ _ _ (by omega), hw2]
      exact Below.heap_setCell _ _ _ _ nal
    obtain ⟨w4, hrun, hm4, hg4, _⟩ := ML.put_new (t := 65) (e := 70) Try.intKeyed Try.underlying65 (key := .int .i64 ((e.now : Int) + 1)) (val := .pointer (some ⟨w2.heap.size + 1, 0, none⟩)) (int_key (by omega) (by omega)) (fun x hx e1 => by
      obtain ⟨y, hy, rfl⟩ := List.mem_map.1 hx
      have := List.mem_range'_1.1 hy
      simp only [Value.int.injEq, true_and] at e1
      simp only [Eps.cnt] at this
      omega)
    obtain ⟨T', E', hT, S4, R4⟩ := E1.newEra hlo r 1 hw2 hg4 hm4
    have k4 : w4.cell? ⟨a, 1, none⟩ = some (.int .i64 ((e.now : Int) + 1)) := by
      refine hg4.cell (a := ⟨a, 1, none⟩) ?_ (fun e1 => nal (Option.some.inj e1).symm)
      show ((w2.alloc _).alloc _).cell? _ = _
      rw [World.cell?_alloc_past _ _ _ (by simp; omega), World.cell?_alloc_past _ _ _ (by omega)]
      exact k1
    have HRUN := Lib.hid hrun
    have HR4 := Lib.hid R4
    have HS4 := Lib.hid S4
    have HT := Lib.hid hT
    have HW2 := Lib.hid hw2
    have lta2 : a < w2.heap.size := by omega
    clear S1 R1 E1 ML hm4 hg4 R4 S4 hT hrun hz
    go_wp2
    rw [← HW2.out]
    clear hw2
    have q1 : ∀ o, (w2.alloc o).cell? ⟨a, 1, none⟩ = some (.int .i64 ((e.now : Int) + 1)) := fun o => by rw [World.cell?_alloc_past _ _ _ lta2]; exact k1
    have q2 : ∀ o, (w2.alloc o).cell? ⟨a, 2, none⟩ = some (.map (some E.lm)) := fun o => by rw [World.cell?_alloc_past _ _ _ lta2]; exact k2
    have q3 : ∀ o o', ((w2.alloc o).alloc o').cell? ⟨a, 1, none⟩ = some (.int .i64 ((e.now : Int) + 1)) := fun o o' => by rw [World.cell?_alloc_past _ _ _ (by simp; omega)]; exact q1 o
    have q4 : ∀ o o', ((w2.alloc o).alloc o').cell? ⟨a, 2, none⟩ = some (.map (some E.lm)) := fun o o' => by rw [World.cell?_alloc_past _ _ _ (by simp; omega)]; exact q2 o
    have hrun' := HRUN.out
    unfold eraCells at hrun'
    go_region
    all_goals
      clear hrun'
      go_wp2
      go_ret2
      unfold AdvancePost advanced
      rw [HP.out]
      exact ⟨rfl, (HS1.out.pool_ep).trans HS4.out (fun _ _ h => h), T', E', fun k hk => HT.out k (by have := HS1.out.size; omega), HR4.out⟩

end Go.Proofs.Ytmnklaphcjchiaa
