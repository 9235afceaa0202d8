/-
  Walks of epoch.Epochs: none, Now, Pin, Unpin.
-/
import Derived.Test.YtmnklaphcjchiaaEpM
import Derived.StillTailTactics
namespace Go.Proofs.Ytmnklaphcjchiaa
open Go.RowKit
open Go.Maps (Keyed int_keyed keyOf_int_mk)

theorem none_nil (w : World) :
    Calls Try.prog 24 #[.pointer none] w fun e w' => e = .returned (.bool true) ∧ w = w' := by
  go_enter Try.func24, Try.ntmps24
  go_wp2
  go_ret
  exact ⟨rfl, rfl⟩

theorem none_at (a : Nat) (o : Bool) (w : World) (h : w.cell? ⟨a, 5, none⟩ = some (.bool o)) :
    Calls Try.prog 24 #[.pointer (some ⟨a, 0, none⟩)] w fun e w' => e = .returned (.bool o) ∧ w = w' := by
  go_enter Try.func24, Try.ntmps24
  go_wp2
  go_ret
  exact ⟨rfl, rfl⟩

theorem now_any {w : World} {T : Tags} {a : Nat} {p : Pool} {e : Eps} {E : EpLay} (h : EpRep w T a p e E) :
    Calls Try.prog 16 #[.pointer (some ⟨a, 0, none⟩)] w fun x w' => x = .returned (.int .i64 e.now) ∧ w = w' := by
  have C := Lib.hid (none_at a false w h.c5)
  have c1 := h.c1
  clear h
  go_enter Try.func16, Try.ntmps16
  go_wp2_with fail
  refine C.out.mono ?_
  rintro e w' ⟨rfl, rfl⟩
  go_wp2
  go_ret
  exact ⟨rfl, rfl⟩

/-- All but one cell of the epochs' block and the map of pins: as they were. -/
theorem EpRep.setPins {w w' : World} {T : Tags} {a : Nat} {p : Pool} {e : Eps} {E : EpLay} (h : EpRep w T a p e E) {S : Nat → Prop} (hs : Same S w w') (hS : ∀ k, k < w.heap.size → S k → k = a ∨ k = E.pm)
    (l : List (Nat × Nat)) (last : Nat)
    (c0 : w'.cell? ⟨a, 0, none⟩ = w.cell? ⟨a, 0, none⟩) (c1 : w'.cell? ⟨a, 1, none⟩ = w.cell? ⟨a, 1, none⟩) (c2 : w'.cell? ⟨a, 2, none⟩ = w.cell? ⟨a, 2, none⟩) (c3 : w'.cell? ⟨a, 3, none⟩ = w.cell? ⟨a, 3, none⟩)
    (c4 : w'.cell? ⟨a, 4, none⟩ = some (.int .i64 last)) (c5 : w'.cell? ⟨a, 5, none⟩ = w.cell? ⟨a, 5, none⟩) (fa : Free w' a) (hp : MapIs w' Try.prog 3 E.pm (pinList l)) :
    EpRep w' T a p { e with pins := l, last := last } E := by
  have nn : ∀ {k c i}, k < w.heap.size → T k = (c, i) → c ≠ 6 → c ≠ 8 → ¬ S k := fun hk h1 h6 h8 h3 => by
    rcases hS _ hk h3 with rfl | rfl
    · rw [h.taga] at h1; simp at h1; omega
    · rw [h.tagp] at h1; simp at h1; omega
  have lt := hs.size
  exact {
    pool := h.pool.same hs (fun k hk ho => by
      unfold PoolOwn at ho
      exact nn hk (Prod.eta (T k)).symm (by omega) (by omega)) (Ext.refl _ _)
    taga := h.taga, tagl := h.tagl, tagp := h.tagp, tage := h.tage, tagn := h.tagn
    lta := by have := h.lta; omega
    lte := fun k h1 h2 => by have := h.lte k h1 h2; omega
    fa := fa
    fe := fun k h1 h2 => (h.fe k h1 h2).same hs (h.lte k h1 h2) (nn (h.lte k h1 h2) (h.tage k h1 h2) (by omega) (by omega))
    c0 := c0.trans h.c0, c1 := c1.trans h.c1, c2 := c2.trans h.c2, c3 := c3.trans h.c3, c4 := c4, c5 := c5.trans h.c5
    live := h.live.same hs (nn h.live.lt h.tagl (by omega) (by omega))
    pins := hp
    e0 := fun k h1 h2 => hs.cell (nn (h.lte k h1 h2) (h.tage k h1 h2) (by omega) (by omega)) (h.e0 k h1 h2)
    e1 := fun k h1 h2 => hs.cell (nn (h.lte k h1 h2) (h.tage k h1 h2) (by omega) (by omega)) (h.e1 k h1 h2)
    e2 := fun k h1 h2 => hs.cell (nn (h.lte k h1 h2) (h.tage k h1 h2) (by omega) (by omega)) (h.e2 k h1 h2)
    notes := fun k h1 h2 => (h.notes k h1 h2).same hs (nn (h.notes k h1 h2).lt (h.tagn k h1 h2) (by omega) (by omega)) }

def EpPost (w : World) (T : Tags) (a : Nat) (v : Value) (q : Pool) (e' : Eps) (x : Ending) (w' : World) : Prop :=
  x = .returned v ∧ Same (EpOwn T) w w' ∧ ∃ T' E', Ext T T' w ∧ EpRep w' T' a q e' E'

set_option maxRecDepth 100000 in
set_option maxHeartbeats 400000 in
theorem pin_big {w : World} {T : Tags} {a : Nat} {p : Pool} {e : Eps} {E : EpLay} (h : EpRep w T a p e E) (hb : 1000 ≤ e.pins.length) :
    Calls Try.prog 10 #[.pointer (some ⟨a, 0, none⟩)] w fun x w' => x = .returned (.tuple #[.int .i64 0, .int .i64 14]) ∧ w = w' := by
  have C := Lib.hid (none_at a false w h.c5)
  have c3 := h.c3
  have hlen := fun ty => h.pins.len Try.underlying66 ty
  rw [pinList, List.length_map] at hlen
  clear h
  go_enter Try.func10, Try.ntmps10
  go_wp2_with fail
  refine C.out.mono ?_
  rintro e w' ⟨rfl, rfl⟩
  go_wp2
  go_ret2
  exact ⟨rfl, rfl⟩

set_option maxRecDepth 100000 in
set_option maxHeartbeats 800000 in
theorem pin_ok {w : World} {T : Tags} {a : Nat} {p : Pool} {e : Eps} {E : EpLay} (h : EpRep w T a p e E) (hb : e.pins.length < 1000) (hl : e.last < 4611686018427387904) (hnew : ∀ x ∈ e.pins, x.1 ≤ e.last) :
    Calls Try.prog 10 #[.pointer (some ⟨a, 0, none⟩)] w
      (EpPost w T a (.tuple #[.int .i64 ((e.last : Int) + 1), .int .i64 0]) p { e with pins := e.pins ++ [(e.last + 1, e.now)], last := e.last + 1 }) := by
  have C := Lib.hid (none_at a false w h.c5)
  have hlen := fun ty => h.pins.len Try.underlying66 ty
  rw [pinList, List.length_map] at hlen
  have c1 := h.c1
  have c3 := h.c3
  have c4 := h.c4
  have f4 := h.fa 4
  have nap : E.pm ≠ a := tag_ne h.tagp h.taga (by simp)
  have S1 : Same (fun k => k = a ∨ k = E.pm) w ((w.setCell ⟨a, 4, none⟩ (.int .i64 ((e.last : Int) + 1))).drew) := ((Same.refl _ _).then_setCell (p := ⟨a, 4, none⟩) (Or.inl (Or.inl rfl)) _).then_drew
  have M1 : MapIs ((w.setCell ⟨a, 4, none⟩ (.int .i64 ((e.last : Int) + 1))).drew) Try.prog 3 E.pm (pinList e.pins) :=
    h.pins.of_heap (by show (w.setCell _ _).heap[_]? = _; exact Below.heap_setCell _ _ _ _ nap)
  obtain ⟨w2, hrun, hm2, hg2, hz2⟩ := M1.put_new (t := 66) (e := 3) Try.intKeyed Try.underlying66 (key := .int .i64 ((e.last : Int) + 1)) (val := .int .i64 e.now) (int_key (by omega) (by omega)) (fun x hx e1 => by
    obtain ⟨y, hy, rfl⟩ := List.mem_map.1 hx
    simp only [Value.int.injEq, true_and] at e1
    have := hnew y hy
    omega)
  have S2 : Same (fun k => k = a ∨ k = E.pm) w w2 := S1.then_grown hg2 (fun k hk => Or.inl (Or.inr (Option.some.inj hk).symm))
  have ga : ∀ o v, w.cell? ⟨a, o, none⟩ = some v → o ≠ 4 → w2.cell? ⟨a, o, none⟩ = some v := fun o v hv ho => by
    refine hg2.cell (a := ⟨a, o, none⟩) (v := v) ?_ (fun e1 => nap (Option.some.inj e1).symm)
    show (w.setCell _ _).cell? _ = _
    exact cell_ne hv (Or.inr ho)
  have g4 : w2.cell? ⟨a, 4, none⟩ = some (.int .i64 ((e.last : Int) + 1)) := by
    refine hg2.cell (a := ⟨a, 4, none⟩) ?_ (fun e1 => nap (Option.some.inj e1).symm)
    show (w.setCell _ _).cell? _ = _
    exact cell_eq h.c4
  have hfa : Free w2 a := Free.of_block (h.fa.setCell ⟨a, 4, none⟩ (.int .i64 ((e.last : Int) + 1))) (by
    rw [hg2.block a (by show a < (w.setCell _ _).heap.size; simpa using h.lta) (fun e1 => nap (Option.some.inj e1).symm)]; rfl)
  have R2 : EpRep w2 T a p { e with pins := e.pins ++ [(e.last + 1, e.now)], last := e.last + 1 } E :=
    h.setPins S2 (fun k _ hk => hk) _ _ ((ga 0 _ h.c0 (by omega)).trans h.c0.symm) ((ga 1 _ h.c1 (by omega)).trans h.c1.symm) ((ga 2 _ h.c2 (by omega)).trans h.c2.symm) ((ga 3 _ h.c3 (by omega)).trans h.c3.symm) (by rw [g4]; simp) ((ga 5 _ h.c5 (by omega)).trans h.c5.symm) hfa
      (by simpa [pinList] using hm2)
  have SP : Same (EpOwn T) w w2 := S2.mono (fun k _ hk => by
    unfold EpOwn
    rcases hk with rfl | rfl
    · rw [h.taga]; simp
    · rw [h.tagp]; simp)
  have HR2 := Lib.hid R2
  have HSP := Lib.hid SP
  have HRUN := Lib.hid hrun
  clear h S1 M1 hm2 hg2 hz2 S2 ga hfa R2 SP hrun
  go_enter Try.func10, Try.ntmps10
  go_wp2_with fail
  refine C.out.mono ?_
  rintro e w' ⟨rfl, rfl⟩
  obtain ⟨w1, hw1⟩ : ∃ w1, w1 = w.setCell ⟨a, 4, none⟩ (.int .i64 ((e.last : Int) + 1)) := ⟨_, rfl⟩
  have HW1 := Lib.hid hw1
  have k1 := cell_ne (b := a) (o := 4) (u := .int .i64 ((e.last : Int) + 1)) c1 (by omega)
  have k3 := cell_ne (b := a) (o := 4) (u := .int .i64 ((e.last : Int) + 1)) c3 (by omega)
  have k4 := cell_eq (u := .int .i64 ((e.last : Int) + 1)) c4
  rw [← hw1] at k1 k3 k4
  rw [← HW1.out] at HRUN
  clear hw1
  go_wp2
  rw [← HW1.out]
  go_still_tail 12, (by kernel_rfl)
  change wpList _ _ _ _ _ w1.drew
  refine wpList_mapUpdate_run rfl (.tmp 24) (.tmp 28) (.tmp 32) 66 rfl _ _ _ rfl rfl rfl HRUN.out ?_
  go_wp2
  go_ret2
  exact ⟨rfl, HSP.out, T, E, Ext.refl _ _, HR2.out⟩

end Go.Proofs.Ytmnklaphcjchiaa
