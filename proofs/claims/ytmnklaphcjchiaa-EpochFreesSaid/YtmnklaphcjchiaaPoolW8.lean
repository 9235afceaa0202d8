/-
  Walks of region.Pool: Alloc where a slab more is needed.
-/
import Derived.Test.YtmnklaphcjchiaaPoolW7
namespace Go.Proofs.Ytmnklaphcjchiaa
open Go.RowKit

set_option maxRecDepth 100000 in
set_option maxHeartbeats 800000 in
theorem alloc_space {w : World} {T : Tags} {b : Nat} {p : Pool} {L : Lay} (h : PoolRep w T b p L) (wf : p.WF) (i n : Nat) (hi : i < 256) (hr : (p.lands i).there = true) (hn : 1 ≤ n) (hnz : n ≤ p.size)
    (hc : (p.lands i).slabs.length = 0 ∨ p.size < p.inLast i + n) (hs : p.idleSlab = none) :
    Calls Try.prog 26 #[.pointer (some ⟨b, 0, none⟩), .int .i64 i, .int .i64 n, .int .i64 1] w (AllocPost w T b .zero 5 p) := by
  have hz0 := wf.size0
  have hz1 := wf.size1
  have hn1 := wf.n1
  have hfl := wf.fill i hi
  have hl4 : (p.lands i).slabs.length ≤ 4096 := Nat.le_trans (wf.len hi) wf.n1
  have hmul : (p.lands i).slabs.length * p.size ≤ 4194304 := by
    have h4 : (p.lands i).slabs.length * p.size ≤ p.n * p.size := Nat.mul_le_mul_right _ (wf.len hi)
    have h5 := wf.all
    rw [Nat.mul_comm p.n] at h4
    omega
  have h' := h.alloc (.cells #[.int .i64 0, .int .i64 0, .int .i64 0, .int .i64 0] 43)
  have C := land_any h' i
  rw [if_pos (show p.has (i : Int) from ⟨by omega, by omega, by simpa using hr⟩)] at C
  have HC := Lib.hid C
  have HG : ∀ k, Hid (Calls Try.prog 32 #[.pointer (some ⟨b, 0, none⟩), .pointer (some ⟨b, 3 + i * 4, none⟩)] ((w.alloc (.cells #[.int .i64 0, .int .i64 0, .int .i64 0, .int .i64 0] 43)).drewN k) fun e w' => e = .returned (.bool false) ∧ ((w.alloc (.cells #[.int .i64 0, .int .i64 0, .int .i64 0, .int .i64 0] 43)).drewN k) = w') :=
    fun k => grow_no (h'.drewN k) hn1 i hs
  have lt := h.ltb
  have c0 := h.c0
  have c1 := h.l1 i hi
  have c2 := h.l2 i hi
  have c3 := h.l3 i hi
  obtain ⟨va, vc, hlv⟩ := owns_shape (h.ls i hi)
  rw [hlv] at c2
  have e1 : ((p.lands i).slabs.length : Int) * (p.size : Int) = (((p.lands i).slabs.length * p.size : Nat) : Int) := (Int.natCast_mul _ _).symm
  unfold AllocPost Hnd.zero
  unfold Pool.inLast at hc
  have H := Lib.hid h
  clear h h' C hlv wf
  generalize (p.lands i).gen = g at *
  generalize hfill : (p.lands i).fill = fl at *
  generalize hM : (p.lands i).slabs.length * p.size = M at *
  generalize hll : (p.lands i).slabs.length = ll at *
  have hin : IntKind.i64.wrap ((p.size : Int) - ((M : Int) - fl)) = ((p.size + fl - M : Nat) : Int) := by rw [IntWalk.i64_in _ (by omega)]; omega
  have hend : IntKind.i64.wrap ((M : Int) - fl) = (M : Int) - fl := IntWalk.i64_in _ (by omega)
  generalize hI : p.size + fl - M = I at *
  clear hfill hM hll
  have hb1 := and_one_zero
  have hb2 := andNot_zero I (by omega)
  have d1 : decide ((n : Int) < 1) = false := by simp; omega
  have d2 : decide (p.size < n) = false := by simp; omega
  by_cases hl0 : ll = 0
  · have hb0 : ((ll : Int) == 0) = true := by simp; omega
    clear hc hl0
    go_enter Try.func26, Try.ntmps26
    go_wp2_with fail
    refine HC.out.mono ?_
    rintro e w' ⟨rfl, rfl⟩
    go_wp2
    go_quiet (fail)
    go_wp2
    go_quiet (fail)
    go_wp2_with fail
    refine (HG _).out.mono ?_
    rintro e w' ⟨rfl, rfl⟩
    go_wp2
    refine bodyPost_ret (v := .tuple #[.agg #[.int .i64 0, .int .i64 0, .int .i64 0, .int .i64 0], .int .i64 5]) (by simp [results, Try.results26, go_sem]) rfl ⟨rfl, ?_, T, L, Ext.refl _ _, H.out.later ?_⟩
    all_goals
      refine Same.then_setCell ?_ (Or.inr (by simp)) _
      refine Same.then_setCell ?_ (Or.inr (by simp)) _
      refine Same.then_setCell ?_ (Or.inr (by simp)) _
      refine Same.then_setCell ?_ (Or.inr (by simp)) _
      exact ((Same.refl _ _).then_alloc _).then_drewN _
  · have hb0 : ((ll : Int) == 0) = false := by simp; omega
    have d3 : decide ((p.size : Int) < (I : Int) + (n : Int)) = true := by simp; omega
    have d4 : p.size < I + n := by omega
    have w5 : IntKind.i64.wrap ((I : Int) + (n : Int)) = (I : Int) + (n : Int) := IntWalk.i64_in _ (by omega)
    clear hc hl0
    go_enter Try.func26, Try.ntmps26
    go_wp2_with fail
    refine HC.out.mono ?_
    rintro e w' ⟨rfl, rfl⟩
    go_wp2
    go_quiet (fail)
    go_wp2
    go_quiet (fail)
    go_wp2_with fail
    refine (HG _).out.mono ?_
    rintro e w' ⟨rfl, rfl⟩
    go_wp2
    refine bodyPost_ret (v := .tuple #[.agg #[.int .i64 0, .int .i64 0, .int .i64 0, .int .i64 0], .int .i64 5]) (by simp [results, Try.results26, go_sem]) rfl ⟨rfl, ?_, T, L, Ext.refl _ _, H.out.later ?_⟩
    all_goals
      refine Same.then_setCell ?_ (Or.inr (by simp)) _
      refine Same.then_setCell ?_ (Or.inr (by simp)) _
      refine Same.then_setCell ?_ (Or.inr (by simp)) _
      refine Same.then_setCell ?_ (Or.inr (by simp)) _
      exact ((Same.refl _ _).then_alloc _).then_drewN _

set_option maxRecDepth 100000 in
set_option maxHeartbeats 1600000 in
theorem alloc_grow0 {w : World} {T : Tags} {b : Nat} {p : Pool} {L : Lay} (h : PoolRep w T b p L) (wf : p.WF) (i n : Nat) (hi : i < 256) (hr : (p.lands i).there = true) (hn : 1 ≤ n) (hnz : n ≤ p.size)
    (hc : (p.lands i).slabs.length = 0 ∨ p.size < p.inLast i + n) (s : Nat) (hs : p.idleSlab = some s) (hT : T w.heap.size = (0, 0)) :
    Calls Try.prog 26 #[.pointer (some ⟨b, 0, none⟩), .int .i64 i, .int .i64 n, .int .i64 1] w (AllocPost w T b ((p.grow i s).hand i n 0) 0 ((p.grow i s).take i n 0)) := by
  have hz0 := wf.size0
  have hz1 := wf.size1
  have hn1 := wf.n1
  have hfl := wf.fill i hi
  have hl4 : (p.lands i).slabs.length ≤ 4096 := Nat.le_trans (wf.len hi) wf.n1
  have hmul : (p.lands i).slabs.length * p.size ≤ 4194304 := by
    have h4 : (p.lands i).slabs.length * p.size ≤ p.n * p.size := Nat.mul_le_mul_right _ (wf.len hi)
    have h5 := wf.all
    rw [Nat.mul_comm p.n] at h4
    omega
  have h' := h.alloc (.cells #[.int .i64 0, .int .i64 0, .int .i64 0, .int .i64 0] 43)
  have C := land_any h' i
  rw [if_pos (show p.has (i : Int) from ⟨by omega, by omega, by simpa using hr⟩)] at C
  have HC := Lib.hid C
  have HG : ∀ k, Hid (Calls Try.prog 32 #[.pointer (some ⟨b, 0, none⟩), .pointer (some ⟨b, 3 + i * 4, none⟩)] ((w.alloc (.cells #[.int .i64 0, .int .i64 0, .int .i64 0, .int .i64 0] 43)).drewN k) (GrowPost ((w.alloc (.cells #[.int .i64 0, .int .i64 0, .int .i64 0, .int .i64 0] 43)).drewN k) T b (p.grow i s))) :=
    fun k => grow_yes (h'.drewN k) wf i hi s hs
  have lt := h.ltb
  have c0 := h.c0
  have c1 := h.l1 i hi
  have c2 := h.l2 i hi
  have c3 := h.l3 i hi
  obtain ⟨va, vc, hlv⟩ := owns_shape (h.ls i hi)
  rw [hlv] at c2
  have e1 : ((p.lands i).slabs.length : Int) * (p.size : Int) = (((p.lands i).slabs.length * p.size : Nat) : Int) := (Int.natCast_mul _ _).symm
  have g1 : ((p.grow i s).lands i).slabs.length = (p.lands i).slabs.length + 1 := by simp [Pool.grow, Pool.setLand]
  have g2 : ((p.grow i s).lands i).gen = (p.lands i).gen := by simp [Pool.grow, Pool.setLand]
  have g3 : (p.grow i s).size = p.size := rfl
  unfold AllocPost Pool.hand Pool.take
  rw [← Int.natCast_mul, g1, g2, g3, Nat.add_sub_cancel, Nat.add_zero, show (((0 : Nat) : Int)) = 0 from rfl, Int.add_zero]
  unfold Pool.inLast at hc
  have H := Lib.hid h
  have G1 := Lib.hid g1
  have G2 := Lib.hid g2
  clear h h' C hlv wf g1 g2 g3
  generalize (p.lands i).gen = g at *
  generalize hfill : (p.lands i).fill = fl at *
  generalize hM : (p.lands i).slabs.length * p.size = M at *
  generalize hll : (p.lands i).slabs.length = ll at *
  have hin : IntKind.i64.wrap ((p.size : Int) - ((M : Int) - fl)) = ((p.size + fl - M : Nat) : Int) := by rw [IntWalk.i64_in _ (by omega)]; omega
  have hend : IntKind.i64.wrap ((M : Int) - fl) = (M : Int) - fl := IntWalk.i64_in _ (by omega)
  generalize hI : p.size + fl - M = I at *
  clear hfill hM hll
  have hb1 := and_one_zero
  have hb2 := andNot_zero I (by omega)
  have d1 : decide ((n : Int) < 1) = false := by simp; omega
  have d2 : decide (p.size < n) = false := by simp; omega
  have w2 : IntKind.i64.wrap (M : Int) = (M : Int) := IntWalk.i64_in _ (by omega)
  have w4 : IntKind.i64.wrap ((ll : Int) + 1 - 1) = (ll : Int) := by rw [Int.add_sub_cancel]; exact IntWalk.i64_in _ (by omega)
  have w6 : IntKind.i64.wrap (ll : Int) = (ll : Int) := IntWalk.i64_in _ (by omega)
  by_cases hl0 : ll = 0
  · have hb0 : ((ll : Int) == 0) = true := by simp; omega
    clear hc hl0
    go_enter Try.func26, Try.ntmps26
    go_wp2_with fail
    refine HC.out.mono ?_
    rintro e w' ⟨rfl, rfl⟩
    go_wp2
    go_quiet (fail)
    go_wp2
    go_quiet (fail)
    go_wp2_with fail
    refine (HG _).out.mono ?_
    rintro e w1 ⟨rfl, S1, T1, L1, X1, R1⟩
    have q0 := R1.c0
    have q1 := R1.l1 i hi
    have q2 := R1.l2 i hi
    have q3 := R1.l3 i hi
    have fq := R1.fb (3 + i * 4 + 3)
    have lq := R1.ltb
    obtain ⟨va1, vc1, hlv1⟩ := owns_shape (R1.ls i hi)
    rw [hlv1, G1.out] at q2
    rw [G2.out] at q1
    rw [show (p.grow i s).size = p.size from rfl] at q0
    have nz : ¬ PoolOwn T w.heap.size := by unfold PoolOwn; rw [hT]; simp
    have z0 := S1.cell (k := w.heap.size) (o := 0) (v := .int .i64 0) nz (by simp)
    have z1 := S1.cell (k := w.heap.size) (o := 1) (v := .int .i64 0) nz (by simp)
    have z2 := S1.cell (k := w.heap.size) (o := 2) (v := .int .i64 0) nz (by simp)
    have z3 := S1.cell (k := w.heap.size) (o := 3) (v := .int .i64 0) nz (by simp)
    have y0 := S1.free (k := w.heap.size) (o := 0) (by simp) nz (by simp)
    have y1 := S1.free (k := w.heap.size) (o := 1) (by simp) nz (by simp)
    have y2 := S1.free (k := w.heap.size) (o := 2) (by simp) nz (by simp)
    have y3 := S1.free (k := w.heap.size) (o := 3) (by simp) nz (by simp)
    have HS1 := Lib.hid S1
    have HR1 := Lib.hid R1
    have HX1 := Lib.hid X1
    have nbz : b ≠ w.heap.size := by omega
    clear S1 R1 X1
    go_wp2
    go_quiet (fail)
    go_wp2
    refine bodyPost_ret (v := .tuple #[.agg #[.int .i64 i, .int .i64 g, .int .i64 (M : Int), .int .i64 n], .int .i64 0]) (by simp [results, Try.results26, go_sem, z0, z1, z2, z3]) rfl ⟨rfl, ?_, T1, L1, ?_, ?_⟩
    · have S0 : Same (PoolOwn T) w w1 := (((Same.refl (PoolOwn T) w).then_alloc (.cells #[.int .i64 0, .int .i64 0, .int .i64 0, .int .i64 0] 43)).then_drewN _).trans HS1.out (fun _ _ h => h)
      refine Same.then_setCell ?_ (Or.inr (by simp)) _
      refine Same.then_setCell ?_ (Or.inr (by simp)) _
      refine Same.then_setCell ?_ (Or.inr (by simp)) _
      refine Same.then_setCell ?_ (Or.inr (by simp)) _
      refine Same.then_setCell ?_ (Or.inl ?_) _
      · exact S0.then_drewN _
      · unfold PoolOwn; rw [H.out.tagb]; simp
    · exact fun k hk => HX1.out k (by show k < (w.alloc _).heap.size; simp; omega)
    · have R := HR1.out.setFill hi (M + n)
      rw [Int.natCast_add] at R
      refine R.same (S := fun k => k = w.heap.size) ?_ (fun k _ ho e => ?_) (Ext.refl _ _)
      · refine Same.then_setCell (S := fun k => k = w.heap.size) ?_ (Or.inl rfl) _
        refine Same.then_setCell (S := fun k => k = w.heap.size) ?_ (Or.inl rfl) _
        refine Same.then_setCell (S := fun k => k = w.heap.size) ?_ (Or.inl rfl) _
        refine Same.then_setCell (S := fun k => k = w.heap.size) ?_ (Or.inl rfl) _
        show Same _ _ ((w1.setCell _ _).drewN _)
        exact (Same.refl _ _).then_drewN _
      · have ht : T1 w.heap.size = (0, 0) := (HX1.out _ (by show w.heap.size < (w.alloc _).heap.size; simp)).trans hT
        unfold PoolOwn at ho
        rw [e, ht] at ho
        simp at ho
  · have hb0 : ((ll : Int) == 0) = false := by simp; omega
    have d3 : decide ((p.size : Int) < (I : Int) + (n : Int)) = true := by simp; omega
    have d4 : p.size < I + n := by omega
    have w5 : IntKind.i64.wrap ((I : Int) + (n : Int)) = (I : Int) + (n : Int) := IntWalk.i64_in _ (by omega)
    clear hc hl0
    go_enter Try.func26, Try.ntmps26
    go_wp2_with fail
    refine HC.out.mono ?_
    rintro e w' ⟨rfl, rfl⟩
    go_wp2
    go_quiet (fail)
    go_wp2
    go_quiet (fail)
    go_wp2_with fail
    refine (HG _).out.mono ?_
    rintro e w1 ⟨rfl, S1, T1, L1, X1, R1⟩
    have q0 := R1.c0
    have q1 := R1.l1 i hi
    have q2 := R1.l2 i hi
    have q3 := R1.l3 i hi
    have fq := R1.fb (3 + i * 4 + 3)
    have lq := R1.ltb
    obtain ⟨va1, vc1, hlv1⟩ := owns_shape (R1.ls i hi)
    rw [hlv1, G1.out] at q2
    rw [G2.out] at q1
    rw [show (p.grow i s).size = p.size from rfl] at q0
    have nz : ¬ PoolOwn T w.heap.size := by unfold PoolOwn; rw [hT]; simp
    have z0 := S1.cell (k := w.heap.size) (o := 0) (v := .int .i64 0) nz (by simp)
    have z1 := S1.cell (k := w.heap.size) (o := 1) (v := .int .i64 0) nz (by simp)
    have z2 := S1.cell (k := w.heap.size) (o := 2) (v := .int .i64 0) nz (by simp)
    have z3 := S1.cell (k := w.heap.size) (o := 3) (v := .int .i64 0) nz (by simp)
    have y0 := S1.free (k := w.heap.size) (o := 0) (by simp) nz (by simp)
    have y1 := S1.free (k := w.heap.size) (o := 1) (by simp) nz (by simp)
    have y2 := S1.free (k := w.heap.size) (o := 2) (by simp) nz (by simp)
    have y3 := S1.free (k := w.heap.size) (o := 3) (by simp) nz (by simp)
    have HS1 := Lib.hid S1
    have HR1 := Lib.hid R1
    have HX1 := Lib.hid X1
    have nbz : b ≠ w.heap.size := by omega
    clear S1 R1 X1
    go_wp2
    go_quiet (fail)
    go_wp2
    refine bodyPost_ret (v := .tuple #[.agg #[.int .i64 i, .int .i64 g, .int .i64 (M : Int), .int .i64 n], .int .i64 0]) (by simp [results, Try.results26, go_sem, z0, z1, z2, z3]) rfl ⟨rfl, ?_, T1, L1, ?_, ?_⟩
    · have S0 : Same (PoolOwn T) w w1 := (((Same.refl (PoolOwn T) w).then_alloc (.cells #[.int .i64 0, .int .i64 0, .int .i64 0, .int .i64 0] 43)).then_drewN _).trans HS1.out (fun _ _ h => h)
      refine Same.then_setCell ?_ (Or.inr (by simp)) _
      refine Same.then_setCell ?_ (Or.inr (by simp)) _
      refine Same.then_setCell ?_ (Or.inr (by simp)) _
      refine Same.then_setCell ?_ (Or.inr (by simp)) _
      refine Same.then_setCell ?_ (Or.inl ?_) _
      · exact S0.then_drewN _
      · unfold PoolOwn; rw [H.out.tagb]; simp
    · exact fun k hk => HX1.out k (by show k < (w.alloc _).heap.size; simp; omega)
    · have R := HR1.out.setFill hi (M + n)
      rw [Int.natCast_add] at R
      refine R.same (S := fun k => k = w.heap.size) ?_ (fun k _ ho e => ?_) (Ext.refl _ _)
      · refine Same.then_setCell (S := fun k => k = w.heap.size) ?_ (Or.inl rfl) _
        refine Same.then_setCell (S := fun k => k = w.heap.size) ?_ (Or.inl rfl) _
        refine Same.then_setCell (S := fun k => k = w.heap.size) ?_ (Or.inl rfl) _
        refine Same.then_setCell (S := fun k => k = w.heap.size) ?_ (Or.inl rfl) _
        show Same _ _ ((w1.setCell _ _).drewN _)
        exact (Same.refl _ _).then_drewN _
      · have ht : T1 w.heap.size = (0, 0) := (HX1.out _ (by show w.heap.size < (w.alloc _).heap.size; simp)).trans hT
        unfold PoolOwn at ho
        rw [e, ht] at ho
        simp at ho

theorem alloc_grow {w : World} {T : Tags} {b : Nat} {p : Pool} {L : Lay} (h : PoolRep w T b p L) (wf : p.WF) (i n : Nat) (hi : i < 256) (hr : (p.lands i).there = true) (hn : 1 ≤ n) (hnz : n ≤ p.size)
    (hc : (p.lands i).slabs.length = 0 ∨ p.size < p.inLast i + n) (s : Nat) (hs : p.idleSlab = some s) :
    Calls Try.prog 26 #[.pointer (some ⟨b, 0, none⟩), .int .i64 i, .int .i64 n, .int .i64 1] w (AllocPost w T b ((p.grow i s).hand i n 0) 0 ((p.grow i s).take i n 0)) := by
  have h' : PoolRep w (T.cut w.heap.size) b p L := h.same (S := fun _ => False) (Same.refl _ _) (fun _ _ _ h => h) (Ext.cut T w)
  refine (alloc_grow0 h' wf i n hi hr hn hnz hc s hs (Tags.cut_ge _ (Nat.le_refl _))).mono ?_
  rintro e w' ⟨he, hS, T', L', hX, hR⟩
  exact ⟨he, hS.mono (fun k hk => by unfold PoolOwn; rw [Tags.cut_lt _ hk]; exact id), T', L', hX.of_cut, hR⟩

/-- Alloc of so many bytes as a slab may have, in a region that is there. -/
theorem alloc_any {w : World} {T : Tags} {b : Nat} {p : Pool} {L : Lay} (h : PoolRep w T b p L) (wf : p.WF) (i n : Nat) (hi : i < 256) (hr : (p.lands i).there = true) (hn : 1 ≤ n) (hnz : n ≤ p.size) :
    Calls Try.prog 26 #[.pointer (some ⟨b, 0, none⟩), .int .i64 i, .int .i64 n, .int .i64 1] w
      (match p.allocIn i n with | some (hd, q) => AllocPost w T b hd 0 q | none => AllocPost w T b .zero 5 p) := by
  by_cases hc : (p.lands i).slabs.length = 0 ∨ p.size < p.inLast i + n
  · cases hs : p.idleSlab with
    | none => simpa only [Pool.allocIn, if_pos hc, hs] using alloc_space h wf i n hi hr hn hnz hc hs
    | some s => simpa only [Pool.allocIn, if_pos hc, hs] using alloc_grow h wf i n hi hr hn hnz hc s hs
  · simpa only [Pool.allocIn, if_neg hc] using alloc_room h wf i n hi hr hn hnz (by omega) (by omega)

end Go.Proofs.Ytmnklaphcjchiaa
