/-
  Walks of region.Pool: Alloc (pieces aligned to 1).
-/
import Derived.Test.YtmnklaphcjchiaaPoolW6
namespace Go.Proofs.Ytmnklaphcjchiaa
open Go.RowKit

def AllocPost (w : World) (T : Tags) (b : Nat) (hd : Hnd) (c : Int) (q : Pool) (e : Ending) (w' : World) : Prop :=
  e = .returned (.tuple #[.agg #[.int .i64 hd.region, .int .i64 hd.gen, .int .i64 hd.off, .int .i64 hd.len], .int .i64 c]) ∧ Same (PoolOwn T) w w' ∧ ∃ T' L', Ext T T' w ∧ PoolRep w' T' b q L'

/-- Whatever is written into blocks that are new since. -/
def New (w : World) (k : Nat) : Prop := w.heap.size ≤ k

theorem PoolRep.later {w w' : World} {T : Tags} {b : Nat} {p : Pool} {L : Lay} (h : PoolRep w T b p L) (hs : Same (New w) w w') : PoolRep w' T b p L :=
  h.same hs (fun k hk _ hn => by unfold New at hn; omega) (Ext.refl _ _)

theorem setCell_past (w : World) (o : Obj) (k i : Nat) (v : Value) (hk : k < w.heap.size) : (w.alloc o).setCell ⟨k, i, none⟩ v = (w.setCell ⟨k, i, none⟩ v).alloc o := World.setCell_alloc_past o k i v hk

set_option maxRecDepth 100000 in
set_option maxHeartbeats 800000 in
theorem alloc_room {w : World} {T : Tags} {b : Nat} {p : Pool} {L : Lay} (h : PoolRep w T b p L) (wf : p.WF) (i n : Nat) (hi : i < 256) (hr : (p.lands i).there = true) (hn : 1 ≤ n) (hnz : n ≤ p.size)
    (hl : (p.lands i).slabs.length ≠ 0) (hroom : p.inLast i + n ≤ p.size) :
    Calls Try.prog 26 #[.pointer (some ⟨b, 0, none⟩), .int .i64 i, .int .i64 n, .int .i64 1] w (AllocPost w T b (p.hand i n (p.inLast i)) 0 (p.take i n (p.inLast i))) := by
  have hz0 := wf.size0
  have hz1 := wf.size1
  have hfl := wf.fill i hi
  have hl4 : (p.lands i).slabs.length ≤ 4096 := Nat.le_trans (wf.len hi) wf.n1
  have hmul : (p.lands i).slabs.length * p.size ≤ 4194304 := by
    have h4 : (p.lands i).slabs.length * p.size ≤ p.n * p.size := Nat.mul_le_mul_right _ (wf.len hi)
    have h5 := wf.all
    rw [Nat.mul_comm p.n] at h4
    omega
  have h' := h.alloc (.cells #[.int .i64 0, .int .i64 0, .int .i64 0, .int .i64 0] 43)
  have C := land_any h' i
  rw [if_pos (show p.has (i : Int) from ⟨by omega, by omega, by simpa using hr⟩)] at C
  have HC := Lib.hid C
  have lt := h.ltb
  have c0 := h.c0
  have c1 := h.l1 i hi
  have c2 := h.l2 i hi
  have c3 := h.l3 i hi
  have f3 := h.fb (3 + i * 4 + 3)
  obtain ⟨va, vc, hlv⟩ := owns_shape (h.ls i hi)
  rw [hlv] at c2
  have m2 : ((p.lands i).slabs.length - 1) * p.size + p.size = (p.lands i).slabs.length * p.size := by
    rw [← Nat.succ_mul]; congr 1; omega
  have e2 : (((p.lands i).slabs.length : Int) - 1) * (p.size : Int) = ((((p.lands i).slabs.length - 1) * p.size : Nat) : Int) := by
    rw [Int.natCast_mul]; congr 1; omega
  have e1 : ((p.lands i).slabs.length : Int) * (p.size : Int) = (((p.lands i).slabs.length * p.size : Nat) : Int) := (Int.natCast_mul _ _).symm
  unfold AllocPost Pool.hand Pool.take
  unfold Pool.inLast at hroom ⊢
  rw [← Int.natCast_mul]
  have H := Lib.hid h
  have H' := Lib.hid h'
  have hfin := h.setFill hi (((p.lands i).slabs.length - 1) * p.size + (p.size + (p.lands i).fill - (p.lands i).slabs.length * p.size) + n)
  have HF := Lib.hid hfin
  clear h h' C hlv wf hfin
  generalize (p.lands i).gen = g at *
  generalize hfill : (p.lands i).fill = fl at *
  generalize hM1 : ((p.lands i).slabs.length - 1) * p.size = M1 at *
  generalize hM : (p.lands i).slabs.length * p.size = M at *
  generalize hll : (p.lands i).slabs.length = ll at *
  have hin : IntKind.i64.wrap ((p.size : Int) - ((M : Int) - fl)) = ((p.size + fl - M : Nat) : Int) := by rw [IntWalk.i64_in _ (by omega)]; omega
  have hend : IntKind.i64.wrap ((M : Int) - fl) = (M : Int) - fl := IntWalk.i64_in _ (by omega)
  generalize hI : p.size + fl - M = I at *
  clear hfill hM1 hM hll
  have hb1 := and_one_zero
  have hb2 := andNot_zero I (by omega)
  have d1 : decide ((n : Int) < 1) = false := by simp; omega
  have d2 : decide (p.size < n) = false := by simp; omega
  have w1 : IntKind.i64.wrap ((ll : Int) - 1) = (ll : Int) - 1 := IntWalk.i64_in _ (by omega)
  have w2 : IntKind.i64.wrap (M1 : Int) = (M1 : Int) := IntWalk.i64_in _ (by omega)
  have w3 : IntKind.i64.wrap ((M1 : Int) + (I : Int)) = (M1 : Int) + (I : Int) := IntWalk.i64_in _ (by omega)
  have hb0 : ((ll : Int) == 0) = false := by simp; omega
  go_enter Try.func26, Try.ntmps26
  go_wp2_with fail
  refine HC.out.mono ?_
  rintro e w' ⟨rfl, rfl⟩
  go_wp2
  go_quiet (fail)
  go_wp2
  go_quiet (fail)
  go_wp2
  go_quiet (fail)
  go_wp2
  refine bodyPost_ret (v := .tuple #[.agg #[.int .i64 i, .int .i64 g, .int .i64 ((M1 : Int) + (I : Int)), .int .i64 n], .int .i64 0]) (by simp [results, Try.results26, go_sem]) rfl ⟨rfl, ?_, T, L, Ext.refl _ _, ?_⟩
  · refine Same.then_setCell ?_ (Or.inr (by simp)) _
    refine Same.then_setCell ?_ (Or.inr (by simp)) _
    refine Same.then_setCell ?_ (Or.inr (by simp)) _
    refine Same.then_setCell ?_ (Or.inr (by simp)) _
    refine Same.then_setCell ?_ (Or.inl ?_) _
    · exact ((Same.refl _ _).then_alloc _).then_drewN _
    · unfold PoolOwn; rw [H.out.tagb]; simp
  · have R := HF.out
    rw [Int.natCast_add, Int.natCast_add] at R
    refine R.later ?_
    refine Same.then_setCell ?_ (Or.inr (by simp)) _
    refine Same.then_setCell ?_ (Or.inr (by simp)) _
    refine Same.then_setCell ?_ (Or.inr (by simp)) _
    refine Same.then_setCell ?_ (Or.inr (by simp)) _
    show Same _ _ (((w.alloc _).setCell _ _).drewN _)
    rw [setCell_past _ _ _ _ _ lt]
    exact ((Same.refl _ _).then_alloc _).then_drewN _

end Go.Proofs.Ytmnklaphcjchiaa
