/-
  Walks of region.Pool: grow.
-/
import Derived.Test.YtmnklaphcjchiaaPoolW5
import Derived.StillTailTactics
namespace Go.Proofs.Ytmnklaphcjchiaa
open Go.RowKit

theorem Try.infoInt : (Try.prog.info? 3).map (fun i => (i.zero, i.size, i.bytes)) = some (some (.int .i64 0), 1, 8) := by kernel_rfl
theorem Try.infoByte : (Try.prog.info? 5).map (fun i => (i.zero, i.size, i.bytes)) = some (some (.int .u8 0), 1, 1) := by kernel_rfl

def GrowPost (w : World) (T : Tags) (b : Nat) (q : Pool) (e : Ending) (w' : World) : Prop :=
  e = .returned (.bool true) ∧ Same (PoolOwn T) w w' ∧ ∃ T' L', Ext T T' w ∧ PoolRep w' T' b q L'

set_option maxRecDepth 100000 in
set_option maxHeartbeats 800000 in
theorem grow_no {w : World} {T : Tags} {b : Nat} {p : Pool} {L : Lay} (h : PoolRep w T b p L) (hn1 : p.n ≤ 4096) (i : Nat) (hi : p.idleSlab = none) :
    Calls Try.prog 32 #[.pointer (some ⟨b, 0, none⟩), .pointer (some ⟨b, 3 + i * 4, none⟩)] w fun e w' => e = .returned (.bool false) ∧ w = w' := by
  have c2 := h.c2
  have C := Lib.hid (index_no L.tb p.n w hn1 (fun j hj => Pool.idleSlab_none hi j hj ▸ h.t j hj))
  clear h hi
  go_enter Try.func32, Try.ntmps32
  go_wp2_with fail
  refine C.out.mono ?_
  rintro e w' ⟨rfl, rfl⟩
  go_wp2
  go_ret
  exact ⟨rfl, rfl⟩

set_option maxRecDepth 100000 in
set_option maxHeartbeats 800000 in
theorem grow_yes {w : World} {T : Tags} {b : Nat} {p : Pool} {L : Lay} (h : PoolRep w T b p L) (wf : p.WF) (i : Nat) (hi : i < 256) (s : Nat) (hs : p.idleSlab = some s) :
    Calls Try.prog 32 #[.pointer (some ⟨b, 0, none⟩), .pointer (some ⟨b, 3 + i * 4, none⟩)] w (GrowPost w T b (p.grow i s)) := by
  obtain ⟨hs1, hs2, hs3⟩ := Pool.idleSlab_some hs
  have hz0 := wf.size0
  have hz1 := wf.size1
  have hn1 := wf.n1
  have hln := wf.len hi
  have C := Lib.hid (index_yes L.tb p.n s w hs1 hn1 (fun j hj => hs3 j hj ▸ h.t j (by omega)) (hs2 ▸ h.t s hs1))
  have c0 := h.c0
  have c1 := h.c1
  have c2 := h.c2
  have cs := h.s s hs1
  unfold slabSlice at cs
  have ct := h.t s hs1
  have ft := h.ft s
  have H := Lib.hid h
  have h1 := h.setTaken hs1 true
  have l2 := h.l2 i hi
  have l3 := h.l3 i hi
  have f2 := h.fb (3 + i * 4 + 2)
  have f3 := h.fb (3 + i * 4 + 3)
  have lt := h.ltb
  have ltt := h.ltt
  have lts := h.lts
  have nbt : b ≠ L.tb := tag_ne h.tagb h.tagt (by simp)
  have nst : L.sb ≠ L.tb := tag_ne h.tags h.tagt (by simp)
  have h2 := h1.write (a := 0) hs1 (List.replicate p.size 0) (by simp [Pool.setTaken])
  have X1 := Lib.hid h1.x
  have F1 := Lib.hid h1.fx
  have H1 := Lib.hid h1
  rw [show (List.replicate p.size (0 : Int)).map (Value.int .u8) = List.replicate p.size (.int .u8 0) by simp] at h2
  obtain ⟨w2, hw2⟩ : ∃ w2, w2 = (w.setCell ⟨L.tb, s, none⟩ (.bool true)).setCells (L.xb s) 0 (List.replicate p.size (.int .u8 0)) := ⟨_, rfl⟩
  rw [← hw2] at h2
  have S2 : Same (PoolOwn T) w w2 := by
    rw [hw2]
    refine Same.then_setCells (Or.inl ?_) _ _ ((Same.refl _ _).then_setCell (p := ⟨L.tb, s, none⟩) (Or.inl ?_) _)
    · unfold PoolOwn; rw [h.tagx s hs1]; simp
    · unfold PoolOwn; rw [h.tagt]; simp
  have HW2 := Lib.hid hw2
  have d0 := h2.c0
  have d2 := h2.l2 i hi
  have d3 := h2.l3 i hi
  have e2 := h2.fb (3 + i * 4 + 2)
  have e3 := h2.fb (3 + i * 4 + 3)
  have o2 := h2.ls i hi
  have lt2 := h2.ltb
  have hmul : (p.lands i).slabs.length * p.size ≤ 4194304 := by
    have h4 : (p.lands i).slabs.length * p.size ≤ p.n * p.size := Nat.mul_le_mul_right _ hln
    have h5 := wf.all
    rw [Nat.mul_comm p.n] at h4
    omega
  have hmul' : ((p.lands i).slabs.length : Int) * (p.size : Int) = (((p.lands i).slabs.length * p.size : Nat) : Int) := (Int.natCast_mul _ _).symm
  have hw : IntKind.i64.wrap (((p.lands i).slabs.length : Int) * (p.size : Int)) = (((p.lands i).slabs.length * p.size : Nat) : Int) := by
    rw [hmul']; exact IntWalk.i64_in _ (by omega)
  obtain ⟨va, vc, hlv⟩ := owns_shape o2
  have hsl : ((p.setTaken s true).write s 0 (List.replicate p.size 0)).lands i = p.lands i := rfl
  have hsz : ((p.setTaken s true).write s 0 (List.replicate p.size 0)).size = p.size := rfl
  rw [hsl] at hlv d3 o2
  rw [hsz] at d0
  rw [hlv] at d2
  clear hmul'
  have H2 := Lib.hid h2
  clear h hs wf h1 h2 hw2
  go_enter Try.func32, Try.ntmps32
  go_wp2_with fail
  refine C.out.mono ?_
  rintro e w' ⟨rfl, rfl⟩
  obtain ⟨i5, hi5, z5, s5, b5⟩ := info_parts Try.infoByte
  go_wp2_with (with_reducible refine wpList_clear_cells rfl (.tmp 25) 48 rfl 5 Try.underlying48 i5 (.int .u8 0) hi5 z5 rfl rfl (L.xb s) 0 p.size p.size rfl ?k1 ?k2 ?k3 ?_)
  case k1 => omega
  case k2 => intro j hj; rw [X1.out s hs1 (0 + j) (by simp [Pool.setTaken]; omega)]; rfl
  case k3 => intro j hj; exact F1.out s hs1 _
  rw [← HW2.out]
  go_wp2
  go_still_tail 13, (by kernel_rfl)
  change wpList _ _ _ _ _ w2.drew
  obtain ⟨i3, hi3, z3, s3, b3⟩ := info_parts Try.infoInt
  have R3 := H2.out.setFill hi ((p.lands i).slabs.length * p.size)
  rw [Int.natCast_mul] at R3
  obtain ⟨w3, hw3⟩ : ∃ w3, w3 = w2.setCell ⟨b, 3 + i * 4 + 3, none⟩ (.int .i64 (((p.lands i).slabs.length : Int) * (p.size : Int))) := ⟨_, rfl⟩
  have hz3 : w3.heap.size = w2.heap.size := by rw [hw3]; simp
  have S3 : Same (PoolOwn T) w w3 := by
    rw [hw3]
    refine S2.then_setCell (p := ⟨b, 3 + i * 4 + 3, none⟩) (Or.inl ?_) _
    unfold PoolOwn; rw [H.out.tagb]; simp
  have HW3 := Lib.hid hw3
  rw [← hw3] at R3
  have o3 := R3.ls i hi
  have q2 := R3.l2 i hi
  have k2 := R3.fb (3 + i * 4 + 2)
  have hsl3 : ((((p.setTaken s true).write s 0 (List.replicate p.size 0)).setLand i { ((p.setTaken s true).write s 0 (List.replicate p.size 0)).lands i with fill := (p.lands i).slabs.length * p.size }).lands i).slabs = (p.lands i).slabs := by simp [Pool.setLand, Pool.write, Pool.setTaken]
  rw [hsl3, hlv] at o3
  rw [hlv] at q2
  have HL := Lib.hid hlv
  have HS := Lib.hid hsl
  have HZ := Lib.hid hsz
  have HO3 := Lib.hid (World.ownsRow.alloc o3 (.cells #[.int .i64 s] 3))
  have HR3 := Lib.hid R3
  have HSL3 := Lib.hid hsl3
  have lt3 : b < w3.heap.size := by omega
  clear hsl hsz o3 R3 hsl3 hlv o2 hw3 hw hmul ct ft l2 l3 f2 f3 cs c0 c1 c2
  have cell3 : (w3.alloc (.cells #[.int .i64 (s : Int)] 3)).cell? ⟨w3.heap.size, 0, none⟩ = some (.int .i64 s) := by simp
  go_wp2_with (at_builtin; rw [← HW3.out]; refine wpList_append_place rfl (.tmp 43) (.tmp 45) 53 rfl 0 3 i3 (.int .i64 0) 1 8 Try.underlying53 hi3 z3 s3 b3 rfl (by decide) (.slice va (p.lands i).slabs.length vc) (p.lands i).slabs.length (slabInts (p.lands i).slabs) rfl HO3.out ⟨w2.heap.size, 0, none⟩ 1 1 [.int .i64 s] rfl rfl ?c1 ?c2 ?c3 ?c4 (Nat.zero_le _) ?_)
  case c2 => rfl
  case c3 => unfold maxLen; omega
  case c4 => omega
  intro v' w4 ho4 hg4 _ hpl
  obtain ⟨va', vc', hv'⟩ := owns_shape ho4
  have R4 := (HR3.out.alloc (.cells #[.int .i64 (s : Int)] 3)).drewN 1
  have hgb : ((w3.alloc (.cells #[.int .i64 (s : Int)] 3)).drewN 1).grownBy w4 (L.lv i).ownBlock := by rw [HL.out]; exact hg4
  have hpl' : ∀ k, v'.ownBlock = some k → (L.lv i).ownBlock = some k ∨ ((w3.alloc (.cells #[.int .i64 (s : Int)] 3)).drewN 1).heap.size ≤ k := by
    rw [HL.out]; intro k hk
    rcases hpl k hk with h | h
    · exact .inl h
    · right; show (w3.alloc _).heap.size ≤ k; simp; omega
  have ho4' : w4.ownsRow 0 3 1 v' ((p.lands i).slabs ++ [s]).length (slabInts ((p.lands i).slabs ++ [s])) := by
    simpa [slabInts] using ho4
  obtain ⟨T', hT', R5⟩ := R4.setSlabs hi _ v' hgb ho4' hpl'
  have S4 : Same (PoolOwn T) w w4 := ((S3.then_alloc (.cells #[.int .i64 (s : Int)] 3)).then_drewN 1).then_grown hgb (fun k hk => Or.inl (by unfold PoolOwn; rw [H.out.tagl i hi k hk]; simp))
  have nb5 : ∀ k, (L.lv i).ownBlock = some k → b ≠ k := fun k hk => tag_ne H.out.tagb (H.out.tagl i hi k hk) (by simp)
  have hc4 : w4.cell? ⟨b, 3 + i * 4 + 2, none⟩ = some (.slice va (p.lands i).slabs.length vc) := by
    refine hg4.cell (a := ⟨b, 3 + i * 4 + 2, none⟩) ?_ ?_
    · show (w3.alloc _).cell? _ = _
      rw [World.cell?_alloc_past _ _ _ lt3]; exact q2
    · rw [← HL.out]; intro e; exact nb5 _ e.symm rfl
  have hf4 : w4.frozen? ⟨b, 3 + i * 4 + 2, none⟩ = false := by
    rw [World.frozen?_of_block (w := (w3.alloc (.cells #[.int .i64 (s : Int)] 3)).drew) (hg4.block b (by simp; omega) (by rw [← HL.out]; intro e; exact nb5 _ e.symm rfl))]
    show (w3.alloc _).frozen? _ = _
    rw [World.frozen?_alloc_past _ _ _ lt3]; exact k2
  have HR5 := Lib.hid R5
  have HV := Lib.hid hv'
  have HS4 := Lib.hid S4
  have HT' := Lib.hid hT'
  subst hv'
  clear R5 ho4 ho4' hg4 hgb hpl hpl' R4 hT' S4
  go_wp2
  go_ret
  have e : p.grow i s = ((((p.setTaken s true).write s 0 (List.replicate p.size 0)).setLand i { ((p.setTaken s true).write s 0 (List.replicate p.size 0)).lands i with fill := (p.lands i).slabs.length * p.size }).setLand i
      { ((((p.setTaken s true).write s 0 (List.replicate p.size 0)).setLand i { ((p.setTaken s true).write s 0 (List.replicate p.size 0)).lands i with fill := (p.lands i).slabs.length * p.size }).lands i) with slabs := (p.lands i).slabs ++ [s] }) := by
    simp only [Pool.grow, Pool.setLand, Pool.write, Pool.setTaken, if_true, Pool.mk.injEq, true_and]
    funext j
    by_cases hj : j = i <;> simp [hj]
  have R6 := HR5.out
  rw [← e] at R6
  exact ⟨rfl, HS4.out.then_setCell (p := ⟨b, 3 + i * 4 + 2, none⟩) (Or.inl (by unfold PoolOwn; rw [H.out.tagb]; simp)) _, T', _, fun k hk => HT'.out k (by show k < (w3.alloc _).heap.size; simp; have := S3.size; omega), R6⟩

end Go.Proofs.Ytmnklaphcjchiaa
