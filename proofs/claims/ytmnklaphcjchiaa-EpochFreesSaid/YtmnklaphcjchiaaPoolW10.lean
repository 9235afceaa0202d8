/-
  Walks of region.Pool: New.
-/
import Derived.Test.YtmnklaphcjchiaaPoolW9
import Derived.Deep.RegionHeld3
import Derived.Deep.AppendLies
namespace Go.Proofs.Ytmnklaphcjchiaa
open Go.RowKit

def land0 : List Value := [.bool false, .int .i64 0, .slice none 0 0, .int .i64 0]

def poolCells0 (s t : Value) : Array Value := (s :: .slice none 0 0 :: t :: (List.replicate 256 land0).flatten).toArray

theorem flatten_row (n : Nat) : ∀ (i j : Nat), i < n → j < 4 → (List.replicate n land0).flatten[i * 4 + j]? = land0[j]? := by
  induction n with
  | zero => intro i j h _; omega
  | succ n ih =>
    intro i j hi hj
    rw [List.replicate_succ, List.flatten_cons]
    cases i with
    | zero => rw [List.getElem?_append_left (by simp [land0]; omega)]; simp
    | succ i =>
      rw [List.getElem?_append_right (by simp [land0]; omega)]
      have := ih i j (by omega) hj
      rw [← this]
      congr 1
      simp [land0]
      omega

theorem poolCells0_land (s t : Value) (i j : Nat) (hi : i < 256) (hj : j < 4) : (poolCells0 s t)[3 + i * 4 + j]? = land0[j]? := by
  rw [← flatten_row 256 i j hi hj]
  simp only [poolCells0, List.getElem?_toArray]
  rw [show 3 + i * 4 + j = (i * 4 + j) + 1 + 1 + 1 by omega]
  rfl

theorem poolCells0_0 (s t : Value) : (poolCells0 s t)[0]? = some s := by simp only [poolCells0, List.getElem?_toArray, List.getElem?_cons_zero]
theorem poolCells0_1 (s t : Value) : (poolCells0 s t)[1]? = some (.slice none 0 0) := by simp only [poolCells0, List.getElem?_toArray, List.getElem?_cons_succ, List.getElem?_cons_zero]
theorem poolCells0_2 (s t : Value) : (poolCells0 s t)[2]? = some t := by simp only [poolCells0, List.getElem?_toArray, List.getElem?_cons_succ, List.getElem?_cons_zero]

theorem pool_build (w : World) (s : Int) (a : Option Addr) (n c : Nat) :
    (Instr.build 64 #[(0, .int .i64 s), (2, .slice a n c)]).run Try.prog w = .ok (.agg (poolCells0 (.int .i64 s) (.slice a n c))) w := by kernel_rfl

theorem wpList_build {P : Program} {w : World} {ops : Array Oper} {rest : List Oper} {o : Oper} {a : Act} {Q : Exit → Act → World → Prop} (hgd : o.guard = none) (T : TypeId) (parts : Array (Nat × Operand))
    (ho : o.op = .build T parts) (v : Value) (hrun : (Instr.build T (parts.map fun x => (x.1, a.eval x.2))).run P w = .ok v w)
    (h : wpList P ops Q rest (a.put o.dst v) w) : wpList P ops Q (o :: rest) a w := by
  refine wpList_plain hgd fun K hK => ?_
  unfold Oper.wp
  simp only [execOp, ho]
  rw [Sem.run_bind, hrun]
  exact hK _ _ h

theorem heap_new2 (w : World) (a b : Obj) : ((w.alloc a).alloc b).drew.heap[w.heap.size + 1]? = some b := by
  have := heap_alloc_new (w.alloc a) b
  rw [World.size_alloc] at this
  exact this

theorem keep_two {w : World} {a : Addr} {v : Value} (h : w.cell? a = some v) (x y : Obj) : ((w.alloc x).alloc y).drew.cell? a = some v := by
  have hk := World.block_lt_of_cell? w _ h
  show ((w.alloc x).alloc y).cell? a = _
  rw [World.cell?_alloc_lt _ _ _ (by simp; omega), World.cell?_alloc_lt _ _ _ hk]
  exact h

theorem keep_one {w : World} {a : Addr} {v : Value} (h : w.cell? a = some v) (x : Obj) : (w.alloc x).drew.cell? a = some v := by
  have hk := World.block_lt_of_cell? w _ h
  show (w.alloc x).cell? a = _
  rw [World.cell?_alloc_lt _ _ _ hk]
  exact h

theorem keep_one_f {w : World} {a : Addr} (hk : a.block < w.heap.size) (h : w.frozen? a = false) (x : Obj) : (w.alloc x).drew.frozen? a = false := by
  show (w.alloc x).frozen? a = _
  rw [World.frozen?_alloc_old _ _ _ (by omega)]
  exact h

theorem keep_two_f {w : World} {a : Addr} (hk : a.block < w.heap.size) (h : w.frozen? a = false) (x y : Obj) : ((w.alloc x).alloc y).drew.frozen? a = false := by
  show ((w.alloc x).alloc y).frozen? a = _
  rw [World.frozen?_alloc_old _ _ _ (by simp; omega), World.frozen?_alloc_old _ _ _ (by omega)]
  exact h

structure PoolPart (w0 wr : World) (T0 T : Tags) (size n k : Nat) (xb : Nat → Nat) (v : Value) : Prop where
  ext : Ext T0 T w0
  below : Below w0.heap.size w0 wr
  tagt : T w0.heap.size = (3, 0)
  tagb : T (w0.heap.size + 1) = (1, 0)
  tagx : ∀ s, s < k → T (xb s) = (4, s)
  tagv : ∀ g, v.ownBlock = some g → T g = (2, 0)
  lt : w0.heap.size + 1 < wr.heap.size
  ltx : ∀ s, s < k → xb s < wr.heap.size
  gex : ∀ s, s < k → w0.heap.size ≤ xb s
  fb : Free wr (w0.heap.size + 1)
  ft : Free wr w0.heap.size
  fx : ∀ s, s < k → Free wr (xb s)
  c0 : wr.cell? ⟨w0.heap.size + 1, 0, none⟩ = some (.int .i64 size)
  c1 : wr.cell? ⟨w0.heap.size + 1, 1, none⟩ = some v
  c2 : wr.cell? ⟨w0.heap.size + 1, 2, none⟩ = some (.slice (some ⟨w0.heap.size, 0, none⟩) n n)
  land : ∀ i, i < 256 → ∀ j, j < 4 → wr.cell? ⟨w0.heap.size + 1, 3 + i * 4 + j, none⟩ = land0[j]?
  t : ∀ s, s < n → wr.cell? ⟨w0.heap.size, s, none⟩ = some (.bool false)
  x : ∀ s, s < k → ∀ j, j < size → wr.cell? ⟨xb s, j, none⟩ = some (.int .u8 0)
  own : wr.ownsRow w0.heap.size 48 1 v k ((List.range k).map fun s => slabSlice (xb s) size)

theorem Free.of_block {w w' : World} {k k' : Nat} (hf : Free w k) (h : w'.heap[k']? = w.heap[k]?) : Free w' k' := fun o => by
  have := hf o
  simp only [World.frozen?] at this ⊢
  rw [h]; exact this

theorem made_cell (z : Value) (n j : Nat) (hj : j < n) : (madeCells #[z] n)[j]? = some z := by
  have : (madeCells #[z] n).toList = List.replicate n z := toList_madeCells_one z n
  rw [← Array.getElem?_toList, this]
  simp [hj]

theorem part_start (w : World) (T : Tags) (size n : Nat) :
    PoolPart w ((w.alloc (.cells (madeCells #[.bool false] n) 4)).alloc (.cells (poolCells0 (.int .i64 size) (.slice (some ⟨w.heap.size, 0, none⟩) n n)) 64)) T
      ((T.put w.heap.size (3, 0)).put (w.heap.size + 1) (1, 0)) size n 0 (fun _ => 0) (.slice none 0 0) := by
  have e1 : (w.alloc (.cells (madeCells #[.bool false] n) 4)).heap.size = w.heap.size + 1 := by simp
  have hb : ((w.alloc (.cells (madeCells #[.bool false] n) 4)).alloc (.cells (poolCells0 (.int .i64 size) (.slice (some ⟨w.heap.size, 0, none⟩) n n)) 64)).heap[w.heap.size + 1]? = some (.cells (poolCells0 (.int .i64 size) (.slice (some ⟨w.heap.size, 0, none⟩) n n)) 64) := by
    rw [← e1]; exact heap_alloc_new _ _
  have ht : ((w.alloc (.cells (madeCells #[.bool false] n) 4)).alloc (.cells (poolCells0 (.int .i64 size) (.slice (some ⟨w.heap.size, 0, none⟩) n n)) 64)).heap[w.heap.size]? = some (.cells (madeCells #[.bool false] n) 4) := by
    rw [Below.heap_alloc _ _ _ (by simp)]; exact heap_alloc_new _ _
  have hc : ∀ i, ((w.alloc (.cells (madeCells #[.bool false] n) 4)).alloc (.cells (poolCells0 (.int .i64 size) (.slice (some ⟨w.heap.size, 0, none⟩) n n)) 64)).cell? ⟨w.heap.size + 1, i, none⟩ = (poolCells0 (.int .i64 size) (.slice (some ⟨w.heap.size, 0, none⟩) n n))[i]? := fun i => by
    rw [World.cell?, hb]; simp
  exact {
    ext := (Ext.put T w _ _ (Nat.le_refl _)).trans (Ext.put _ w _ _ (by omega)) (Nat.le_refl _)
    below := ((Below.refl _ _).alloc (Nat.le_refl _) _).alloc (by simp) _
    tagt := by rw [Tags.put_ne _ _ _ (by omega), Tags.put_same]
    tagb := Tags.put_same _ _ _
    tagx := fun s h => by omega
    tagv := fun g h => by simp [Value.ownBlock] at h
    lt := by simp
    ltx := fun s h => by omega
    gex := fun s h => by omega
    fb := Free.of_obj hb
    ft := Free.of_obj ht
    fx := fun s h => by omega
    c0 := by rw [hc, poolCells0_0]
    c1 := by rw [hc, poolCells0_1]
    c2 := by rw [hc, poolCells0_2]
    land := fun i hi j hj => by rw [hc]; exact poolCells0_land _ _ i j hi hj
    t := fun s hs => by rw [World.cell?, ht]; simp [made_cell _ n s hs]
    x := fun s h => by omega
    own := World.ownsRow_nil _ _ _ _ }

/-- One slab more. -/
theorem part_round {w0 wr w3 : World} {T0 T : Tags} {size n k : Nat} {xb : Nat → Nat} {v : Value} (h : PoolPart w0 wr T0 T size n k xb v) {nd : Nat} (v' : Value)
    (hg : (((wr.alloc (.cells (madeCells #[.int .u8 0] size) 5)).alloc (.cells #[slabSlice wr.heap.size size] 48)).drewN nd).grownBy w3 v.ownBlock)
    (ho : w3.ownsRow w0.heap.size 48 1 v' (k + 1) (((List.range k).map fun s => slabSlice (xb s) size) ++ [slabSlice wr.heap.size size]))
    (hv : ∀ g, v'.ownBlock = some g → v.ownBlock = some g ∨ wr.heap.size + 2 ≤ g) :
    ∃ T' xb', PoolPart w0 (w3.setCell ⟨w0.heap.size + 1, 1, none⟩ v') T0 T' size n (k + 1) xb' v' := by
  have lt := h.lt
  -- labels
  obtain ⟨T', hT, hTv, hTx⟩ : ∃ T', Ext T T' wr ∧ (∀ g, v'.ownBlock = some g → T' g = (2, 0)) ∧ T' wr.heap.size = (4, k) := by
    cases hb : v'.ownBlock with
    | none => exact ⟨T.put wr.heap.size (4, k), Ext.put _ _ _ _ (Nat.le_refl _), (fun g hg => by cases hg), Tags.put_same _ _ _⟩
    | some g =>
      rcases hv g hb with h1 | h1
      · have hgl := (h.own.lt g h1).2
        refine ⟨T.put wr.heap.size (4, k), Ext.put _ _ _ _ (Nat.le_refl _), fun g' hg' => ?_, Tags.put_same _ _ _⟩
        cases hg'
        rw [Tags.put_ne _ _ _ (by omega)]; exact h.tagv g h1
      · refine ⟨(T.put wr.heap.size (4, k)).put g (2, 0), (Ext.put _ _ _ _ (Nat.le_refl _)).trans (Ext.put _ wr _ _ (by omega)) (Nat.le_refl _), fun g' hg' => ?_, ?_⟩
        · cases hg'; exact Tags.put_same _ _ _
        · rw [Tags.put_ne _ _ _ (by omega), Tags.put_same]
  have hs : Same (fun j => v.ownBlock = some j) wr w3 := Same.then_grown ((((Same.refl _ wr).then_alloc _).then_alloc _).then_drewN nd) hg (fun j hj => Or.inl hj)
  have hsz : wr.heap.size + 2 ≤ w3.heap.size := by have := hg.size; simpa using this
  have hx : w3.heap[wr.heap.size]? = some (.cells (madeCells #[.int .u8 0] size) 5) := by
    rw [hg.block _ (by show _ < ((wr.alloc _).alloc _).heap.size; simp; omega) (fun e => by have := (h.own.lt _ e.symm).2; omega)]
    show ((wr.alloc _).alloc _).heap[_]? = _
    rw [Below.heap_alloc _ _ _ (by simp)]; exact heap_alloc_new _ _
  have nv : ∀ {j t}, T j = t → t ≠ (2, 0) → ¬ v.ownBlock = some j := fun hj ht e => ht (hj.symm.trans (h.tagv _ e))
  have nb := nv h.tagb (by simp)
  have nt := nv h.tagt (by simp)
  have nx : ∀ s, s < k → ¬ v.ownBlock = some (xb s) := fun s hs => nv (h.tagx s hs) (by simp)
  have ne : ∀ s, s < k → xb s ≠ w0.heap.size + 1 := fun s hs => tag_ne (h.tagx s hs) h.tagb (by simp)
  have hown' : ∀ g, v'.ownBlock = some g → g ≠ w0.heap.size + 1 := fun g hg => by
    rcases hv g hg with h1 | h1
    · exact tag_ne (h.tagv g h1) h.tagb (by simp)
    · omega
  refine ⟨T', fun s => if s = k then wr.heap.size else xb s, ?_⟩
  exact {
    ext := h.ext.trans (fun i hi => hT i (by omega)) (by omega)
    below := (h.below.trans (hs.below (by omega) (fun i hi ht => by have := (h.own.lt i ht).1; omega))).setCell (by simp) _
    tagt := (hT _ (by omega)).trans h.tagt
    tagb := (hT _ (by omega)).trans h.tagb
    tagx := fun s hl => by
      by_cases e : s = k
      · rw [if_pos e, e]; exact hTx
      · rw [if_neg e]; exact (hT _ (h.ltx s (by omega))).trans (h.tagx s (by omega))
    tagv := hTv
    lt := by simp; omega
    ltx := fun s hl => by
      by_cases e : s = k
      · rw [if_pos e]; simp; omega
      · rw [if_neg e]; have := h.ltx s (by omega); simp; omega
    gex := fun s hl => by
      by_cases e : s = k
      · rw [if_pos e]; omega
      · rw [if_neg e]; exact h.gex s (by omega)
    fb := (h.fb.same hs (by omega) nb).setCell _ _
    ft := (h.ft.same hs (by omega) nt).setCell _ _
    fx := fun s hl => by
      by_cases e : s = k
      · rw [if_pos e]; exact (Free.of_obj hx).setCell _ _
      · rw [if_neg e]; exact ((h.fx s (by omega)).same hs (h.ltx s (by omega)) (nx s (by omega))).setCell _ _
    c0 := cell_ne (hs.cell nb h.c0) (by omega)
    c1 := cell_eq (hs.cell nb h.c1)
    c2 := cell_ne (hs.cell nb h.c2) (by omega)
    land := fun i hi j hj => by
      obtain ⟨u, hu⟩ : ∃ u, land0[j]? = some u := ⟨_, List.getElem?_eq_getElem (show j < land0.length from hj)⟩
      rw [hu]
      exact cell_ne (hs.cell nb ((h.land i hi j hj).trans hu)) (by omega)
    t := fun s hl => cell_ne (hs.cell nt (h.t s hl)) (by omega)
    x := fun s hl j hj => by
      by_cases e : s = k
      · rw [if_pos e]
        refine cell_ne ?_ (by omega)
        rw [World.cell?, hx]; simp [made_cell _ size j hj]
      · rw [if_neg e]
        exact cell_ne (hs.cell (nx s (by omega)) (h.x s (by omega) j hj)) (Or.inl (ne s (by omega)))
    own := by
      refine ownsRow_setCell ?_ hown' _
      rw [List.range_succ, List.map_append]
      have e1 : ((List.range k).map fun s => slabSlice (if s = k then wr.heap.size else xb s) size) = (List.range k).map fun s => slabSlice (xb s) size := by
        apply List.map_congr_left
        intro s hs
        rw [if_neg (by have := List.mem_range.1 hs; omega)]
      rw [e1]
      simpa using ho }

/-- The last round is behind: the pool is made. -/
theorem part_done {w0 wr : World} {T0 T : Tags} {size n : Nat} {xb : Nat → Nat} {v : Value} (h : PoolPart w0 wr T0 T size n n xb v) (hn : 1 ≤ n) :
    ∃ L', PoolRep wr T (w0.heap.size + 1) (Pool.new size n) L' := by
  rcases h.own.2 with ⟨_, h0⟩ | ⟨g, cap, cur, hv, _, hg, _⟩
  · omega
  · subst hv
    have lt := h.lt
    have land : ∀ i, i < 256 → ∀ j u, land0[j]? = some u → wr.cell? ⟨w0.heap.size + 1, 3 + i * 4 + j, none⟩ = some u := fun i hi j u hu => by
      have hj : j < 4 := (List.getElem?_eq_some_iff.1 hu).1
      rw [h.land i hi j hj, hu]
    exact ⟨⟨g, cap, w0.heap.size, xb, fun _ => .slice none 0 0⟩, {
      tagb := h.tagb, tags := h.tagv g rfl, tagt := h.tagt, tagx := h.tagx, tagl := fun i _ k hk => by simp [Value.ownBlock] at hk
      ltb := lt
      lts := (Array.getElem?_eq_some_iff.1 hg).1
      ltt := by show w0.heap.size < _; omega
      ltx := h.ltx
      fb := h.fb, fs := Free.of_obj hg, ft := h.ft, fx := h.fx
      c0 := h.c0, c1 := h.c1, c2 := h.c2
      l0 := fun i hi => land i hi 0 _ rfl
      l1 := fun i hi => land i hi 1 _ rfl
      l2 := fun i hi => land i hi 2 _ rfl
      l3 := fun i hi => land i hi 3 _ rfl
      s := fun s hs => by
        have h1 := h.own.cellAt s (by have h9 : s < n := hs; omega)
        show wr.cell? ⟨g, s, none⟩ = _
        rw [h1]
        have hs' : s < n := hs
        simp [hs']
        rfl
      t := h.t
      x := h.x
      ls := fun i _ => World.ownsRow_nil _ _ _ _ }⟩

def NewPost (w : World) (T : Tags) (q : Pool) (e : Ending) (w' : World) : Prop :=
  ∃ b, e = .returned (.tuple #[.pointer (some ⟨b, 0, none⟩), .int .i64 0]) ∧ ∃ T' L', Below w.heap.size w w' ∧ Ext T T' w ∧ PoolRep w' T' b q L'

set_option maxRecDepth 100000 in
set_option maxHeartbeats 1600000 in
theorem new_any (w : World) (T : Tags) (size n : Nat) (h0 : 64 ≤ size) (h1 : size ≤ 65536) (h8 : size % 8 = 0) (hn0 : 1 ≤ n) (hn1 : n ≤ 4096) (hall : size * n ≤ 4194304) :
    Calls Try.prog 8 #[.int .i64 size, .int .i64 n] w (NewPost w T (Pool.new size n)) := by
  obtain ⟨i4, hi4, z4, s4, b4⟩ := info_parts (show (Try.prog.info? 4).map (fun i => (i.zero, i.size, i.bytes)) = some (some (.bool false), 1, 1) by kernel_rfl)
  obtain ⟨i5, hi5, z5, s5, b5⟩ := info_parts Try.infoByte
  obtain ⟨i8, hi8, z8, s8, b8⟩ := info_parts (show (Try.prog.info? 48).map (fun i => (i.zero, i.size, i.bytes)) = some (some (.slice none 0 0), 1, 24) by kernel_rfl)
  have d1 : decide ((size : Int) < 64) = false := by simp; omega
  have d2 : decide ((65536 : Int) < size) = false := by simp; omega
  have d3 : (((size : Int) % 8) != 0) = false := by simp; omega
  have d4 : decide ((n : Int) < 1) = false := by simp; omega
  have d5 : decide ((4096 : Int) < n) = false := by simp; omega
  have e6 : (size : Int) * (n : Int) = ((size * n : Nat) : Int) := (Int.natCast_mul _ _).symm
  generalize size * n = M at *
  have d6 : decide ((4194304 : Int) < (M : Int)) = false := by simp; omega
  have hmk : ∀ W : World, (Instr.makeSlice 56 (.int .i64 n) (.int .i64 n)).run Try.prog W = .ok (.slice (some ⟨W.heap.size, 0, none⟩) n n) (W.alloc (.cells (madeCells #[.bool false] n) 4)) := fun W => by
    have := run_make (P := Try.prog) W 56 4 i4 (.bool false) Try.underlying56 hi4 z4 .i64 .i64 n n (by omega) (Int.le_refl _) (by rw [b4]; omega) (by omega)
    rw [s4] at this
    simpa [Value.cells] using this
  go_enter Try.func8, Try.ntmps8
  go_wp2_with (with_reducible refine wpList_build rfl 64 _ rfl (.agg (poolCells0 (.int .i64 size) (.slice (some ⟨w.heap.size, 0, none⟩) n n))) ?hb ?_)
  case hb =>
    simp only [List.map_toArray, List.map_cons, List.map_nil]
    exact pool_build _ size _ n n
  go_loopw [38] (fun x wr => ∃ k : Nat, k ≤ n ∧ x = .int .i64 k ∧ ∃ Tk xb v, PoolPart w wr T Tk size n k xb v) (fun x _ => n - (intOf x).toNat)
  case atStart => exact ⟨0, Nat.zero_le _, rfl, _, _, _, part_start w T size n⟩
  case round =>
    obtain ⟨k, hk, rfl, Tk, xb, v, R⟩ := hrel
    obtain ⟨va, vc, rfl⟩ := owns_shape R.own
    have c1 := R.c1
    have f1 := R.fb 1
    have HR := Lib.hid R
    have lt := R.lt
    have hne : some (⟨w.heap.size + 1, 1, none⟩ : Addr).block ≠ (Value.slice va k vc).ownBlock := fun e => by
      have h1 := R.tagv _ e.symm
      rw [R.tagb] at h1
      simp at h1
    clear R
    by_cases hlt : k < n
    · have hmk5 : ∀ W : World, (Instr.makeSlice 48 (.int .i64 size) (.int .i64 size)).run Try.prog W = .ok (.slice (some ⟨W.heap.size, 0, none⟩) size size) (W.alloc (.cells (madeCells #[.int .u8 0] size) 5)) := fun W => by
        have := run_make (P := Try.prog) W 48 5 i5 (.int .u8 0) Try.underlying48 hi5 z5 .i64 .i64 size size (by omega) (Int.le_refl _) (by rw [b5]; omega) (by omega)
        rw [s5] at this
        simpa [Value.cells] using this
      go_wp2_with fail
      have ca1 : ∀ o, (wr.alloc o).cell? ⟨w.heap.size + 1, 1, none⟩ = some (.slice va k vc) := fun o => keep_one c1 o
      have ca2 : ∀ o o', ((wr.alloc o).alloc o').cell? ⟨w.heap.size + 1, 1, none⟩ = some (.slice va k vc) := fun o o' => keep_two c1 o o'
      go_region_law
        ((refine step_append_lies _ (by rfl) _ _ _ (by rfl) w.heap.size 48 i8 _ 1 24 Try.underlying59 hi8 z8 s8 b8 rfl (by omega) (.slice va k vc) k _ (by rfl) (((HR.out.own.alloc _).alloc _).drew)
            ⟨wr.heap.size + 1, 0, none⟩ 1 1 [slabSlice wr.heap.size size] (by rfl) (by rfl) (World.news_of_block (cs := #[slabSlice wr.heap.size size]) (t := 48) (fr := (0, 0)) (heap_new2 _ _ _)) (by simp [Value.oneCell', slabSlice])
            (by omega) (by unfold maxLen; omega) (by omega) (by simp; omega) (wr.heap.size + 2) (by simp) ?_; intro gg cap w1 hown1 hgrow hat hlt1; have k1 := hgrow.cell (keep_two c1 _ _) hne; have k2 := (hgrow.frozen_far _ (by simp; omega) hne).trans (keep_two_f lt f1 _ _)))
      all_goals
        go_wp2
        obtain ⟨T', xb', R'⟩ := part_round HR.out (nd := 1) (.slice (some ⟨gg, 0, none⟩) (k + 1) cap) hgrow hown1 (fun g hg => by
          simp only [Value.ownBlock, Option.some.injEq] at hg
          subst hg
          rcases hat with h | h
          · exact .inl h
          · right; omega)
        exact ⟨⟨k + 1, by omega, by go_num, T', xb', _, R'⟩, by simp [intOf]; omega⟩
    · obtain rfl : k = n := by omega
      obtain ⟨L', R'⟩ := part_done HR.out hn0
      have HR' := Lib.hid R'
      clear R'
      go_wp2
      go_ret2
      exact ⟨_, rfl, Tk, L', HR.out.below, HR.out.ext, HR'.out⟩

end Go.Proofs.Ytmnklaphcjchiaa
