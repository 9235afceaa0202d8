/-
  Walks of epoch: Retire.
-/
import Derived.Test.YtmnklaphcjchiaaEpW9
import Derived.StillTailTactics
import Derived.Deep.RegionHeld3
import Derived.Deep.DeepCutAuto
namespace Go.Proofs.Ytmnklaphcjchiaa
open Go.RowKit
open Go.Maps (Keyed int_keyed keyOf_int_mk)

def addNote (l : List Note) (n : Note) : List Note := if n ∈ l then l else l ++ [n]

/-- What Retire does: nothing where there is no room. -/
def retired (p : Pool) (e : Eps) (xs : List Int) : Option (Note × Pool × Eps) :=
  match p.allocIn (e.era e.now).region xs.length with
  | none => none
  | some (hd, q) =>
    match q.piece hd with
    | .error _ => none
    | .ok (s, at_, _) => some (⟨e.now, hd⟩, q.write s at_ xs, e.setEra e.now { e.era e.now with notes := addNote (e.era e.now).notes ⟨e.now, hd⟩, bytes := (e.era e.now).bytes + xs.length })

def RetirePost (w : World) (T : Tags) (a : Nat) (p : Pool) (e : Eps) (xs : List Int) (x : Ending) (w' : World) : Prop :=
  match retired p e xs with
  | some (n, q, e') => EpPost w T a (.tuple #[.agg #[.int .i64 n.epoch, .int .i64 n.at_.region, .int .i64 n.at_.gen, .int .i64 n.at_.off, .int .i64 n.at_.len], .int .i64 0]) q e' x w'
  | none => EpPost w T a (.tuple #[.agg #[.int .i64 0, .int .i64 0, .int .i64 0, .int .i64 0, .int .i64 0], .int .i64 5]) p e x w'

/-- The looking up of the era that goes on. -/
theorem EpRep.lookNow {w : World} {T : Tags} {a : Nat} {p : Pool} {e : Eps} {E : EpLay} (h : EpRep w T a p e E) (hlo : e.lo ≤ e.now) (hn : e.now < 4611686018427387904) :
    (Instr.lookup 65 (.map (some E.lm)) (.int .i64 (e.now : Int)) false).run Try.prog w = .ok (.pointer (some ⟨E.eb e.now, 0, none⟩)) w := by
  have := h.live.look_some (t := 65) (e := 70) (v := .pointer (some ⟨E.eb e.now, 0, none⟩)) Try.intKeyed Try.underlying65 (int_key (x := (e.now : Int)) (by omega) (by omega))
    (List.mem_map.2 ⟨e.now, List.mem_range'_1.2 ⟨hlo, by simp only [Eps.cnt]; omega⟩, rfl⟩) false
  simpa using this

/-- Behind the statement 'h, f := e.p.Alloc(..)': h lies in a block of its own. -/
def AllocCut (w : World) (T : Tags) (b : Nat) (hd : Hnd) (c : Int) (q : Pool) (s7 s8 : Value) (wx : World) : Prop :=
  ∃ z1 T1 L1, s7 = .pointer (some ⟨z1, 0, none⟩) ∧ s8 = .int .i64 c ∧ Same (PoolOwn T) w wx ∧ Ext T T1 w ∧ PoolRep wx T1 b q L1 ∧ w.heap.size ≤ z1 ∧ z1 < wx.heap.size ∧ T1 z1 = (0, 0) ∧ Free wx z1 ∧
    wx.cell? ⟨z1, 0, none⟩ = some (.int .i64 hd.region) ∧ wx.cell? ⟨z1, 1, none⟩ = some (.int .i64 hd.gen) ∧ wx.cell? ⟨z1, 2, none⟩ = some (.int .i64 hd.off) ∧ wx.cell? ⟨z1, 3, none⟩ = some (.int .i64 hd.len)

theorem keep_alloc {w : World} {a : Addr} {v : Value} (h : w.cell? a = some v) (x : Obj) : (w.alloc x).cell? a = some v := keep_one h x

theorem keep_four {w : World} {k o z : Nat} {v : Value} (h : w.cell? ⟨k, o, none⟩ = some v) (hz : k ≠ z) (v0 v1 v2 v3 : Value) :
    ((((w.setCell ⟨z, 0, none⟩ v0).setCell ⟨z, 1, none⟩ v1).setCell ⟨z, 2, none⟩ v2).setCell ⟨z, 3, none⟩ v3).cell? ⟨k, o, none⟩ = some v :=
  cell_ne (cell_ne (cell_ne (cell_ne h (Or.inl hz)) (Or.inl hz)) (Or.inl hz)) (Or.inl hz)

theorem cut_before {wa w1 : World} {T T1 : Tags} {b : Nat} {hd : Hnd} {c : Int} {q : Pool} {L1 : Lay} (v0 v1 v2 v3 : Value) (hT : T wa.heap.size = (0, 0))
    (S1 : Same (PoolOwn T) (wa.alloc (.cells #[v0, v1, v2, v3] 43)).drew w1) (X1 : Ext T T1 (wa.alloc (.cells #[v0, v1, v2, v3] 43)).drew) (R1 : PoolRep w1 T1 b q L1) :
    AllocCut wa T b hd c q (.pointer (some ⟨wa.heap.size, 0, none⟩)) (.int .i64 c)
      ((((w1.setCell ⟨wa.heap.size, 0, none⟩ (.int .i64 hd.region)).setCell ⟨wa.heap.size, 1, none⟩ (.int .i64 hd.gen)).setCell ⟨wa.heap.size, 2, none⟩ (.int .i64 hd.off)).setCell ⟨wa.heap.size, 3, none⟩ (.int .i64 hd.len)) := by
  have nz : ¬ PoolOwn T wa.heap.size := by unfold PoolOwn; rw [hT]; simp
  have hs : (wa.alloc (.cells #[v0, v1, v2, v3] 43)).drew.heap.size = wa.heap.size + 1 := by show (wa.alloc _).heap.size = _; simp
  have t1 : T1 wa.heap.size = (0, 0) := (X1 _ (by rw [hs]; omega)).trans hT
  have z : ∀ i v, (#[v0, v1, v2, v3] : Array Value)[i]? = some v → w1.cell? ⟨wa.heap.size, i, none⟩ = some v := fun i v hv => S1.cell nz (by
    show (wa.alloc _).cell? _ = _
    rw [World.cell?_alloc_new]; exact hv)
  have S1' : Same (PoolOwn T) wa w1 := (((Same.refl (PoolOwn T) wa).then_alloc (.cells #[v0, v1, v2, v3] 43)).then_drew).trans S1 (fun _ _ h => h)
  have S2 : Same (fun k => k = wa.heap.size) w1 ((((w1.setCell ⟨wa.heap.size, 0, none⟩ (.int .i64 hd.region)).setCell ⟨wa.heap.size, 1, none⟩ (.int .i64 hd.gen)).setCell ⟨wa.heap.size, 2, none⟩ (.int .i64 hd.off)).setCell ⟨wa.heap.size, 3, none⟩ (.int .i64 hd.len)) :=
    same_cells (fun k => k = wa.heap.size) w1 wa.heap.size 0 rfl _ _ _ _
  refine ⟨wa.heap.size, T1, L1, rfl, rfl, S1'.trans S2 (fun k hk e => by omega), fun k hk => X1 k (by rw [hs]; omega), ?_, Nat.le_refl _, ?_, t1, ?_, ?_, ?_, ?_, ?_⟩
  · exact R1.same S2 (fun k _ ho e => by unfold PoolOwn at ho; rw [e, t1] at ho; simp at ho) (Ext.refl _ _)
  · have := S1.size; simp; omega
  · exact ((((show Free w1 wa.heap.size from fun o => S1.free (by rw [hs]; omega) nz (by show (wa.alloc _).frozen? _ = _; simp)).setCell _ _).setCell _ _).setCell _ _).setCell _ _
  · exact cell_ne (cell_ne (cell_ne (cell_eq (z 0 _ rfl)) (by omega)) (by omega)) (by omega)
  · exact cell_ne (cell_ne (cell_eq (cell_ne (z 1 _ rfl) (by omega))) (by omega)) (by omega)
  · exact cell_ne (cell_eq (cell_ne (cell_ne (z 2 _ rfl) (by omega)) (by omega))) (by omega)
  · exact cell_eq (cell_ne (cell_ne (cell_ne (z 3 _ rfl) (by omega)) (by omega)) (by omega))

theorem cut_behind {wa w1 : World} {T T1 : Tags} {b : Nat} {hd : Hnd} {c : Int} {q : Pool} {L1 : Lay}
    (S1 : Same (PoolOwn T) wa.drew w1) (X1 : Ext T T1 wa.drew) (R1 : PoolRep w1 T1 b q L1) :
    AllocCut wa T b hd c q (.pointer (some ⟨w1.heap.size, 0, none⟩)) (.int .i64 c) (w1.alloc (.cells #[.int .i64 hd.region, .int .i64 hd.gen, .int .i64 hd.off, .int .i64 hd.len] 43)) := by
  have hs : wa.heap.size ≤ w1.heap.size := S1.size
  have z : ∀ i v, (#[.int .i64 hd.region, .int .i64 hd.gen, .int .i64 hd.off, .int .i64 hd.len] : Array Value)[i]? = some v →
      (w1.alloc (.cells #[.int .i64 hd.region, .int .i64 hd.gen, .int .i64 hd.off, .int .i64 hd.len] 43)).cell? ⟨w1.heap.size, i, none⟩ = some v := fun i v hv => by
    rw [World.cell?_alloc_new]; exact hv
  refine ⟨w1.heap.size, T1.cut w1.heap.size, L1, rfl, rfl, (((Same.refl (PoolOwn T) wa).then_drew).trans S1 (fun _ _ h => h)).then_alloc _, fun k hk => by rw [Tags.cut_lt _ (by omega)]; exact X1 k hk, ?_, hs, by simp, Tags.cut_ge _ (Nat.le_refl _), Free.of_obj (heap_alloc_new _ _), z 0 _ rfl, z 1 _ rfl, z 2 _ rfl, z 3 _ rfl⟩
  exact R1.same (S := fun _ => False) ((Same.refl _ w1).then_alloc _) (fun _ _ _ h => h) (Ext.cut T1 w1)

def put5 (w : World) (z : Nat) (v0 v1 v2 v3 v4 : Value) : World :=
  ((((w.setCell ⟨z, 0, none⟩ v0).setCell ⟨z, 1, none⟩ v1).setCell ⟨z, 2, none⟩ v2).setCell ⟨z, 3, none⟩ v3).setCell ⟨z, 4, none⟩ v4

theorem put5_cells {w : World} {z : Nat} {u0 u1 u2 u3 u4 : Value} (h0 : w.cell? ⟨z, 0, none⟩ = some u0) (h1 : w.cell? ⟨z, 1, none⟩ = some u1) (h2 : w.cell? ⟨z, 2, none⟩ = some u2) (h3 : w.cell? ⟨z, 3, none⟩ = some u3) (h4 : w.cell? ⟨z, 4, none⟩ = some u4) (v0 v1 v2 v3 v4 : Value) :
    (put5 w z v0 v1 v2 v3 v4).cell? ⟨z, 0, none⟩ = some v0 ∧ (put5 w z v0 v1 v2 v3 v4).cell? ⟨z, 1, none⟩ = some v1 ∧ (put5 w z v0 v1 v2 v3 v4).cell? ⟨z, 2, none⟩ = some v2 ∧ (put5 w z v0 v1 v2 v3 v4).cell? ⟨z, 3, none⟩ = some v3 ∧ (put5 w z v0 v1 v2 v3 v4).cell? ⟨z, 4, none⟩ = some v4 := by
  unfold put5
  refine ⟨?_, ?_, ?_, ?_, ?_⟩
  · exact cell_ne (cell_ne (cell_ne (cell_ne (cell_eq h0) (by omega)) (by omega)) (by omega)) (by omega)
  · exact cell_ne (cell_ne (cell_ne (cell_eq (cell_ne h1 (by omega))) (by omega)) (by omega)) (by omega)
  · exact cell_ne (cell_ne (cell_eq (cell_ne (cell_ne h2 (by omega)) (by omega))) (by omega)) (by omega)
  · exact cell_ne (cell_eq (cell_ne (cell_ne (cell_ne h3 (by omega)) (by omega)) (by omega))) (by omega)
  · exact cell_eq (cell_ne (cell_ne (cell_ne (cell_ne h4 (by omega)) (by omega)) (by omega)) (by omega))

theorem put5_same (S : Nat → Prop) (w : World) (z : Nat) (hz : S z) (v0 v1 v2 v3 v4 : Value) : Same S w (put5 w z v0 v1 v2 v3 v4) :=
  (same_cells S w z 0 hz v0 v1 v2 v3).then_setCell (p := ⟨z, 4, none⟩) (Or.inl hz) _

/-- Behind the statement 'n := Note{e.now, h}'. -/
def NoteCut (w : World) (n : Note) (s9 : Value) (wx : World) : Prop :=
  ∃ z, s9 = .pointer (some ⟨z, 0, none⟩) ∧ Same (fun _ => False) w wx ∧ w.heap.size ≤ z ∧ z < wx.heap.size ∧ Free wx z ∧
    wx.cell? ⟨z, 0, none⟩ = some (.int .i64 n.epoch) ∧ wx.cell? ⟨z, 1, none⟩ = some (.int .i64 n.at_.region) ∧ wx.cell? ⟨z, 2, none⟩ = some (.int .i64 n.at_.gen) ∧ wx.cell? ⟨z, 3, none⟩ = some (.int .i64 n.at_.off) ∧ wx.cell? ⟨z, 4, none⟩ = some (.int .i64 n.at_.len)

theorem note_cut (w : World) (n : Note) : NoteCut w n (.pointer (some ⟨w.heap.size, 0, none⟩)) (w.alloc (.cells n.cells 45)).drew := by
  have z : ∀ i v, n.cells[i]? = some v → (w.alloc (.cells n.cells 45)).drew.cell? ⟨w.heap.size, i, none⟩ = some v := fun i v hv => by
    show (w.alloc _).cell? _ = _
    rw [World.cell?_alloc_new]; exact hv
  refine ⟨_, rfl, ((Same.refl _ w).then_alloc _).then_drew, Nat.le_refl _, ?_, ?_, z 0 _ rfl, z 1 _ rfl, z 2 _ rfl, z 3 _ rfl, z 4 _ rfl⟩
  · show _ < (w.alloc _).heap.size; simp
  · exact fun o => by show (w.alloc _).frozen? _ = _; simp

theorem int_wf {x : Int} (h0 : -9223372036854775808 ≤ x) (h1 : x ≤ 9223372036854775807) : (Lit.int .i64 x).wf = true := by
  simp [Lit.wf, IntKind.min, IntKind.max, IntKind.signed, IntKind.bits]; omega

theorem mem_noteList {l : List Note} {n : Note} : n ∈ l ↔ (Value.agg n.cells, Value.agg #[]) ∈ noteList l := by
  constructor
  · exact fun h => List.mem_map.2 ⟨n, h, rfl⟩
  · intro h
    obtain ⟨m, hm, e1⟩ := List.mem_map.1 h
    have : m = n := note_cells_inj (congrArg Prod.fst e1)
    exact this ▸ hm

theorem MapIs.addNote {w : World} {b : Nat} {l : List Note} (h : MapIs w Try.prog 45 b (noteList l)) {n : Note} (hn : n.WF) :
    ∃ w', (Instr.mapUpdate 71 (.map (some b)) (.agg n.cells) (.agg #[])).run Try.prog w = .ok () w' ∧ MapIs w' Try.prog 45 b (noteList (Ytmnklaphcjchiaa.addNote l n)) ∧ w.grownBy w' (some b) ∧ w'.heap.size = w.heap.size := by
  obtain ⟨kl, hk⟩ := note_key hn
  by_cases hm : n ∈ l
  · obtain ⟨l1, l2, hl⟩ := List.append_of_mem (mem_noteList.1 hm)
    have h' := h
    rw [hl] at h'
    have := h'.put_old (val := .agg #[]) Try.noteKeyed Try.underlying71 hk
    rw [← hl] at this
    rw [Ytmnklaphcjchiaa.addNote, if_pos hm]
    exact this
  · have := h.put_new (val := .agg #[]) Try.noteKeyed Try.underlying71 hk (fun p hp e1 => hm (by
      obtain ⟨m, hm', e2⟩ := List.mem_map.1 hp
      have : m = n := note_cells_inj (by rw [← e1, ← e2])
      exact this ▸ hm'))
    rw [Ytmnklaphcjchiaa.addNote, if_neg hm]
    simpa [noteList] using this

theorem MapIs.drew {w : World} {P : Program} {k : TypeId} {b : Nat} {l : List (Value × Value)} (h : MapIs w P k b l) : MapIs w.drew P k b l :=
  h.same (S := fun _ => False) ((Same.refl _ w).then_drew) (fun h => h)

def hzero : Obj := .cells #[.int .i64 0, .int .i64 0, .int .i64 0, .int .i64 0] 43

set_option maxRecDepth 100000 in
set_option maxHeartbeats 1600000 in
theorem retire_x {w : World} {T : Tags} {a : Nat} {p : Pool} {e : Eps} {E : EpLay} (h : EpRep w T a p e E) (wf : EpWF p e) (hlo : e.lo ≤ e.now) (hn : e.now < 4611686018427387904) (xs : List Int) (hx0 : 1 ≤ xs.length) (hx1 : xs.length ≤ p.size) (hby : (e.era e.now).bytes < 4611686018427387904)
    (bb bc : Nat) (hd : Hnd) (c : Int) (q : Pool)
    (CA : ∀ (W : World) (L : Lay), PoolRep W T E.b p L → Calls Try.prog 26 #[.pointer (some ⟨E.b, 0, none⟩), .int .i64 ((e.era e.now).region : Int), .int .i64 (xs.length : Int), .int .i64 1] W (AllocPost W T E.b hd c q))
    (hres : (c = 5 ∧ hd = .zero ∧ q = p ∧ retired p e xs = none) ∨ (c = 0 ∧ p.allocIn (e.era e.now).region xs.length = some (hd, q)))
    (hbb : ¬ EpOwn T bb) (hbc : ∀ i, i < xs.length → w.cell? ⟨bb, i, none⟩ = some (.int .u8 (xs.getD i 0)))
    (hT : ∀ k, w.heap.size ≤ k → T k = (0, 0)) :
    Calls Try.prog 14 #[.pointer (some ⟨a, 0, none⟩), .slice (some ⟨bb, 0, none⟩) xs.length bc] w
      (RetirePost w T a p e xs) := by
  have HRES := Lib.hid hres
  have HBC := Lib.hid hbc
  have HWF := Lib.hid wf
  have h' := h.alloc (.cells #[.int .i64 0, .int .i64 0, .int .i64 0, .int .i64 0, .int .i64 0] 45)
  have C := Lib.hid (none_at a false _ h'.c5)
  have HLN := Lib.hid (fun n => (h'.drewN n).lookNow hlo hn)
  have HCA := Lib.hid CA
  have H := Lib.hid h
  have HT := Lib.hid hT
  have lta := h.lta
  have lte := h.lte e.now hlo (Nat.le_refl _)
  have c0 := h.c0
  have c1 := h.c1
  have c2 := h.c2
  have ce := h.e0 e.now hlo (Nat.le_refl _)
  have na : ¬ PoolOwn T a := by unfold PoolOwn; rw [h.taga]; simp
  have ne : ¬ PoolOwn T (E.eb e.now) := by unfold PoolOwn; rw [h.tage e.now hlo (Nat.le_refl _)]; simp
  clear h h' CA wf hT hres hbc
  go_enter Try.func14, Try.ntmps14
  go_wp2_with fail
  refine C.out.mono ?_
  rintro x w' ⟨rfl, rfl⟩
  go_wp2
  have hln := HLN.out
  go_quiet (fail)
  go_upto_region 4 with fail
  clear hln
  have R0 := (H.out.alloc (.cells #[.int .i64 0, .int .i64 0, .int .i64 0, .int .i64 0, .int .i64 0] 45)).drewN nq
  obtain ⟨wa, hwa⟩ : ∃ wa, wa = (w.alloc (.cells #[.int .i64 0, .int .i64 0, .int .i64 0, .int .i64 0, .int .i64 0] 45)).drewN nq := ⟨_, rfl⟩
  rw [← hwa] at R0
  have HWA := Lib.hid hwa
  have k0 := R0.c0
  have k1 := R0.e0 e.now hlo (Nat.le_refl _)
  have HR0 := Lib.hid R0
  rw [← HWA.out]
  clear hwa R0
  go_cut [7, 8] (AllocCut wa T E.b hd c q)
  case first =>
    have CA1 := HCA.out _ _ ((HR0.out.drewN 1).pool)
    have CA2 := HCA.out _ _ (((HR0.out.alloc hzero).drewN 1).pool)
    have hzz : wa.heap.size = w.heap.size + 1 := by rw [HWA.out]; show (w.alloc _).heap.size = _; simp
    have nz : ¬ PoolOwn T wa.heap.size := by unfold PoolOwn; rw [HT.out _ (by omega)]; simp
    have hzl : wa.heap.size < ((wa.alloc (.cells #[.int .i64 0, .int .i64 0, .int .i64 0, .int .i64 0] 43)).drew).heap.size := by show _ < (wa.alloc _).heap.size; simp
    have hzf : ∀ o, ((wa.alloc (.cells #[.int .i64 0, .int .i64 0, .int .i64 0, .int .i64 0] 43)).drew).frozen? ⟨wa.heap.size, o, none⟩ = false := fun o => by show (wa.alloc _).frozen? _ = _; simp
    have hz0 : ((wa.alloc (.cells #[.int .i64 0, .int .i64 0, .int .i64 0, .int .i64 0] 43)).drew).cell? ⟨wa.heap.size, 0, none⟩ = some (.int .i64 0) := by show (wa.alloc _).cell? _ = _; simp
    have hz1 : ((wa.alloc (.cells #[.int .i64 0, .int .i64 0, .int .i64 0, .int .i64 0] 43)).drew).cell? ⟨wa.heap.size, 1, none⟩ = some (.int .i64 0) := by show (wa.alloc _).cell? _ = _; simp
    have hz2 : ((wa.alloc (.cells #[.int .i64 0, .int .i64 0, .int .i64 0, .int .i64 0] 43)).drew).cell? ⟨wa.heap.size, 2, none⟩ = some (.int .i64 0) := by show (wa.alloc _).cell? _ = _; simp
    have hz3 : ((wa.alloc (.cells #[.int .i64 0, .int .i64 0, .int .i64 0, .int .i64 0] 43)).drew).cell? ⟨wa.heap.size, 3, none⟩ = some (.int .i64 0) := by show (wa.alloc _).cell? _ = _; simp
    have HZZ := Lib.hid hzz
    have kA0 : wa.drew.cell? ⟨a, 0, none⟩ = some (.pointer (some ⟨E.b, 0, none⟩)) := k0
    have kA1 : wa.drew.cell? ⟨E.eb e.now, 0, none⟩ = some (.int .i64 (e.era e.now).region) := k1
    have kB0 := keep_one k0 (.cells #[.int .i64 0, .int .i64 0, .int .i64 0, .int .i64 0] 43)
    have kB1 := keep_one k1 (.cells #[.int .i64 0, .int .i64 0, .int .i64 0, .int .i64 0] 43)
    have hza : a ≠ wa.heap.size := by omega
    have hze : E.eb e.now ≠ wa.heap.size := by omega
    clear hzz
    change Calls _ _ _ wa.drew _ at CA1
    change Calls _ _ _ (wa.alloc (.cells #[.int .i64 0, .int .i64 0, .int .i64 0, .int .i64 0] 43)).drew _ at CA2
    go_region_held3 (fun w' => w'.cell? ⟨a, 0, none⟩ = some (.pointer (some ⟨E.b, 0, none⟩)) ∧ w'.cell? ⟨E.eb e.now, 0, none⟩ = some (.int .i64 (e.era e.now).region))
      (with_reducible (first | exact ⟨kA0, kA1⟩ | exact ⟨kB0, kB1⟩ | exact ⟨q0, q1⟩ | exact ⟨keep_alloc q0 _, keep_alloc q1 _⟩ | exact ⟨keep_four q0 hza _ _ _ _, keep_four q1 hze _ _ _ _⟩ | fail))
      (first | ((with_reducible refine CA1.mono ?_); rintro x w1 ⟨rfl, S1, T1, L1, X1, R1⟩; have q0 := S1.cell na kA0; have q1 := S1.cell ne kA1) | ((with_reducible refine CA2.mono ?_); rintro x w1 ⟨rfl, S1, T1, L1, X1, R1⟩; have q0 := S1.cell na kB0; have q1 := S1.cell ne kB1; have y0 := S1.free (o := 0) hzl nz (hzf 0); have y1 := S1.free (o := 1) hzl nz (hzf 1); have y2 := S1.free (o := 2) hzl nz (hzf 2); have y3 := S1.free (o := 3) hzl nz (hzf 3); have z0 := S1.cell nz hz0; have z1 := S1.cell nz hz1; have z2 := S1.cell nz hz2; have z3 := S1.cell nz hz3))
    all_goals
      go_wp2_with fail
      go_meet
      first | exact cut_behind S1 X1 R1 | exact cut_before _ _ _ _ (HT.out _ (by have := HZZ.out; omega)) S1 X1 R1
  case rest =>
    obtain ⟨z1, T1, L1, rfl, rfl, S1, X1, R1, hz1, hz2, t1, fz1, cz0, cz1, cz2, cz3⟩ := hcut
    have HZ : Hid (wa.heap.size = w.heap.size + 1) := by show _ = _; rw [HWA.out]; show (w.alloc _).heap.size = _; simp
    have nz0 : ¬ PoolOwn T w.heap.size := by unfold PoolOwn; rw [HT.out _ (Nat.le_refl _)]; simp
    have tz0 : T1 w.heap.size = (0, 0) := (X1 _ (by have := HZ.out; omega)).trans (HT.out _ (Nat.le_refl _))
    have F0 : ∀ i, i < 5 → wa.cell? ⟨w.heap.size, i, none⟩ = some (.int .i64 0) := fun i hi => by
      rw [HWA.out]
      show (w.alloc _).cell? _ = _
      rw [World.cell?_alloc_new]
      match i, hi with
      | 0, _ => rfl
      | 1, _ => rfl
      | 2, _ => rfl
      | 3, _ => rfl
      | 4, _ => rfl
    have FF : ∀ o, wa.frozen? ⟨w.heap.size, o, none⟩ = false := fun o => by
      rw [HWA.out]
      show (w.alloc _).frozen? _ = _
      simp
    have g0 := S1.cell nz0 (F0 0 (by omega))
    have g1 := S1.cell nz0 (F0 1 (by omega))
    have g2 := S1.cell nz0 (F0 2 (by omega))
    have g3 := S1.cell nz0 (F0 3 (by omega))
    have g4 := S1.cell nz0 (F0 4 (by omega))
    have gf := fun o => S1.free (o := o) (by have := HZ.out; omega) nz0 (FF o)
    have HZF := Lib.hid (fun o => S1.free (o := o) (by have := HZ.out; omega) nz0 (FF o))
    have gf0 := gf 0
    have gf1 := gf 1
    have gf2 := gf 2
    have gf3 := gf 3
    have gf4 := gf 4
    have E1 := HR0.out.of_pool S1 X1 R1
    have HE1 := Lib.hid E1
    have HS1 := Lib.hid S1
    have HX1 := Lib.hid X1
    have SW : Same (EpOwn T) w wc := by
      refine Same.trans (S := EpOwn T) (S' := EpOwn T) (b := wa) ?_ S1.pool_ep (fun _ _ h => h)
      rw [HWA.out]; exact ((Same.refl _ w).then_alloc _).then_drewN _
    have HSW := Lib.hid SW
    have XW : Ext T T1 w := fun k hk => X1 k (by have := HZ.out; omega)
    have HXW := Lib.hid XW
    have hzlt : w.heap.size < wc.heap.size := by have := HZ.out; have := S1.size; omega
    have hr := HRES.out
    clear S1 X1 R1 F0 FF gf E1 SW XW
    rcases hr with ⟨hc5, hh, hqq, hret⟩ | ⟨hc0, hal⟩
    · subst hc5
      subst hqq
      have HRET := Lib.hid hret
      clear hret hh cz0 cz1 cz2 cz3 fz1
      go_wp2
      obtain ⟨p0, p1, p2, p3, p4⟩ := put5_cells g0 g1 g2 g3 g4 (.int .i64 0) (.int .i64 0) (.int .i64 0) (.int .i64 0) (.int .i64 0)
      unfold put5 at p0 p1 p2 p3 p4
      refine bodyPost_ret (v := .tuple #[.agg #[.int .i64 0, .int .i64 0, .int .i64 0, .int .i64 0, .int .i64 0], .int .i64 5]) (by simp [results, Try.results14, go_sem, p0, p1, p2, p3, p4]) rfl ?_
      unfold RetirePost
      rw [HRET.out]
      have P5 := put5_same (fun k => k = w.heap.size) wc w.heap.size rfl (.int .i64 0) (.int .i64 0) (.int .i64 0) (.int .i64 0) (.int .i64 0)
      exact ⟨rfl, HSW.out.trans P5 (fun k hk e => by omega), T1, _, HXW.out, HE1.out.same P5 (fun k _ ho e => by unfold EpOwn at ho; rw [e, tz0] at ho; simp at ho) (Ext.refl _ _)⟩
    · subst hc0
      go_wp2
      have HCZ0 := Lib.hid cz0
      have wf := HWF.out
      have hreg := wf.reg e.now hlo (Nat.le_refl _)
      have wq := wf.pool.allocIn hreg.1 hreg.2 hx1 hal
      obtain ⟨⟨s, at_, hpc⟩, hr1, hr2, hr3, hr4, hr5⟩ := Pool.allocIn_piece wf.pool hreg.1 hreg.2 hx0 hx1 hal
      have HB : ∀ i, i < xs.length → wc.drew.cell? ⟨bb, 0 + i, none⟩ = some (.int .u8 (xs.getD i 0)) := fun i hi => by
        rw [Nat.zero_add]; exact HSW.out.cell hbb (HBC.out i hi)
      have CS := Lib.hid (store_whole (HE1.out.drewN 1).pool wq hd.region hd.gen hd.off hd.len s at_ xs.length hpc bb 0 bc xs rfl HB)
      have HPC := Lib.hid hpc
      have HWQ := Lib.hid wq
      have HAL := Lib.hid hal
      have HHD := Lib.hid (And.intro hr1 (And.intro hr2 (And.intro hr3 (And.intro hr4 hr5))))
      have e0 := HE1.out.c0
      have hz64 := wf.pool.size1
      have HNW : Hid (Note.WF ⟨e.now, hd⟩) := ⟨int_wf (x := (e.now : Int)) (by omega) (by omega), int_wf (x := hd.region) (by omega) (by omega), by show (Lit.int .i64 hd.gen).wf = true; rw [hr2]; exact wf.pool.gens _ hreg.1, int_wf (x := hd.off) (by omega) (by omega), int_wf (x := hd.len) (by omega) (by omega)⟩
      clear hz64
      clear wf hreg wq hpc hr1 hr2 hr3 hr4 hr5 HB hal
      go_still_tail 6, (by kernel_rfl)
      change wpList _ _ _ _ _ wc.drew
      go_wp2_with fail
      refine CS.out.mono ?_
      rintro x w3 ⟨rfl, S3, R3⟩
      have nzP : ∀ {k}, T1 k = (0, 0) → ¬ PoolOwn T1 k := fun h1 h2 => by unfold PoolOwn at h2; rw [h1] at h2; simp at h2
      have SC3 : Same (PoolOwn T1) wc w3 := ((Same.refl _ wc).then_drew).trans S3 (fun _ _ h => h)
      have E3 := HE1.out.of_pool SC3 (Ext.refl _ _) R3
      have b0 := SC3.cell (nzP t1) cz0
      have b1 := SC3.cell (nzP t1) cz1
      have b2 := SC3.cell (nzP t1) cz2
      have b3 := SC3.cell (nzP t1) cz3
      have g0' := SC3.cell (nzP tz0) g0
      have g1' := SC3.cell (nzP tz0) g1
      have g2' := SC3.cell (nzP tz0) g2
      have g3' := SC3.cell (nzP tz0) g3
      have g4' := SC3.cell (nzP tz0) g4
      have gf0' := SC3.free hzlt (nzP tz0) gf0
      have gf1' := SC3.free hzlt (nzP tz0) gf1
      have gf2' := SC3.free hzlt (nzP tz0) gf2
      have gf3' := SC3.free hzlt (nzP tz0) gf3
      have gf4' := SC3.free hzlt (nzP tz0) gf4
      have n1 := E3.c1
      have HE3 := Lib.hid E3
      have HSC3 := Lib.hid SC3
      clear S3 R3 e0 b0 SC3 E3 cz0 cz1 cz2 cz3 fz1 g0 g1 g2 g3 g4 gf0 gf1 gf2 gf3 gf4 k0 k1
      have b0 := HSC3.out.cell (nzP t1) HCZ0.out
      go_wp2
      have lt3 := HE3.out.lta
      have ltz : z1 < w3.heap.size := Nat.lt_of_lt_of_le hz2 HSC3.out.size
      go_cut [9] (NoteCut w3 ⟨e.now, hd⟩)
      case first =>
        go_region
        all_goals
          go_wp2_with fail
          go_meet
          exact note_cut w3 ⟨e.now, hd⟩
      case rest =>
        obtain ⟨z2, rfl, S4, hz3, hz4, fz4, y0, y1, y2, y3, y4⟩ := hcut
        have E4 := HE3.out.same S4 (fun _ _ _ h => h) (Ext.refl _ _)
        have nn : ∀ _ : Nat, ¬ False := fun _ h => h
        have w0 := S4.cell (nn 0) g0'
        have w1 := S4.cell (nn 0) g1'
        have w2 := S4.cell (nn 0) g2'
        have w3' := S4.cell (nn 0) g3'
        have w4 := S4.cell (nn 0) g4'
        have hz3' : w.heap.size < w3.heap.size := Nat.lt_of_lt_of_le hzlt HSC3.out.size
        have wf0 := S4.free hz3' (nn 0) gf0'
        have wf1 := S4.free hz3' (nn 0) gf1'
        have wf2 := S4.free hz3' (nn 0) gf2'
        have wf3 := S4.free hz3' (nn 0) gf3'
        have wf4 := S4.free hz3' (nn 0) gf4'
        have m1 := E4.e1 e.now hlo (Nat.le_refl _)
        have m2 := E4.e2 e.now hlo (Nat.le_refl _)
        have HE4 := Lib.hid E4
        have HS4 := Lib.hid S4
        clear E4 S4 g0' g1' g2' g3' g4' gf0' gf1' gf2' gf3' gf4' b0 b1 b2 b3 n1
        go_wp2
        have M4 := HE4.out.notes e.now hlo (Nat.le_refl _)
        obtain ⟨w5, hrun, M5, hg5, hz5⟩ := MapIs.addNote (M4.drew) (n := ⟨e.now, hd⟩) HNW.out
        have HRUN := Lib.hid hrun
        have HM5 := Lib.hid M5
        have HG5 := Lib.hid hg5
        have tn := HE4.out.tagn e.now hlo (Nat.le_refl _)
        have te := HE4.out.tage e.now hlo (Nat.le_refl _)
        have ln := (HE3.out.notes e.now hlo (Nat.le_refl _)).lt
        have le' := HE3.out.lte e.now hlo (Nat.le_refl _)
        have ne1 : E.nb e.now ≠ E.eb e.now := tag_ne tn te (by simp)
        have ne2 : E.nb e.now ≠ w.heap.size := tag_ne tn tz0 (by simp)
        have ne3 : E.nb e.now ≠ z2 := by have h9 : E.nb e.now < w3.heap.size := ln; omega
        have ne4 : E.eb e.now ≠ w.heap.size := tag_ne te tz0 (by simp)
        have ne5 : E.eb e.now ≠ z2 := by have h9 : E.eb e.now < w3.heap.size := le'; omega
        have ne6 : z2 ≠ w.heap.size := by omega
        have kc : ∀ k o v, E.nb e.now ≠ k → wc.cell? ⟨k, o, none⟩ = some v → w5.cell? ⟨k, o, none⟩ = some v := fun k o v hk hv => hg5.cell (a := ⟨k, o, none⟩) hv (fun e1 => hk (Option.some.inj e1).symm)
        have kf : ∀ k o, k < wc.heap.size → E.nb e.now ≠ k → wc.frozen? ⟨k, o, none⟩ = false → w5.frozen? ⟨k, o, none⟩ = false := fun k o hl hk hv => (World.frozen?_of_block (hg5.block k hl (fun e1 => hk (Option.some.inj e1).symm))).trans hv
        have v2 := kc _ _ _ ne1 m2
        have vf : w5.frozen? ⟨E.eb e.now, 2, none⟩ = false := kf _ _ (HE4.out.lte e.now hlo (Nat.le_refl _)) ne1 (HE4.out.fe e.now hlo (Nat.le_refl _) 2)
        have x0 := kc _ _ _ ne2 w0
        have x1 := kc _ _ _ ne2 w1
        have x2 := kc _ _ _ ne2 w2
        have x3 := kc _ _ _ ne2 w3'
        have x4 := kc _ _ _ ne2 w4
        have hz6 : w.heap.size < wc.heap.size := Nat.lt_of_lt_of_le hz3' HS4.out.size
        have xf0 := kf _ _ hz6 ne2 wf0
        have xf1 := kf _ _ hz6 ne2 wf1
        have xf2 := kf _ _ hz6 ne2 wf2
        have xf3 := kf _ _ hz6 ne2 wf3
        have xf4 := kf _ _ hz6 ne2 wf4
        have q0 := kc _ _ _ ne3 y0
        have q1 := kc _ _ _ ne3 y1
        have q2 := kc _ _ _ ne3 y2
        have q3 := kc _ _ _ ne3 y3
        have q4 := kc _ _ _ ne3 y4
        have hwr : IntKind.i64.wrap (((e.era e.now).bytes : Int) + (xs.length : Int)) = ((e.era e.now).bytes : Int) + (xs.length : Int) := IntWalk.i64_in _ (by have := HWF.out.pool.size1; omega)
        clear hrun M5 hg5 M4 kc kf tn te ln le'
        go_still_tail 6, (by kernel_rfl)
        change wpList _ _ _ _ _ wc.drew
        refine wpList_mapUpdate_run rfl (.tmp 58) (.tmp 59) (.tmp 60) 71 rfl _ _ _ rfl rfl rfl HRUN.out ?_
        go_wp2
        have ys : ∀ o v, w5.cell? ⟨w.heap.size, o, none⟩ = some v → (w5.setCell ⟨E.eb e.now, 2, none⟩ (.int .i64 (((e.era e.now).bytes : Int) + (xs.length : Int)))).cell? ⟨w.heap.size, o, none⟩ = some v := fun o v hv => cell_ne hv (Or.inl ne4.symm)
        obtain ⟨p0, p1, p2, p3, p4⟩ := put5_cells (ys _ _ x0) (ys _ _ x1) (ys _ _ x2) (ys _ _ x3) (ys _ _ x4) (.int .i64 e.now) (.int .i64 hd.region) (.int .i64 hd.gen) (.int .i64 hd.off) (.int .i64 hd.len)
        unfold put5 at p0 p1 p2 p3 p4
        refine bodyPost_ret (v := .tuple #[.agg #[.int .i64 e.now, .int .i64 hd.region, .int .i64 hd.gen, .int .i64 hd.off, .int .i64 hd.len], .int .i64 0]) (by simp [results, Try.results14, go_sem, p0, p1, p2, p3, p4]) rfl ?_
        have hret : retired p e xs = some (⟨e.now, hd⟩, q.write s at_ xs, e.setEra e.now { e.era e.now with notes := addNote (e.era e.now).notes ⟨e.now, hd⟩, bytes := (e.era e.now).bytes + xs.length }) := by
          unfold retired
          rw [HAL.out]
          simp only [HPC.out]
        unfold RetirePost
        rw [hret]
        have P5 := put5_same (fun k => k = w.heap.size) (w5.setCell ⟨E.eb e.now, 2, none⟩ (.int .i64 (((e.era e.now).bytes : Int) + (xs.length : Int)))) w.heap.size rfl (.int .i64 e.now) (.int .i64 hd.region) (.int .i64 hd.gen) (.int .i64 hd.off) (.int .i64 hd.len)
        have ow : ∀ k, k < w.heap.size → EpOwn T1 k → EpOwn T k := fun k hk h1 => by unfold EpOwn at h1 ⊢; rw [HXW.out k hk] at h1; exact h1
        have e10 : EpOwn T1 (E.nb e.now) := by unfold EpOwn; rw [HE4.out.tagn e.now hlo (Nat.le_refl _)]; simp
        have e9 : EpOwn T1 (E.eb e.now) := by unfold EpOwn; rw [HE4.out.tage e.now hlo (Nat.le_refl _)]; simp
        have SA : Same (EpOwn T1) wc (w5.setCell ⟨E.eb e.now, 2, none⟩ (.int .i64 (((e.era e.now).bytes : Int) + (xs.length : Int)))) :=
          ((((Same.refl (EpOwn T1) wc).then_drew).trans ((Same.refl (EpOwn T1) wc.drew).then_grown HG5.out (fun k hk => Or.inl ((Option.some.inj hk) ▸ e10))) (fun _ _ h => h))).then_setCell (Or.inl e9) _
        have SB : Same (EpOwn T) w (w5.setCell ⟨E.eb e.now, 2, none⟩ (.int .i64 (((e.era e.now).bytes : Int) + (xs.length : Int)))) :=
          ((HSW.out.trans HSC3.out.pool_ep (fun k hk h => ow k hk h)).trans HS4.out (fun k _ h => h.elim)).trans SA (fun k hk h => ow k hk h)
        have R5 := (HE4.out.drewN 1).setEra hlo (Nat.le_refl _) _ ((e.era e.now).bytes + xs.length) HG5.out HM5.out
        rw [Int.natCast_add] at R5
        have R6 := R5.same P5 (fun k _ ho e => by unfold EpOwn at ho; rw [e, tz0] at ho; simp at ho) (Ext.refl _ _)
        exact ⟨rfl, SB.trans P5 (fun k hk e => by omega), T1, _, HXW.out, R6⟩

end Go.Proofs.Ytmnklaphcjchiaa
