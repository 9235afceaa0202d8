/-
  Walks of epoch: Retire, of any bytes; Load.
-/
import Derived.Test.YtmnklaphcjchiaaEpW10
namespace Go.Proofs.Ytmnklaphcjchiaa
open Go.RowKit
open Go.Maps (Keyed int_keyed keyOf_int_mk)

theorem retire_any {w : World} {T : Tags} {a : Nat} {p : Pool} {e : Eps} {E : EpLay} (h : EpRep w T a p e E) (wf : EpWF p e) (hlo : e.lo ≤ e.now) (hn : e.now < 4611686018427387904) (xs : List Int) (hx0 : 1 ≤ xs.length) (hx1 : xs.length ≤ p.size) (hby : (e.era e.now).bytes < 4611686018427387904)
    (bb bc : Nat) (hbb : ¬ EpOwn T bb) (hbc : ∀ i, i < xs.length → w.cell? ⟨bb, i, none⟩ = some (.int .u8 (xs.getD i 0))) :
    Calls Try.prog 14 #[.pointer (some ⟨a, 0, none⟩), .slice (some ⟨bb, 0, none⟩) xs.length bc] w (RetirePost w T a p e xs) := by
  have hreg := wf.reg e.now hlo (Nat.le_refl _)
  have hbl : bb < w.heap.size := World.block_lt_of_cell? _ _ (hbc 0 hx0)
  have hbb' : ¬ EpOwn (T.cut w.heap.size) bb := by unfold EpOwn at hbb ⊢; rw [Tags.cut_lt _ hbl]; exact hbb
  have up : ∀ v q e' x w', EpPost w (T.cut w.heap.size) a v q e' x w' → EpPost w T a v q e' x w' := by
    rintro v q e' x w' ⟨hx, hS, T', E', hX, hR⟩
    exact ⟨hx, hS.mono (fun k hk => by unfold EpOwn; rw [Tags.cut_lt _ hk]; exact id), T', E', hX.of_cut, hR⟩
  have fin : ∀ x w', RetirePost w (T.cut w.heap.size) a p e xs x w' → RetirePost w T a p e xs x w' := fun x w' h1 => by
    unfold RetirePost at h1 ⊢
    cases hr : retired p e xs with
    | none => rw [hr] at h1; exact up _ _ _ _ _ h1
    | some z => rw [hr] at h1; exact up _ _ _ _ _ h1
  have hT : ∀ k, w.heap.size ≤ k → T.cut w.heap.size k = (0, 0) := fun k hk => Tags.cut_ge _ hk
  cases ha : p.allocIn (e.era e.now).region xs.length with
  | none =>
    refine (retire_x h.cut wf hlo hn xs hx0 hx1 hby bb bc .zero 5 p (fun W L hL => ?_) (Or.inl ⟨rfl, rfl, rfl, by simp [retired, ha]⟩) hbb' hbc hT).mono fin
    have := alloc_any hL wf.pool (e.era e.now).region xs.length hreg.1 hreg.2 hx0 hx1
    rw [ha] at this
    exact this
  | some z =>
    obtain ⟨hd, q⟩ := z
    refine (retire_x h.cut wf hlo hn xs hx0 hx1 hby bb bc hd 0 q (fun W L hL => ?_) (Or.inr ⟨rfl, ha⟩) hbb' hbc hT).mono fin
    have := alloc_any hL wf.pool (e.era e.now).region xs.length hreg.1 hreg.2 hx0 hx1
    rw [ha] at this
    exact this

/-- What Load answers. -/
def loaded (p : Pool) (e : Eps) (n : Note) : Except Int (List Int) :=
  if (e.lo : Int) ≤ n.epoch ∧ n.epoch ≤ e.now then
    if n ∈ (e.era n.epoch.toNat).notes then
      match p.piece n.at_ with
      | .ok (s, at_, k) => .ok (p.read s at_ k)
      | .error c => .error c
    else .error 1
  else .error 3

def ELoadPost (w : World) (p : Pool) (e : Eps) (n : Note) (x : Ending) (w' : World) : Prop :=
  Below w.heap.size w w' ∧ match loaded p e n with
  | .ok xs => ∃ v, x = .returned (.tuple #[v, .int .i64 0]) ∧ w'.ownsRow w.heap.size 5 1 v xs.length (xs.map (Value.int .u8))
  | .error c => x = .returned (.tuple #[.slice none 0 0, .int .i64 c])

theorem Try.zeroEra (w : World) : (zeroValue 70).run Try.prog w = .ok (.pointer none) w := by kernel_rfl

set_option maxRecDepth 100000 in
set_option maxHeartbeats 400000 in
theorem eload_stale {w : World} {T : Tags} {a : Nat} {p : Pool} {e : Eps} {E : EpLay} (h : EpRep w T a p e E) (ep r g off len : Int) (hn : (Note.mk ep ⟨r, g, off, len⟩).WF) (hs : ¬ ((e.lo : Int) ≤ ep ∧ ep ≤ e.now)) :
    Calls Try.prog 15 #[.pointer (some ⟨a, 0, none⟩), .agg #[.int .i64 ep, .int .i64 r, .int .i64 g, .int .i64 off, .int .i64 len]] w (ELoadPost w p e ⟨ep, ⟨r, g, off, len⟩⟩) := by
  have h' := h.alloc (.cells #[.int .i64 ep, .int .i64 r, .int .i64 g, .int .i64 off, .int .i64 len] 45)
  have C := Lib.hid (none_at a false _ h'.c5)
  have hln : ∀ n, (Instr.lookup 65 (.map (some E.lm)) (.int .i64 ep) true).run Try.prog ((w.alloc (.cells #[.int .i64 ep, .int .i64 r, .int .i64 g, .int .i64 off, .int .i64 len] 45)).drewN n) = .ok (.tuple #[.pointer none, .bool false]) ((w.alloc (.cells #[.int .i64 ep, .int .i64 r, .int .i64 g, .int .i64 off, .int .i64 len] 45)).drewN n) := fun n => by
    have := (h'.drewN n).live.look_none (t := 65) (e := 70) (key := .int .i64 ep) Try.intKeyed Try.underlying65 (Try.zeroEra _) (keyOf_int_mk (q := .i64) Try.underlying3 hn.e) (by
      intro x hx e1
      obtain ⟨k, hk, rfl⟩ := List.mem_map.1 hx
      simp only [Value.int.injEq, true_and] at e1
      have := List.mem_range'_1.1 hk
      simp only [Eps.cnt] at this
      omega) true
    simpa using this
  have HLN := Lib.hid hln
  have lta := h.lta
  have c2 := h.c2
  clear h h' hln
  go_enter Try.func15, Try.ntmps15
  go_wp2_with fail
  refine C.out.mono ?_
  rintro x w' ⟨rfl, rfl⟩
  go_wp2
  have hln := HLN.out
  go_quiet (fail)
  clear hln
  go_wp2
  go_ret2
  unfold ELoadPost loaded
  rw [if_neg hs]
  exact ⟨below_drewN ((Below.refl _ _).alloc (Nat.le_refl _) _) _, rfl⟩

theorem EpRep.drew' {w : World} {T : Tags} {a : Nat} {p : Pool} {e : Eps} {E : EpLay} (h : EpRep w T a p e E) : EpRep w.drew T a p e E := h.drewN 1

theorem Try.zeroStruct (w : World) : (zeroValue 77).run Try.prog w = .ok (.agg #[]) w := by kernel_rfl

theorem noted_look {w : World} {T : Tags} {a : Nat} {p : Pool} {e : Eps} {E : EpLay} (h : EpRep w T a p e E) {k : Nat} {r g off len : Int} (hk0 : e.lo ≤ k) (hk1 : k ≤ e.now) (hn : (Note.mk k ⟨r, g, off, len⟩).WF) :
    (Instr.lookup 71 (.map (some (E.nb k))) (.agg #[.int .i64 k, .int .i64 r, .int .i64 g, .int .i64 off, .int .i64 len]) true).run Try.prog w = .ok (.tuple #[.agg #[], .bool (decide (Note.mk k ⟨r, g, off, len⟩ ∈ (e.era k).notes))]) w := by
  obtain ⟨kl, hkl⟩ := note_key hn
  by_cases hm : Note.mk k ⟨r, g, off, len⟩ ∈ (e.era k).notes
  · have := (h.notes k hk0 hk1).look_some (t := 71) (e := 77) Try.noteKeyed Try.underlying71 hkl (mem_noteList.1 hm) true
    simp only [hm, decide_true]
    simpa [Note.cells] using this
  · have := (h.notes k hk0 hk1).look_none (t := 71) (e := 77) Try.noteKeyed Try.underlying71 (Try.zeroStruct w) hkl (fun x hx e1 => hm (by
      obtain ⟨m, hm', e2⟩ := List.mem_map.1 hx
      have : m = Note.mk k ⟨r, g, off, len⟩ := note_cells_inj (by rw [← e1, ← e2])
      exact this ▸ hm')) true
    simp only [hm, decide_false]
    simpa [Note.cells] using this

theorem below_cell {w w' : World} (h : Below w.heap.size w w') {k o : Nat} {v : Value} (hc : w.cell? ⟨k, o, none⟩ = some v) : w'.cell? ⟨k, o, none⟩ = some v := by
  rw [h.cell (p := ⟨k, o, none⟩) (World.block_lt_of_cell? _ _ hc)]; exact hc

def LoadCut (w : World) (p : Pool) (h : Hnd) (s4 s5 : Value) (wx : World) : Prop := LoadPost w p h (.returned (.tuple #[s4, s5])) wx

theorem load_two {P : Program} {f : Nat} {args : Array Value} {w : World} {p : Pool} {h : Hnd} (C : Calls P f args w (LoadPost w p h)) :
    Calls P f args w (fun x w' => ∃ v c, x = .returned (.tuple #[v, .int .i64 c]) ∧ LoadPost w p h (.returned (.tuple #[v, .int .i64 c])) w') := C.mono (fun x w' h1 => by
  have h2 := h1
  unfold LoadPost at h1
  cases hp : p.piece h with
  | ok z =>
    obtain ⟨s, a, n⟩ := z
    rw [hp] at h1
    obtain ⟨_, v, rfl, _⟩ := h1
    exact ⟨v, 0, rfl, h2⟩
  | error c =>
    rw [hp] at h1
    obtain ⟨_, rfl⟩ := h1
    exact ⟨_, c, rfl, h2⟩)

/-- Behind '_, ok := x.notes[n]'. -/
def NotedCut (w : World) (b : Bool) (s9 : Value) (wx : World) : Prop := s9 = .bool b ∧ Below w.heap.size w wx

set_option maxRecDepth 100000 in
set_option maxHeartbeats 1600000 in
theorem eload_there {w : World} {T : Tags} {a : Nat} {p : Pool} {e : Eps} {E : EpLay} (h : EpRep w T a p e E) (wf : EpWF p e) (k : Nat) (r g off len : Int) (hn : (Note.mk k ⟨r, g, off, len⟩).WF) (hk0 : e.lo ≤ k) (hk1 : k ≤ e.now) :
    Calls Try.prog 15 #[.pointer (some ⟨a, 0, none⟩), .agg #[.int .i64 k, .int .i64 r, .int .i64 g, .int .i64 off, .int .i64 len]] w (ELoadPost w p e ⟨k, ⟨r, g, off, len⟩⟩) := by
  have h' := h.alloc (.cells #[.int .i64 k, .int .i64 r, .int .i64 g, .int .i64 off, .int .i64 len] 45)
  have C := Lib.hid (none_at a false _ h'.c5)
  have hln : ∀ n, (Instr.lookup 65 (.map (some E.lm)) (.int .i64 (k : Int)) true).run Try.prog ((w.alloc (.cells #[.int .i64 k, .int .i64 r, .int .i64 g, .int .i64 off, .int .i64 len] 45)).drewN n) = .ok (.tuple #[.pointer (some ⟨E.eb k, 0, none⟩), .bool true]) ((w.alloc (.cells #[.int .i64 k, .int .i64 r, .int .i64 g, .int .i64 off, .int .i64 len] 45)).drewN n) := fun n => by
    have := (h'.drewN n).live.look_some (t := 65) (e := 70) (v := .pointer (some ⟨E.eb k, 0, none⟩)) Try.intKeyed Try.underlying65 (keyOf_int_mk (q := .i64) Try.underlying3 hn.e)
      (List.mem_map.2 ⟨k, List.mem_range'_1.2 ⟨hk0, by simp only [Eps.cnt]; omega⟩, rfl⟩) true
    simpa using this
  have HLN := Lib.hid hln
  have H := Lib.hid h'
  have HWF := Lib.hid wf
  have HN := Lib.hid hn
  have lta := h.lta
  have c2 := h.c2
  have ce := h.e1 k hk0 hk1
  have lte := h.lte k hk0 hk1
  clear h h' hln wf hn
  go_enter Try.func15, Try.ntmps15
  go_wp2_with fail
  refine C.out.mono ?_
  rintro x w' ⟨rfl, rfl⟩
  go_wp2
  have hln := HLN.out
  go_quiet (fail)
  clear hln
  go_wp2
  have R0 := H.out.drewN nq
  obtain ⟨W, hW⟩ : ∃ W, W = (w.alloc (.cells #[.int .i64 k, .int .i64 r, .int .i64 g, .int .i64 off, .int .i64 len] 45)).drewN nq := ⟨_, rfl⟩
  rw [← hW] at R0
  have HR0 := Lib.hid R0
  have HW := Lib.hid hW
  have f0 : ∀ i v, (#[.int .i64 k, .int .i64 r, .int .i64 g, .int .i64 off, .int .i64 len] : Array Value)[i]? = some v → W.cell? ⟨w.heap.size, i, none⟩ = some v := fun i v hv => by
    rw [hW]
    show (w.alloc _).cell? _ = _
    rw [World.cell?_alloc_new]; exact hv
  have hWz : w.heap.size < W.heap.size := by rw [hW]; show _ < (w.alloc _).heap.size; simp
  have i0 := f0 0 _ rfl
  have i1 := f0 1 _ rfl
  have i2 := f0 2 _ rfl
  have i3 := f0 3 _ rfl
  have i4 := f0 4 _ rfl
  have ce := R0.e1 k hk0 hk1
  have lte := R0.lte k hk0 hk1
  have BW : Hid (Below w.heap.size w W) := by show Below _ _ _; rw [hW]; exact below_drewN ((Below.refl _ _).alloc (Nat.le_refl _) _) _
  rw [← HW.out]
  have l1 := noted_look R0.drew' hk0 hk1 HN.out
  have l2 := noted_look (R0.alloc (.cells #[] 77)).drew' hk0 hk1 HN.out
  obtain ⟨b, hb⟩ : ∃ b, b = decide (Note.mk k ⟨r, g, off, len⟩ ∈ (e.era k).notes) := ⟨_, rfl⟩
  rw [← hb] at l1 l2
  have HB := Lib.hid hb
  clear hW R0 f0 hb
  go_cut [9] (NotedCut W b)
  case first =>
    go_region
    all_goals
      go_wp2_with fail
      go_meet
      exact ⟨rfl, (((Below.refl _ W).alloc (Nat.le_refl _) _).drew)⟩
  case rest =>
    clear l1 l2
    obtain ⟨rfl, hB⟩ := hcut
    have HBB := Lib.hid hB
    have j0 := below_cell hB i0
    have j1 := below_cell hB i1
    have j2 := below_cell hB i2
    have j3 := below_cell hB i3
    have j4 := below_cell hB i4
    have R1 := HR0.out.below hB
    have n0 := R1.c0
    have HR1 := Lib.hid R1
    have CL := Lib.hid (load_any R1.drew'.pool HWF.out.pool r g off len)
    clear i0 i1 i2 i3 i4 R1 hB ce lte
    cases b
    · go_wp2
      go_ret2
      have hb := of_decide_eq_false HB.out.symm
      unfold ELoadPost loaded
      rw [if_pos ⟨by simp only []; omega, by simp only []; omega⟩]
      simp only [Int.toNat_natCast]
      rw [if_neg hb]
      exact ⟨BW.out.trans (HBB.out.mono (by omega)), rfl⟩
    · have hb := of_decide_eq_true HB.out.symm
      have HM := Lib.hid hb
      clear hb
      go_wp2
      have HWZ : Hid (w.heap.size ≤ wc.drew.heap.size) := Nat.le_trans (Nat.le_of_lt hWz) HBB.out.size
      have CL1 := load_two CL.out
      go_cut [4, 5] (LoadCut wc.drew p ⟨r, g, off, len⟩)
      case first =>
        change Calls _ _ _ wc.drew _ at CL1
        have d0 : wc.drew.cell? ⟨a, 0, none⟩ = some (.pointer (some ⟨E.b, 0, none⟩)) := n0
        have d1 : wc.drew.cell? ⟨w.heap.size, 1, none⟩ = some (.int .i64 r) := j1
        have d2 : wc.drew.cell? ⟨w.heap.size, 2, none⟩ = some (.int .i64 g) := j2
        have d3 : wc.drew.cell? ⟨w.heap.size, 3, none⟩ = some (.int .i64 off) := j3
        have d4 : wc.drew.cell? ⟨w.heap.size, 4, none⟩ = some (.int .i64 len) := j4
        go_region_held3 (fun w' => w'.cell? ⟨a, 0, none⟩ = some (.pointer (some ⟨E.b, 0, none⟩)) ∧ w'.cell? ⟨w.heap.size, 1, none⟩ = some (.int .i64 r) ∧ w'.cell? ⟨w.heap.size, 2, none⟩ = some (.int .i64 g) ∧ w'.cell? ⟨w.heap.size, 3, none⟩ = some (.int .i64 off) ∧ w'.cell? ⟨w.heap.size, 4, none⟩ = some (.int .i64 len))
          (with_reducible (first | exact ⟨d0, d1, d2, d3, d4⟩ | exact ⟨q0, q1, q2, q3, q4⟩ | fail))
          (first | ((with_reducible refine CL1.mono ?_); rintro x w1 ⟨v, c, rfl, hL⟩; have hb := hL.1; have q0 := below_cell hb d0; have q1 := below_cell hb d1; have q2 := below_cell hb d2; have q3 := below_cell hb d3; have q4 := below_cell hb d4))
        all_goals
          go_wp2_with fail
          go_meet
          exact hL
      case rest =>
        have HL := Lib.hid hcut
        clear hcut CL1
        go_wp2
        go_ret2
        have hL := HL.out
        unfold LoadCut LoadPost at hL
        have hb := HM.out
        unfold ELoadPost loaded
        rw [if_pos ⟨by simp only []; omega, by simp only []; omega⟩]
        simp only [Int.toNat_natCast]
        rw [if_pos hb]
        cases hp : p.piece ⟨r, g, off, len⟩ with
        | ok x =>
          obtain ⟨s, at_, n⟩ := x
          rw [hp] at hL
          obtain ⟨hB3, v, hv, ho, -⟩ := hL
          simp only [Ending.returned.injEq, Value.tuple.injEq, Array.mk.injEq, List.cons.injEq, and_true] at hv
          obtain ⟨rfl, rfl⟩ := hv
          have hlen : (p.read s at_ n).length = n := by simp [Pool.read]
          have hwz := HWZ.out
          refine ⟨((BW.out.trans (HBB.out.mono (Nat.le_of_lt hWz))).drew).trans (hB3.mono hwz), _, rfl, ?_⟩
          simp only [hlen]
          refine ⟨ho.1, ho.2.imp id ?_⟩
          rintro ⟨g', cap, cur, h1, h2, rest⟩
          exact ⟨g', cap, cur, h1, Nat.le_trans hwz h2, rest⟩
        | error c =>
          rw [hp] at hL
          obtain ⟨hB3, hv⟩ := hL
          simp only [Ending.returned.injEq, Value.tuple.injEq, Array.mk.injEq, List.cons.injEq, and_true] at hv
          obtain ⟨rfl, rfl⟩ := hv
          have hwz := HWZ.out
          exact ⟨((BW.out.trans (HBB.out.mono (Nat.le_of_lt hWz))).drew).trans (hB3.mono hwz), rfl⟩

theorem eload_any {w : World} {T : Tags} {a : Nat} {p : Pool} {e : Eps} {E : EpLay} (h : EpRep w T a p e E) (wf : EpWF p e) (ep r g off len : Int) (hn : (Note.mk ep ⟨r, g, off, len⟩).WF) :
    Calls Try.prog 15 #[.pointer (some ⟨a, 0, none⟩), .agg #[.int .i64 ep, .int .i64 r, .int .i64 g, .int .i64 off, .int .i64 len]] w (ELoadPost w p e ⟨ep, ⟨r, g, off, len⟩⟩) := by
  by_cases hs : (e.lo : Int) ≤ ep ∧ ep ≤ e.now
  · obtain ⟨k, rfl⟩ : ∃ k : Nat, ep = (k : Int) := ⟨ep.toNat, by omega⟩
    exact eload_there h wf k r g off len hn (by omega) (by omega)
  · exact eload_stale h ep r g off len hn hs

end Go.Proofs.Ytmnklaphcjchiaa
