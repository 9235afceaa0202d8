/-
  EpochFrees: the law's own rows in memory, and a contract for each of its calls.
-/
import Derived.Test.YtmnklaphcjchiaaFreeP
namespace Go.Proofs.Ytmnklaphcjchiaa
open Go.RowKit

structure FreeMem (w0 : World) (a b gb : Nat) (vn : Value) (w : World) (T : Tags) (p : Pool) (e : Eps) (D : List Bool) (N : List Note) (B : Nat) : Prop where
  since : Since w0 w T
  sta : Sta w T a b p e B
  d : Mine w0.heap.size w T 4 1 (.slice (some ⟨gb, 0, none⟩) 200 200) 200 (D.map Value.bool)
  n : Mine w0.heap.size w T 45 5 vn N.length (noteCells N)

def FreeMid (w0 : World) (a b gb i : Nat) (x vn : Value) (w : World) : Prop :=
  ∃ (n : Nat) (T : Tags) (p : Pool) (e : Eps) (D : List Bool) (N : List Note) (B : Nat), x = .int .i64 n ∧ FreeMem w0 a b gb vn w T p e D N B ∧ B ≤ 201 * i ∧ FreeInv p e n 0 D N i

section
variable {w0 : World} {a b gb i n c : Nat} {vn : Value} {w w' : World} {T T' : Tags} {p q : Pool} {e e' : Eps} {D : List Bool} {N : List Note} {B B' : Nat}

theorem FreeMem.step (h : FreeMem w0 a b gb vn w T p e D N B) (hs : Same (EpOwn T) w w') (hX : Ext T T' w) (hT : Sta w' T' a b q e' B') : FreeMem w0 a b gb vn w' T' q e' D N B' :=
  ⟨h.since.step hs hX, hT, h.d.same hs hX, h.n.same hs hX⟩

theorem FreeMem.below (h : FreeMem w0 a b gb vn w T p e D N B) (hb : Below w.heap.size w w') : FreeMem w0 a b gb vn w' T p e D N B :=
  ⟨h.since.next hb, h.sta.below hb, h.d.below hb, h.n.below hb⟩

theorem FreeMem.alloc (h : FreeMem w0 a b gb vn w T p e D N B) (o : Obj) : FreeMem w0 a b gb vn (w.alloc o) T p e D N B := h.below ((Below.refl _ _).alloc (Nat.le_refl _) o)

theorem FreeMem.drew (h : FreeMem w0 a b gb vn w T p e D N B) : FreeMem w0 a b gb vn w.drew T p e D N B := h.below (Below.refl _ _).drew

theorem FreeMem.drewN (h : FreeMem w0 a b gb vn w T p e D N B) (k : Nat) : FreeMem w0 a b gb vn (w.drewN k) T p e D N B := h.below (below_drewN (Below.refl _ _) k)

theorem FreeMem.post {v : Value} (h : FreeMem w0 a b gb vn w T p e D N B) {x : Ending} (hp : StaPost w T a b v q e' B' x w') : x = .returned v ∧ ∃ T', FreeMem w0 a b gb vn w' T' q e' D N B' := by
  obtain ⟨hx, hs, T', hX, hT⟩ := hp
  exact ⟨hx, T', h.step hs hX hT⟩

theorem FreeMem.dSet (h : FreeMem w0 a b gb vn w T p e D N B) (k : Nat) (v : Bool) : FreeMem w0 a b gb vn (w.setCell ⟨gb, k, none⟩ (.bool v)) T p e (D.set k v) N B := by
  obtain ⟨r1, r2⟩ := h.d.own.stored k (.bool v)
  have r3 : w.grownBy (w.setCell ⟨gb, k, none⟩ (.bool v)) (Value.slice (some ⟨gb, 0, none⟩) 200 200).ownBlock := r2
  exact ⟨h.d.since h.since r3, h.d.sta h.sta r3, ⟨by rw [List.map_set]; exact r1, h.d.tag⟩, h.n.grown h.d.own (by decide) r3⟩

theorem FreeMem.nAppend {vn' : Value} {m : Note} (h : FreeMem w0 a b gb vn w T p e D N B) (hg : w.grownBy w' vn.ownBlock) (ho : w'.ownsRow w0.heap.size 45 5 vn' (N.length + 1) (noteCells N ++ m.cells.toList))
    (hpl : ∀ k, vn'.ownBlock = some k → vn.ownBlock = some k ∨ w.heap.size ≤ k) : FreeMem w0 a b gb vn' w' T p e D (N ++ [m]) B where
  since := h.n.since h.since hg
  sta := h.n.sta h.sta hg
  d := h.d.grown h.n.own (by decide) hg
  n := by
    rw [List.length_append]
    unfold noteCells
    rw [List.flatMap_append]
    exact h.n.appended h.sta.fresh ho hpl

theorem FreeMem.dCell (h : FreeMem w0 a b gb vn w T p e D N B) (hd : D.length = 200) {k : Nat} (hk : k < 200) : w.cell? ⟨gb, k, none⟩ = some (.bool (D.getD k false)) ∧ w.frozen? ⟨gb, k, none⟩ = false := by
  refine ⟨?_, h.d.own.frozenAt _⟩
  rw [h.d.own.cellAt k (by omega), List.getElem?_map, List.getD, List.getElem?_eq_getElem (by omega)]
  rfl

theorem FreeMem.nCells {nb nc : Nat} (h : FreeMem w0 a b gb (.slice (some ⟨nb, 0, none⟩) N.length nc) w T p e D N B) {k : Nat} {m : Note} (hk : N[k]? = some m) :
    w.cell? ⟨nb, k * 5, none⟩ = some (.int .i64 m.epoch) ∧ w.cell? ⟨nb, k * 5 + 1, none⟩ = some (.int .i64 m.at_.region) ∧ w.cell? ⟨nb, k * 5 + 2, none⟩ = some (.int .i64 m.at_.gen) ∧ w.cell? ⟨nb, k * 5 + 3, none⟩ = some (.int .i64 m.at_.off) ∧ w.cell? ⟨nb, k * 5 + 4, none⟩ = some (.int .i64 m.at_.len) := by
  have hl := (List.getElem?_eq_some_iff.1 hk).1
  have hc := fun i (hi : i < 5) => (h.n.own.cellAt (k * 5 + i) (by omega)).trans (noteCells_get hk i hi)
  exact ⟨hc 0 (by omega), hc 1 (by omega), hc 2 (by omega), hc 3 (by omega), hc 4 (by omega)⟩

theorem free_pin (h : FreeMem w0 a b gb vn w T p e D N B) (hi : FreeInv p e n 0 D N i) (hb : i ≤ 200) :
    Calls Try.prog 10 #[.pointer (some ⟨a, 0, none⟩)] w (fun x w' => x = .returned (.tuple #[.int .i64 ((n : Int) + 1), .int .i64 0]) ∧ ∃ T', FreeMem w0 a b gb vn w' T' p (pin1 e) D N B) := by
  have h1 := h.sta.pin (by have := hi.pl; omega) (by have h1 := hi.last; have h2 := hi.len; omega)
  rw [show (e.last : Int) = (n : Int) by rw [hi.last]] at h1
  exact h1.mono fun x w' hx => h.post hx

/-- Unpin of one that was answered, there or not. -/
theorem free_unpin (h : FreeMem w0 a b gb vn w T p e D N B) (hi : FreeInv p e n 0 D N i) (hb : i ≤ 150) {k : Nat} (hk : k < n) :
    Calls Try.prog 11 #[.pointer (some ⟨a, 0, none⟩), .int .i64 ((k : Int) + 1)] w (fun x w' => ∃ (r : Int) (T' : Tags) (e' : Eps), x = .returned (.int .i64 r) ∧ FreeMem w0 a b gb vn w' T' p e' D N B ∧ FreeInv p e' n 0 (D.set (k + 1) true) N (i + 1)) := by
  have hlen := hi.len
  by_cases hm : ∃ x ∈ e.pins, x.1 = k + 1
  · obtain ⟨⟨k', t⟩, hx, hk'⟩ := hm
    simp only at hk'
    subst hk'
    obtain ⟨l1, l2, hl⟩ := List.append_of_mem hx
    refine (h.sta.unpin (k + 1) t l1 l2 hl (by omega)).mono fun x w' hx => ?_
    obtain ⟨hx, T', hM⟩ := h.post hx
    exact ⟨0, T', _, hx, hM, hi.unpin h.sta.inv.wf.pnodup (by omega) hl⟩
  · refine (h.sta.unpinMiss ((k : Int) + 1) (by omega) (by omega) (fun x hx e1 => hm ⟨x, hx, by omega⟩)).mono ?_
    rintro x w' ⟨rfl, rfl⟩
    exact ⟨7, T, e, rfl, h, hi.unpinMiss (by omega) (by omega) (by omega) (fun x hx e1 => hm ⟨x, hx, e1⟩)⟩

/-- Unpin of the next one, behind all. -/
theorem free_last (h : FreeMem w0 a b gb vn w T p e D N B) (hi : FreeInv p e n c D N i) (hb : i ≤ 150) (hc : c < n) :
    Calls Try.prog 11 #[.pointer (some ⟨a, 0, none⟩), .int .i64 ((c : Int) + 1)] w (fun x w' => ∃ (T' : Tags) (e' : Eps), x = .returned (.int .i64 (if D.getD (c + 1) false then 7 else 0)) ∧ FreeMem w0 a b gb vn w' T' p e' D N B ∧ FreeInv p e' n (c + 1) D N i) := by
  have hlen := hi.len
  have hg := hi.gone (c + 1) (by omega) (by omega)
  cases hd : D.getD (c + 1) false with
  | false =>
    rw [hd] at hg
    obtain ⟨t, ht⟩ := hg.1 rfl
    obtain ⟨l1, l2, hl⟩ := List.append_of_mem ht
    refine (h.sta.unpin (c + 1) t l1 l2 hl (by omega)).mono fun x w' hx => ?_
    obtain ⟨hx, T', hM⟩ := h.post hx
    exact ⟨T', _, hx, hM, hi.last_there h.sta.inv.wf.pnodup hl⟩
  | true =>
    rw [hd] at hg
    have hm : ∀ x ∈ e.pins, x.1 ≠ c + 1 := fun x hx e1 => by
      have := hg.2 ⟨x.2, by rw [← e1]; exact hx⟩
      cases this
    refine (h.sta.unpinMiss ((c : Int) + 1) (by omega) (by omega) (fun x hx e1 => hm x hx (by omega))).mono ?_
    rintro x w' ⟨rfl, rfl⟩
    exact ⟨T, e, rfl, h, hi.last_gone hm⟩

/-- Advance, whatever it answers. -/
theorem free_advance (h : FreeMem w0 a b gb vn w T p e D N B) (hi : FreeInv p e n c D N i) (hb : i ≤ 200) :
    Calls Try.prog 12 #[.pointer (some ⟨a, 0, none⟩)] w (fun x w' => ∃ (v : Value) (T' : Tags) (q : Pool) (e' : Eps), x = .returned v ∧ FreeMem w0 a b gb vn w' T' q e' D N B ∧ FreeInv q e' n c D N (i + 1)) := by
  have h1 := h.sta.advance (by have := hi.now; omega)
  unfold StaAdvance at h1
  cases ha : advanced p e with
  | none =>
    rw [ha] at h1
    refine h1.mono ?_
    rintro x w' ⟨rfl, rfl⟩
    exact ⟨_, T, p, e, rfl, h, hi.mono⟩
  | some z =>
    obtain ⟨q, e'⟩ := z
    rw [ha] at h1
    refine h1.mono fun x w' hx => ?_
    obtain ⟨hx, T', hM⟩ := h.post hx
    exact ⟨_, T', q, e', hx, hM, hi.advance h.sta.inv ha⟩

theorem free_collect (h : FreeMem w0 a b gb vn w T p e D N B) (hi : FreeInv p e n c D N i) (hb : i ≤ 200) :
    Calls Try.prog 13 #[.pointer (some ⟨a, 0, none⟩)] w (fun x w' => ∃ (v : Value) (T' : Tags) (q : Pool) (e' : Eps), x = .returned v ∧ FreeMem w0 a b gb vn w' T' q e' D N B ∧ FreeInv q e' n c D N (i + 1)) := by
  refine (h.sta.collect (by have := hi.now; omega)).mono fun x w' hx => ?_
  obtain ⟨hx, T', hM⟩ := h.post hx
  exact ⟨_, T', _, _, hx, hM, hi.collect h.sta.inv⟩

/-- A block of the law's own that is none of these is written. -/
theorem FreeMem.poke (h : FreeMem w0 a b gb vn w T p e D N B) {k : Nat} (hk0 : w0.heap.size ≤ k) (hko : ¬ EpOwn T k) (hg : k ≠ gb) (hn : vn.ownBlock ≠ some k) (hs : Same (fun i => i = k) w w') : FreeMem w0 a b gb vn w' T p e D N B :=
  ⟨h.since.write hs (fun i hi hik => by subst hik; omega), h.sta.same hs (fun i _ ho hik => by subst hik; exact hko ho),
    ⟨hs.owns (fun i hi hik => by subst hik; cases hi; exact hg rfl) h.d.own, h.d.tag⟩, ⟨hs.owns (fun i hi hik => by subst hik; exact hn hi) h.n.own, h.n.tag⟩⟩

/-- Retire, whatever it answers. -/
def RetAny (w0 : World) (a b gb i n : Nat) (vn : Value) (D : List Bool) (N : List Note) (B : Nat) (s : ByteArray) (w : World) (T : Tags) (x : Ending) (w' : World) : Prop :=
  ∃ (m : Note) (r : Int) (T' : Tags) (q : Pool) (e' : Eps), x = .returned (.tuple #[.agg #[.int .i64 m.epoch, .int .i64 m.at_.region, .int .i64 m.at_.gen, .int .i64 m.at_.off, .int .i64 m.at_.len], .int .i64 r]) ∧
    Same (EpOwn T) w w' ∧ Ext T T' w ∧ FreeMem w0 a b gb vn w' T' q e' D N (B + s.size) ∧ (r = 0 ∧ FreeInv q e' n 0 D (N ++ [m]) (i + 1) ∨ r = 5 ∧ FreeInv q e' n 0 D N (i + 1))

theorem free_retire (h : FreeMem w0 a b gb vn w T p e D N B) (hi : FreeInv p e n 0 D N i) (hb : i ≤ 200) (hB : B ≤ 201 * i) (s : ByteArray) (h0 : 1 ≤ s.size) (h1 : s.size ≤ 201) (bb bc : Nat) (hbb : ¬ EpOwn T bb)
    (hbc : ∀ i, i < (bytesOf s).length → w.cell? ⟨bb, i, none⟩ = some (.int .u8 ((bytesOf s).getD i 0))) :
    Calls Try.prog 14 #[.pointer (some ⟨a, 0, none⟩), .slice (some ⟨bb, 0, none⟩) s.size bc] w (RetAny w0 a b gb i n vn D N B s w T) := by
  have h2 := h.sta.retire (by have := hi.now; omega) (by omega) (bytesOf s) (by rw [bytesOf_length]; exact h0) (by rw [bytesOf_length, hi.size]; omega) bb bc hbb hbc
  rw [bytesOf_length] at h2
  refine h2.mono fun x w' hx => ?_
  unfold StaRetire at hx
  cases hr : retired p e (bytesOf s) with
  | none =>
    rw [hr] at hx
    obtain ⟨hx, hs, T', hX, hT⟩ := hx
    have hM := h.step hs hX hT
    exact ⟨⟨0, ⟨0, 0, 0, 0⟩⟩, 5, T', p, e, hx, hs, hX, ⟨hM.since, ⟨hM.sta.rep, hM.sta.inv.mono (by omega), hM.sta.fresh⟩, hM.d, hM.n⟩, .inr ⟨rfl, hi.mono⟩⟩
  | some z =>
    obtain ⟨m, q, e'⟩ := z
    rw [hr, bytesOf_length] at hx
    obtain ⟨hx, hs, T', hX, hT⟩ := hx
    exact ⟨m, 0, T', q, e', hx, hs, hX, h.step hs hX hT, .inl ⟨rfl, hi.retire h.sta.inv (by have := hi.now; omega) h0 (by rw [hi.size]; omega) hr⟩⟩

/-- The note lies in a variable of the law's. -/
def RetHere (w0 : World) (a b gb i n : Nat) (vn : Value) (D : List Bool) (N : List Note) (x r : Value) (w : World) : Prop :=
  ∃ (bD : Nat) (m : Note) (rr : Int) (T : Tags) (q : Pool) (e : Eps) (B : Nat), x = .pointer (some ⟨bD, 0, none⟩) ∧ r = .int .i64 rr ∧ FreeMem w0 a b gb vn w T q e D N B ∧ B ≤ 201 * (i + 1) ∧
    (∀ j v, m.cells[j]? = some v → w.cell? ⟨bD, j, none⟩ = some v) ∧ (rr = 0 ∧ FreeInv q e n 0 D (N ++ [m]) (i + 1) ∨ rr = 5 ∧ FreeInv q e n 0 D N (i + 1))

abbrev zeroNote : Obj := .cells #[.int .i64 0, .int .i64 0, .int .i64 0, .int .i64 0, .int .i64 0] 45

/-- What a call leaves of a block of the law's own. -/
theorem kept_zero {k : Nat} (hs : Same (EpOwn T) w w') (hko : ¬ EpOwn T k) (hk : w.heap[k]? = some zeroNote) :
    (∀ j, j < 5 → w'.cell? ⟨k, j, none⟩ = some (.int .i64 0)) ∧ Free w' k := by
  have h := hs.obj hko hk
  refine ⟨fun j hj => ?_, Free.of_obj h⟩
  unfold World.cell?
  rw [h]
  match j, hj with
  | 0, _ => rfl
  | 1, _ => rfl
  | 2, _ => rfl
  | 3, _ => rfl
  | 4, _ => rfl

end

section
variable {w0 : World} {a b gb i n c : Nat} {vn : Value} {w w' : World} {T T' : Tags} {p q : Pool} {e e' : Eps} {D : List Bool} {N : List Note} {B B' : Nat}

/-- Advance behind all: it is told the next number. -/
def EndAdv (w0 : World) (a b gb : Nat) (vn : Value) (e : Eps) (D : List Bool) (N : List Note) (B : Nat) (x : Ending) (w' : World) : Prop :=
  x = .returned (.tuple #[.int .i64 ((e.now : Int) + 1), .int .i64 0]) ∧ ∃ T' q e', FreeMem w0 a b gb vn w' T' q e' D N B ∧ q.n = 100 ∧ e'.lo = e.lo ∧ e'.now = e.now + 1 ∧ e'.pins = [] ∧ (q.lands (e'.era e'.now).region).slabs = [] ∧ (e'.era e'.now).bytes = 0

theorem end_advance (h : FreeMem w0 a b gb vn w T p e D N B) (hi : FreeInv p e n n D N i) (hb : i ≤ 200) :
    Calls Try.prog 12 #[.pointer (some ⟨a, 0, none⟩)] w (EndAdv w0 a b gb vn e D N B) := by
  have hp := hi.no_pins
  have hnow := hi.now
  obtain ⟨q, e', ha⟩ := advance_there h.sta.inv (by simp only [Eps.cnt]; have := h.sta.inv.wf.lo1; omega)
  have h1 := h.sta.advance (by omega)
  unfold StaAdvance at h1
  rw [ha] at h1
  obtain ⟨-, -, a1, a2, a3, -, -, a4, a5, a6, -⟩ := advanced_facts h.sta.inv ha
  refine h1.mono fun x w' hx => ?_
  obtain ⟨hx, T', hM⟩ := h.post hx
  exact ⟨hx, T', q, e', hM, a4.trans hi.pn, a1, a2, a3.trans hp, a5, a6⟩

/-- Collect behind it: one empty epoch is left. -/
def EndCol (w0 : World) (a b gb : Nat) (vn : Value) (e : Eps) (D : List Bool) (N : List Note) (B : Nat) (x : Ending) (w' : World) : Prop :=
  x = .returned (.tuple #[.int .i64 ((e.now - e.lo : Nat) : Int), .int .i64 0]) ∧ ∃ T' q e', FreeMem w0 a b gb vn w' T' q e' D N B ∧ q.idle = 100 ∧ e'.lo = e.now ∧ e'.now = e.now ∧ e'.kept = 0

theorem end_collect (h : FreeMem w0 a b gb vn w T p e D N B) (hn : e.now ≤ 1000) (hpn : p.n = 100) (hp : e.pins = []) (hs : (p.lands (e.era e.now).region).slabs = []) (hby : (e.era e.now).bytes = 0) :
    Calls Try.prog 13 #[.pointer (some ⟨a, 0, none⟩)] w (EndCol w0 a b gb vn e D N B) := by
  have ho : e.oldest = e.now := by unfold Eps.oldest; rw [hp]; rfl
  have hle := h.sta.inv.le
  have h1 := h.sta.collect (by omega)
  rw [ho] at h1
  obtain ⟨c1, -, c3, -, c5⟩ := collectN_facts h.sta.inv (e.now - e.lo) (by omega)
  have he := collectN_eps (e.now - e.lo) p e
  generalize hq : (collectN (e.now - e.lo) (p, e)).1 = q at *
  generalize hqe : (collectN (e.now - e.lo) (p, e)).2 = e' at *
  refine h1.mono fun x w' hx => ?_
  obtain ⟨hx, T', hM⟩ := h.post hx
  have hlo : e'.lo = e.now := by rw [he]; show e.lo + (e.now - e.lo) = e.now; omega
  have hnow : e'.now = e.now := by rw [he]
  have hera : e'.era = e.era := by rw [he]
  refine ⟨hx, T', q, e', hM, ?_, hlo, hnow, ?_⟩
  · rw [idle_all c1 (by omega) (by rw [hera, hnow, c3]; exact hs)]
    exact c5.trans hpn
  · rw [kept_one (by omega), hera, hnow]
    exact hby

theorem end_stale (h : FreeMem w0 a b gb vn w T p e D N B) {m : Note} (hm : m.WF) (hlt : m.epoch < e.lo) :
    Calls Try.prog 15 #[.pointer (some ⟨a, 0, none⟩), .agg #[.int .i64 m.epoch, .int .i64 m.at_.region, .int .i64 m.at_.gen, .int .i64 m.at_.off, .int .i64 m.at_.len]] w
      (fun x w' => x = .returned (.tuple #[.slice none 0 0, .int .i64 3]) ∧ Below w.heap.size w w') := by
  refine (h.sta.load m.epoch m.at_.region m.at_.gen m.at_.off m.at_.len hm).mono fun x w' hx => ?_
  unfold ELoadPost at hx
  obtain ⟨h1, h2⟩ := hx
  have hl : loaded p e ⟨m.epoch, ⟨m.at_.region, m.at_.gen, m.at_.off, m.at_.len⟩⟩ = .error 3 := by
    unfold loaded
    rw [if_neg (by simp only; omega)]
  rw [hl] at h2
  exact ⟨h2, h1⟩

/-- Closed: what is left. -/
structure Over (w0 : World) (a b : Nat) (w : World) : Prop where
  since : Below w0.heap.size w0 w
  over : w.cell? ⟨a, 5, none⟩ = some (.bool true)
  pool : ∃ T q L, PoolRep w T b q L ∧ (∀ k, k < w0.heap.size → T k = (0, 0)) ∧ ∃ q', q.make = some (0, q')

theorem end_close (h : FreeMem w0 a b gb vn w T p e D N B) (hn : e.now ≤ 1000) (hlo : e.lo = e.now) :
    Calls Try.prog 22 #[.pointer (some ⟨a, 0, none⟩)] w (fun x w' => x = .returned (.int .i64 0) ∧ Over w0 a b w') := by
  obtain ⟨E, h1, h2⟩ := h.sta.rep
  refine (close_any h1 h.sta.inv.wf (by omega) (by omega)).mono fun x w' hx => ?_
  obtain ⟨hx, hS, T', L', hX, hR, hc⟩ := hx
  have hs := h.since.step hS hX
  rw [h2] at hR
  exact ⟨hx, hs.below, hc, T', _, L', hR, hs.none, make_first (close_lands h.sta.inv hlo)⟩

theorem end_make (h : Over w0 a b w) :
    Calls Try.prog 23 #[.pointer (some ⟨b, 0, none⟩)] w (fun x w' => x = .returned (.tuple #[.int .i64 0, .int .i64 0]) ∧ Below w0.heap.size w0 w') := by
  obtain ⟨T, q, L, hR, hT, q', hm⟩ := h.pool
  refine (make_any hR).mono fun x w' hx => ?_
  unfold MakePost at hx
  rw [hm] at hx
  obtain ⟨hx, hS, -⟩ := hx
  exact ⟨hx, h.since.trans (hS.below h.since.size (fun k hk ho => by unfold PoolOwn at ho; rw [hT k hk] at ho; simp at ho))⟩

end

/-- Five cells of a block. -/
abbrev poke5 (w : World) (k : Nat) (u0 u1 u2 u3 u4 : Value) : World :=
  ((((w.setCell ⟨k, 0, none⟩ u0).setCell ⟨k, 1, none⟩ u1).setCell ⟨k, 2, none⟩ u2).setCell ⟨k, 3, none⟩ u3).setCell ⟨k, 4, none⟩ u4

theorem poke5_other {w : World} {k b o : Nat} {v : Value} (h : w.cell? ⟨b, o, none⟩ = some v) (hne : b ≠ k) (u0 u1 u2 u3 u4 : Value) : (poke5 w k u0 u1 u2 u3 u4).cell? ⟨b, o, none⟩ = some v :=
  cell_ne (cell_ne (cell_ne (cell_ne (cell_ne h (.inl hne)) (.inl hne)) (.inl hne)) (.inl hne)) (.inl hne)

theorem poke5_same (w : World) (k : Nat) (u0 u1 u2 u3 u4 : Value) : Same (fun i => i = k) w (poke5 w k u0 u1 u2 u3 u4) :=
  (((((Same.refl (fun i => i = k) w).then_setCell (p := ⟨k, 0, none⟩) (.inl rfl) _).then_setCell (p := ⟨k, 1, none⟩) (.inl rfl) _).then_setCell (p := ⟨k, 2, none⟩) (.inl rfl) _).then_setCell (p := ⟨k, 3, none⟩) (.inl rfl) _).then_setCell (p := ⟨k, 4, none⟩) (.inl rfl) _

theorem poke5_cells {w : World} {k : Nat} (h : ∀ j, j < 5 → w.cell? ⟨k, j, none⟩ = some (.int .i64 0)) (m : Note) :
    ∀ j v, m.cells[j]? = some v → (poke5 w k (.int .i64 m.epoch) (.int .i64 m.at_.region) (.int .i64 m.at_.gen) (.int .i64 m.at_.off) (.int .i64 m.at_.len)).cell? ⟨k, j, none⟩ = some v := by
  intro j v hj
  have hlt : j < 5 := (Array.getElem?_eq_some_iff.1 hj).1
  match j, hlt with
  | 0, _ =>
    cases hj
    exact cell_ne (cell_ne (cell_ne (cell_ne (cell_eq (h 0 (by omega))) (.inr (by omega))) (.inr (by omega))) (.inr (by omega))) (.inr (by omega))
  | 1, _ =>
    cases hj
    exact cell_ne (cell_ne (cell_ne (cell_eq (cell_ne (h 1 (by omega)) (.inr (by omega)))) (.inr (by omega))) (.inr (by omega))) (.inr (by omega))
  | 2, _ =>
    cases hj
    exact cell_ne (cell_ne (cell_eq (cell_ne (cell_ne (h 2 (by omega)) (.inr (by omega))) (.inr (by omega)))) (.inr (by omega))) (.inr (by omega))
  | 3, _ =>
    cases hj
    exact cell_ne (cell_eq (cell_ne (cell_ne (cell_ne (h 3 (by omega)) (.inr (by omega))) (.inr (by omega))) (.inr (by omega)))) (.inr (by omega))
  | 4, _ =>
    cases hj
    exact cell_eq (cell_ne (cell_ne (cell_ne (cell_ne (h 4 (by omega)) (.inr (by omega))) (.inr (by omega))) (.inr (by omega))) (.inr (by omega)))

/-- Behind the store, where the variable was there ahead of the call. -/
theorem retHere_poke {w0 : World} {a b gb i n : Nat} {vn : Value} {w w3 : World} {T T3 : Tags} {q : Pool} {e' : Eps} {D : List Bool} {N : List Note} {B : Nat} {s : ByteArray} {m : Note} {r : Int} {k : Nat}
    (hS : Same (EpOwn T) w w3) (hX : Ext T T3 w) (hM : FreeMem w0 a b gb vn w3 T3 q e' D N (B + s.size)) (hI : r = 0 ∧ FreeInv q e' n 0 D (N ++ [m]) (i + 1) ∨ r = 5 ∧ FreeInv q e' n 0 D N (i + 1))
    (hk : w.heap[k]? = some zeroNote) (hko : ¬ EpOwn T k) (hk0 : w0.heap.size ≤ k) (hg : k ≠ gb) (hn : vn.ownBlock ≠ some k) (hB : B ≤ 201 * i) (hs : s.size ≤ 201) :
    RetHere w0 a b gb i n vn D N (.pointer (some ⟨k, 0, none⟩)) (.int .i64 r) (poke5 w3 k (.int .i64 m.epoch) (.int .i64 m.at_.region) (.int .i64 m.at_.gen) (.int .i64 m.at_.off) (.int .i64 m.at_.len)) :=
  ⟨k, m, r, T3, q, e', B + s.size, rfl, rfl, hM.poke hk0 (own_ext hX (Array.getElem?_eq_some_iff.1 hk).1 hko) hg hn (poke5_same _ _ _ _ _ _ _), by omega, poke5_cells (kept_zero hS hko hk).1 m, hI⟩

theorem retHere_alloc {w0 : World} {a b gb i n : Nat} {vn : Value} {w3 : World} {T3 : Tags} {q : Pool} {e' : Eps} {D : List Bool} {N : List Note} {B : Nat} {s : ByteArray} {m : Note} {r : Int}
    (hM : FreeMem w0 a b gb vn w3 T3 q e' D N (B + s.size)) (hI : r = 0 ∧ FreeInv q e' n 0 D (N ++ [m]) (i + 1) ∨ r = 5 ∧ FreeInv q e' n 0 D N (i + 1)) (hB : B ≤ 201 * i) (hs : s.size ≤ 201) :
    RetHere w0 a b gb i n vn D N (.pointer (some ⟨w3.heap.size, 0, none⟩)) (.int .i64 r) (w3.alloc (.cells m.cells 45)) :=
  ⟨w3.heap.size, m, r, T3, q, e', B + s.size, rfl, rfl, hM.alloc _, by omega, fun j v hj => by rw [World.cell?_alloc_new]; exact hj, hI⟩

end Go.Proofs.Ytmnklaphcjchiaa
