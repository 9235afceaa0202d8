/-
  The epochs as the laws use them: one state of pool and epochs, and what each call makes of it.
-/
import Derived.Test.YtmnklaphcjchiaaEpP
namespace Go.Proofs.Ytmnklaphcjchiaa
open Go.RowKit

structure Sta (w : World) (T : Tags) (a b : Nat) (p : Pool) (e : Eps) (B : Nat) : Prop where
  rep : ∃ E, EpRep w T a p e E ∧ E.b = b
  inv : EpInv p e B
  fresh : ∀ k, w.heap.size ≤ k → T k = (0, 0)

def StaPost (w : World) (T : Tags) (a b : Nat) (v : Value) (q : Pool) (e' : Eps) (B : Nat) (x : Ending) (w' : World) : Prop :=
  x = .returned v ∧ Same (EpOwn T) w w' ∧ ∃ T', Ext T T' w ∧ Sta w' T' a b q e' B

section
variable {w w' : World} {T : Tags} {a b : Nat} {p : Pool} {e : Eps} {B : Nat}

theorem Sta.same (h : Sta w T a b p e B) {S : Nat → Prop} (hs : Same S w w') (hS : ∀ k, k < w.heap.size → EpOwn T k → ¬ S k) : Sta w' T a b p e B := by
  obtain ⟨E, h1, h2⟩ := h.rep
  exact ⟨⟨E, h1.same hs hS (Ext.refl _ _), h2⟩, h.inv, fun k hk => h.fresh k (Nat.le_trans hs.size hk)⟩

theorem Sta.below (h : Sta w T a b p e B) (hb : Below w.heap.size w w') : Sta w' T a b p e B :=
  h.same (S := fun _ => False) (Same.of_below hb) (fun _ _ _ h => h)

theorem Sta.alloc (h : Sta w T a b p e B) (o : Obj) : Sta (w.alloc o) T a b p e B := h.same (S := fun _ => False) ((Same.refl _ w).then_alloc o) (fun _ _ _ h => h)

theorem Sta.drewN (h : Sta w T a b p e B) (n : Nat) : Sta (w.drewN n) T a b p e B := h.same (S := fun _ => False) ((Same.refl _ w).then_drewN n) (fun _ _ _ h => h)

theorem Sta.drew (h : Sta w T a b p e B) : Sta w.drew T a b p e B := h.drewN 1

/-- A block that is none of theirs. -/
theorem Sta.other (h : Sta w T a b p e B) {k : Nat} (hk : w.heap.size ≤ k) : ¬ EpOwn T k := by
  unfold EpOwn
  rw [h.fresh k hk]
  simp

theorem own_ext {T' : Tags} (hX : Ext T T' w) {k : Nat} (hk : k < w.heap.size) (h : ¬ EpOwn T k) : ¬ EpOwn T' k := by
  unfold EpOwn at h ⊢
  rw [hX k hk]
  exact h

theorem StaPost.of {v : Value} {q : Pool} {e' : Eps} {B' : Nat} {E : EpLay} (h : EpRep w T a p e E) (hb : E.b = b) (hi : EpInv q e' B') {x : Ending} (hp : EpPost w T a v q e' x w') : StaPost w T a b v q e' B' x w' := by
  obtain ⟨hx, hS, T', E', hX, hR⟩ := hp
  refine ⟨hx, hS, T'.cut w'.heap.size, fun k hk => (Tags.cut_lt _ (Nat.lt_of_lt_of_le hk hS.size)).trans (hX k hk), ⟨E', hR.cut, (h.sameB hR hX).trans hb⟩, hi, fun k hk => Tags.cut_ge _ hk⟩

theorem EpInv.mono {B' : Nat} (h : EpInv p e B) (hB : B ≤ B') : EpInv p e B' := ⟨h.wf, h.le, h.own, fun k h1 h2 => Nat.le_trans (h.bytes k h1 h2) hB⟩

/-- Pins that go or come. -/
theorem EpInv.setPins (h : EpInv p e B) (l : List (Nat × Nat)) (t : Nat) (h1 : ∀ x ∈ l, x.1 ≤ t ∧ x.2 ≤ e.now) (h2 : (l.map (·.1)).Nodup) : EpInv p { e with pins := l, last := t } B :=
  ⟨⟨h.wf.pool, h.wf.lo1, h.wf.lon, h.wf.reg, h.wf.apart, h1, h2⟩, h.le, h.own, h.bytes⟩

theorem Sta.pin (h : Sta w T a b p e B) (hb : e.pins.length < 1000) (hl : e.last < 4611686018427387904) :
    Calls Try.prog 10 #[.pointer (some ⟨a, 0, none⟩)] w
      (StaPost w T a b (.tuple #[.int .i64 ((e.last : Int) + 1), .int .i64 0]) p { e with pins := e.pins ++ [(e.last + 1, e.now)], last := e.last + 1 } B) := by
  obtain ⟨E, h1, h2⟩ := h.rep
  have hp := h.inv.wf.pins
  refine (pin_ok h1 hb hl (fun x hx => (hp x hx).1)).mono (fun x w' hx => StaPost.of h1 h2 (h.inv.setPins _ _ ?_ ?_) hx)
  · intro x hx
    rcases List.mem_append.1 hx with hx | hx
    · have := hp x hx; exact ⟨by omega, this.2⟩
    · simp only [List.mem_singleton] at hx
      subst hx
      exact ⟨Nat.le_refl _, Nat.le_refl _⟩
  · rw [List.map_append]
    refine List.nodup_append.2 ⟨h.inv.wf.pnodup, by simp, ?_⟩
    intro u hu v hv
    obtain ⟨x, hx, rfl⟩ := List.mem_map.1 hu
    simp only [List.map_cons, List.map_nil, List.mem_singleton] at hv
    subst hv
    have := (hp x hx).1
    omega

theorem Sta.pinBig (h : Sta w T a b p e B) (hb : 1000 ≤ e.pins.length) :
    Calls Try.prog 10 #[.pointer (some ⟨a, 0, none⟩)] w fun x w' => x = .returned (.tuple #[.int .i64 0, .int .i64 14]) ∧ w = w' := by
  obtain ⟨E, h1, h2⟩ := h.rep
  exact pin_big h1 hb

/-- Unpin of a pin that is there. -/
theorem Sta.unpin (h : Sta w T a b p e B) (q k : Nat) (l1 l2 : List (Nat × Nat)) (hl : e.pins = l1 ++ (q, k) :: l2) (hq1 : q < 4611686018427387904) :
    Calls Try.prog 11 #[.pointer (some ⟨a, 0, none⟩), .int .i64 q] w (StaPost w T a b (.int .i64 0) p { e with pins := l1 ++ l2 } B) := by
  obtain ⟨E, h1, h2⟩ := h.rep
  have hp := h.inv.wf.pins
  have hd := h.inv.wf.pnodup
  refine (unpin_ok h1 q k l1 l2 hl hq1).mono (fun x w' hx => StaPost.of h1 h2 (h.inv.setPins (l1 ++ l2) e.last ?_ ?_) hx)
  · intro x hx
    refine hp x ?_
    rw [hl]
    rcases List.mem_append.1 hx with hx | hx
    · exact List.mem_append_left _ hx
    · exact List.mem_append_right _ (List.mem_cons_of_mem _ hx)
  · rw [hl, List.map_append, List.map_cons] at hd
    rw [List.map_append]
    obtain ⟨d1, d2, d3⟩ := List.nodup_append.1 hd
    exact List.nodup_append.2 ⟨d1, (List.nodup_cons.1 d2).2, fun u hu v hv => d3 u hu v (List.mem_cons_of_mem _ hv)⟩

theorem Sta.unpinMiss (h : Sta w T a b p e B) (q : Int) (hq0 : -9223372036854775808 ≤ q) (hq1 : q ≤ 9223372036854775807) (hm : ∀ x ∈ e.pins, (x.1 : Int) ≠ q) :
    Calls Try.prog 11 #[.pointer (some ⟨a, 0, none⟩), .int .i64 q] w fun x w' => x = .returned (.int .i64 7) ∧ w = w' := by
  obtain ⟨E, h1, h2⟩ := h.rep
  exact unpin_miss h1 q hq0 hq1 hm

def StaRetire (w : World) (T : Tags) (a b : Nat) (p : Pool) (e : Eps) (B : Nat) (xs : List Int) (x : Ending) (w' : World) : Prop :=
  match retired p e xs with
  | some (n, q, e') => StaPost w T a b (.tuple #[.agg #[.int .i64 n.epoch, .int .i64 n.at_.region, .int .i64 n.at_.gen, .int .i64 n.at_.off, .int .i64 n.at_.len], .int .i64 0]) q e' (B + xs.length) x w'
  | none => StaPost w T a b (.tuple #[.agg #[.int .i64 0, .int .i64 0, .int .i64 0, .int .i64 0, .int .i64 0], .int .i64 5]) p e B x w'

theorem Sta.retire (h : Sta w T a b p e B) (hn : e.now < 4611686018427387904) (hB : B < 4611686018427387904) (xs : List Int) (hx0 : 1 ≤ xs.length) (hx1 : xs.length ≤ p.size)
    (bb bc : Nat) (hbb : ¬ EpOwn T bb) (hbc : ∀ i, i < xs.length → w.cell? ⟨bb, i, none⟩ = some (.int .u8 (xs.getD i 0))) :
    Calls Try.prog 14 #[.pointer (some ⟨a, 0, none⟩), .slice (some ⟨bb, 0, none⟩) xs.length bc] w (StaRetire w T a b p e B xs) := by
  obtain ⟨E, h1, h2⟩ := h.rep
  refine (retire_any h1 h.inv.wf h.inv.le hn xs hx0 hx1 (Nat.lt_of_le_of_lt (h.inv.bytes _ h.inv.le (Nat.le_refl _)) hB) bb bc hbb hbc).mono (fun x w' hx => ?_)
  unfold RetirePost at hx
  unfold StaRetire
  cases hr : retired p e xs with
  | none => rw [hr] at hx; exact StaPost.of h1 h2 h.inv hx
  | some z => obtain ⟨n, q, e'⟩ := z; rw [hr] at hx; exact StaPost.of h1 h2 (retired_facts h.inv hn hx0 hx1 hr).1 hx

def StaAdvance (w : World) (T : Tags) (a b : Nat) (p : Pool) (e : Eps) (B : Nat) (x : Ending) (w' : World) : Prop :=
  match advanced p e with
  | some (q, e') => StaPost w T a b (.tuple #[.int .i64 ((e.now : Int) + 1), .int .i64 0]) q e' B x w'
  | none => x = .returned (.tuple #[.int .i64 0, .int .i64 5]) ∧ w = w'

theorem Sta.advance (h : Sta w T a b p e B) (hn : e.now < 4611686018427387904) :
    Calls Try.prog 12 #[.pointer (some ⟨a, 0, none⟩)] w (StaAdvance w T a b p e B) := by
  obtain ⟨E, h1, h2⟩ := h.rep
  refine (advance_any h1 h.inv.wf.lon hn).mono (fun x w' hx => ?_)
  unfold AdvancePost at hx
  unfold StaAdvance
  cases hr : advanced p e with
  | none => rw [hr] at hx; exact hx
  | some z => obtain ⟨q, e'⟩ := z; rw [hr] at hx; exact StaPost.of h1 h2 (advanced_facts h.inv hr).1 hx

theorem minPin_ge {l : List (Nat × Nat)} {t : Nat} (h : ∀ x ∈ l, t ≤ x.2) : ∀ m, t ≤ m → t ≤ minPin m l := by
  induction l with
  | nil => intro m hm; exact hm
  | cons x l ih => intro m hm; exact ih (fun y hy => h y (List.mem_cons_of_mem _ hy)) (min m x.2) (by have := h x (by simp); omega)

theorem oldest_le (e : Eps) : e.oldest ≤ e.now := minPin_le _ _

theorem Sta.collect (h : Sta w T a b p e B) (hn : e.now < 4611686018427387904) :
    Calls Try.prog 13 #[.pointer (some ⟨a, 0, none⟩)] w
      (StaPost w T a b (.tuple #[.int .i64 ((e.oldest - e.lo : Nat) : Int), .int .i64 0]) (collectN (e.oldest - e.lo) (p, e)).1 (collectN (e.oldest - e.lo) (p, e)).2 B) := by
  obtain ⟨E, h1, h2⟩ := h.rep
  have hle := h.inv.le
  have hol := oldest_le e
  exact (collect_any h1 h.inv.wf hn h.inv.le).mono (fun x w' hx => StaPost.of h1 h2 (collectN_facts h.inv _ (by omega)).1 hx)

theorem Sta.load (h : Sta w T a b p e B) (ep r g off len : Int) (hn : (Note.mk ep ⟨r, g, off, len⟩).WF) :
    Calls Try.prog 15 #[.pointer (some ⟨a, 0, none⟩), .agg #[.int .i64 ep, .int .i64 r, .int .i64 g, .int .i64 off, .int .i64 len]] w (ELoadPost w p e ⟨ep, ⟨r, g, off, len⟩⟩) := by
  obtain ⟨E, h1, h2⟩ := h.rep
  exact eload_any h1 h.inv.wf ep r g off len hn

theorem Sta.nowIs (h : Sta w T a b p e B) : Calls Try.prog 16 #[.pointer (some ⟨a, 0, none⟩)] w fun x w' => x = .returned (.int .i64 e.now) ∧ w = w' := by
  obtain ⟨E, h1, h2⟩ := h.rep
  exact now_any h1

theorem Sta.oldestIs (h : Sta w T a b p e B) (hn : e.now < 4611686018427387904) : Calls Try.prog 17 #[.pointer (some ⟨a, 0, none⟩)] w fun x w' => x = .returned (.int .i64 e.oldest) ∧ Below w.heap.size w w' := by
  obtain ⟨E, h1, h2⟩ := h.rep
  exact oldest_any h1 hn (fun x hx => by have := (h.inv.wf.pins x hx).2; omega)

theorem Sta.keptIs (h : Sta w T a b p e B) (hk : e.kept < 4611686018427387904) : Calls Try.prog 19 #[.pointer (some ⟨a, 0, none⟩)] w fun x w' => x = .returned (.int .i64 e.kept) ∧ Below w.heap.size w w' := by
  obtain ⟨E, h1, h2⟩ := h.rep
  exact kept_any h1 hk

theorem Sta.liveIs (h : Sta w T a b p e B) : Calls Try.prog 18 #[.pointer (some ⟨a, 0, none⟩)] w (LivePost w e) := by
  obtain ⟨E, h1, h2⟩ := h.rep
  exact live_any h1 (by have := h.inv.wf.cnt; omega)

theorem Sta.idleIs (h : Sta w T a b p e B) : Calls Try.prog 20 #[.pointer (some ⟨b, 0, none⟩)] w fun x w' => x = .returned (.int .i64 p.idle) ∧ w = w' := by
  obtain ⟨E, h1, rfl⟩ := h.rep
  exact idle_any h1.pool h.inv.wf.pool.n1

end

/-- The state that New of the pool and New of the epochs lay. -/
def pool1 (size n : Nat) : Pool := (Pool.new size n).setLand 0 { there := true, gen := 1, slabs := [], fill := 0 }

theorem new_make (size n : Nat) : (Pool.new size n).make = some (0, pool1 size n) := by
  have h : (Pool.new size n).idleLand = some 0 := by
    unfold Pool.idleLand
    exact firstOf_eq (by omega) rfl (fun j hj => absurd hj (Nat.not_lt_zero j))
  have hw : wrap64 (((Pool.new size n).lands 0).gen + 1) = 1 := by show wrap64 (0 + 1) = 1; kernel_rfl
  unfold Pool.make
  rw [h]
  simp only [hw]
  rfl

def eps1 : Eps := Eps.none.advance 0

theorem inv1 {size n : Nat} (h0 : 64 ≤ size) (h1 : size ≤ 65536) (h2 : 1 ≤ n) (h3 : n ≤ 4096) (h4 : size * n ≤ 4194304) : EpInv (pool1 size n) eps1 0 where
  wf := {
    pool := (Pool.WF.new h0 h1 h2 h3 h4).make (new_make size n)
    lo1 := Nat.le_refl _
    lon := by show 1 ≤ 2; omega
    reg := fun k g1 g2 => by
      have g1' : 1 ≤ k := g1
      have g2' : k ≤ 1 := g2
      obtain rfl : k = 1 := by omega
      exact ⟨by show 0 < 256; omega, rfl⟩
    apart := fun k g1 g2 j g3 g4 hkj => by
      have g1' : 1 ≤ k := g1
      have g2' : k ≤ 1 := g2
      have g3' : 1 ≤ j := g3
      have g4' : j ≤ 1 := g4
      omega
    pins := fun x hx => by cases hx
    pnodup := List.nodup_nil }
  le := Nat.le_refl _
  own := fun i hi ht => by
    by_cases h : i = 0
    · subst h; exact ⟨1, Nat.le_refl _, Nat.le_refl _, rfl⟩
    · exact absurd ht (by simp [pool1, Pool.setLand, h, Pool.new])
  bytes := fun k g1 g2 => by
    have g1' : 1 ≤ k := g1
    have g2' : k ≤ 1 := g2
    obtain rfl : k = 1 := by omega
    exact Nat.le_refl _

theorem idle1 {size n : Nat} (h2 : 1 ≤ n) : (pool1 size n).idleSlab = some 0 := by
  unfold Pool.idleSlab
  exact firstOf_eq (show 0 < n from h2) rfl (fun j hj => absurd hj (Nat.not_lt_zero j))

/-- epoch.New of a new pool. -/
def EpochNewPost (w : World) (T : Tags) (b size n : Nat) (x : Ending) (w' : World) : Prop :=
  ∃ a, x = .returned (.tuple #[.pointer (some ⟨a, 0, none⟩), .int .i64 0]) ∧ ∃ T', Ext T T' w ∧ Same (EpOwn T) w w' ∧ Sta w' T' a b (pool1 size n) eps1 0

theorem epochNew_any {w : World} {T : Tags} {b : Nat} {L : Lay} {size n : Nat} (h : PoolRep w T b (Pool.new size n) L) (h0 : 64 ≤ size) (h1 : size ≤ 65536) (h2 : 1 ≤ n) (h3 : n ≤ 4096) (h4 : size * n ≤ 4194304) :
    Calls Try.prog 9 #[.pointer (some ⟨b, 0, none⟩)] w (EpochNewPost w T b size n) := by
  refine (epnew_any h 0 _ (new_make size n)).mono (fun x w' hx => ?_)
  obtain ⟨a, hx, T', E', hX, hS, hR, hb⟩ := hx
  exact ⟨a, hx, T'.cut w'.heap.size, fun k hk => (Tags.cut_lt _ (Nat.lt_of_lt_of_le hk hS.size)).trans (hX k hk), hS, ⟨E', hR.cut, hb⟩, inv1 h0 h1 h2 h3 h4, fun k hk => Tags.cut_ge _ hk⟩

end Go.Proofs.Ytmnklaphcjchiaa
