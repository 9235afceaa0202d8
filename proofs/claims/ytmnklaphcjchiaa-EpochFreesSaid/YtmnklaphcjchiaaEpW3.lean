/-
  Walks of epoch.Epochs: Oldest, Kept.
-/
import Derived.Test.YtmnklaphcjchiaaEpW2
namespace Go.Proofs.Ytmnklaphcjchiaa
open Go.RowKit
open Go.Maps (Keyed int_keyed keyOf_int_mk)

def minPin (m : Nat) (l : List (Nat × Nat)) : Nat := l.foldl (fun m x => min m x.2) m

def Eps.oldest (e : Eps) : Nat := minPin e.now e.pins

theorem minPin_min (a : Nat) : ∀ (l : List (Nat × Nat)) (m : Nat), minPin (min m a) l = min (minPin m l) a
  | [], m => rfl
  | x :: l, m => by
    show minPin (min (min m a) x.2) l = min (minPin (min m x.2) l) a
    rw [show min (min m a) x.2 = min (min m x.2) a by omega, minPin_min a l]

theorem minPin_mid (l1 l2 : List (Nat × Nat)) (x : Nat × Nat) (m : Nat) : minPin m (l1 ++ x :: l2) = minPin (min m x.2) (l1 ++ l2) := by
  unfold minPin
  rw [List.foldl_append, List.foldl_cons, List.foldl_append]
  show minPin (min (minPin m l1) x.2) l2 = minPin (minPin (min m x.2) l1) l2
  rw [minPin_min x.2 l1 m]

theorem map_split {α β : Type} (f : α → β) {l : List α} {r1 r2 : List β} {y : β} (h : l.map f = r1 ++ y :: r2) : ∃ a1 x a2, l = a1 ++ x :: a2 ∧ a1.map f = r1 ∧ f x = y ∧ a2.map f = r2 := by
  obtain ⟨a1, l', rfl, h1, h2⟩ := List.map_eq_append_iff.1 h
  obtain ⟨x, a2, rfl, h3, h4⟩ := List.map_eq_cons_iff.1 h2
  exact ⟨a1, x, a2, rfl, h1, h3, h4⟩

def OldestPost (w : World) (e : Eps) (x : Ending) (w' : World) : Prop := x = .returned (.int .i64 e.oldest) ∧ Below w.heap.size w w'

set_option maxRecDepth 100000 in
set_option maxHeartbeats 800000 in
theorem oldest_any {w : World} {T : Tags} {a : Nat} {p : Pool} {e : Eps} {E : EpLay} (h : EpRep w T a p e E) (hn : e.now < 4611686018427387904) (hb : ∀ x ∈ e.pins, x.2 < 4611686018427387904) :
    Calls Try.prog 17 #[.pointer (some ⟨a, 0, none⟩)] w (OldestPost w e) := by
  have C := Lib.hid (none_at a false w h.c5)
  have CN := Lib.hid (now_any h)
  have c3 := h.c3
  have HP := Lib.hid h.pins
  have HB := Lib.hid hb
  have hltp := h.pins.lt
  unfold OldestPost Eps.oldest
  clear h hb
  go_enter Try.func17, Try.ntmps17
  go_wp2_with fail
  refine CN.out.mono ?_
  rintro e w' ⟨rfl, rfl⟩
  go_wp2_with fail
  refine C.out.mono ?_
  rintro e w' ⟨rfl, rfl⟩
  go_wp2_with (at_range; refine wpList_range_is rfl (.tmp 14) 66 rfl Try.underlying66 rfl HP.out ?_; intro w0 hr0 hb0 hs0)
  go_frame
  have HR0 := Lib.hid hr0
  have HB0 := Lib.hid hb0
  clear hr0 hb0
  go_loopw [3] (fun x wr => ∃ m rem, x = .int .i64 (m : Nat) ∧ m < 4611686018427387904 ∧ RangeIs wr Try.prog 3 E.pm w.heap.size (pinList e.pins) (pinList rem) ∧ minPin m rem = minPin e.now e.pins ∧ Below w.heap.size w wr) (fun _ wr => wr.rangeLeft E.pm w.heap.size)
  case atStart => exact ⟨e.now, e.pins, rfl, hn, HR0.out, rfl, HB0.out⟩
  case round =>
    obtain ⟨m, rem, rfl, hm, hr, hmin, hbel⟩ := hrel
    have HR := Lib.hid hr
    have HM := Lib.hid hmin
    have HBL := Lib.hid hbel
    clear hr hmin hbel
    go_wp2_with (at_next; refine wpList_next_is rfl (.tmp 15) rfl rfl HR.out (by omega) ?_ ?_)
    · intro h0
      have hrem : rem = [] := by simpa [pinList] using h0
      have HM' := Lib.hid (show m = minPin e.now e.pins by rw [← HM.out, hrem]; rfl)
      clear h0 hrem
      go_wp2
      go_ret
      exact ⟨by rw [HM'.out]; rfl, HBL.out⟩
    · intro r1 r2 key v w1 e1 hmem hr1 hg1 hz1 hen
      obtain ⟨a1, x, a2, hrem, h1, h2, h3⟩ := map_split _ e1
      simp only [Prod.mk.injEq] at h2
      obtain ⟨rfl, rfl⟩ := h2
      have hx : x.2 < 4611686018427387904 := HB.out x (by
        obtain ⟨y, hy, hyx⟩ := List.mem_map.1 hmem
        simp only [Prod.mk.injEq, Value.int.injEq, true_and] at hyx
        have : y = x := by obtain ⟨_, _⟩ := y; obtain ⟨_, _⟩ := x; simp at hyx ⊢; omega
        exact this ▸ hy)
      have HM' := Lib.hid (show minPin (min m x.2) (a1 ++ a2) = minPin e.now e.pins by rw [← HM.out, hrem, minPin_mid])
      have HR' := Lib.hid (show RangeIs w1 Try.prog 3 E.pm w.heap.size (pinList e.pins) (pinList (a1 ++ a2)) by
        have := hr1
        rw [← h1, ← h3] at this
        simpa [pinList] using this)
      have HL := Lib.hid (show w1.rangeLeft E.pm w.heap.size < wr.rangeLeft E.pm w.heap.size by
        rw [HR'.out.left, HR.out.left, hrem]; simp [pinList])
      have HBL' := Lib.hid (HBL.out.grown hg1 HBL.out.size (fun k hk => by cases hk; exact Nat.le_refl _))
      clear e1 hmem hr1 hg1 hz1 hrem h1 h3
      go_wp2
      go_roundw
      case rel => exact ⟨min m x.2, a1 ++ a2, by congr 1; omega, by omega, HR'.out, HM'.out, HBL'.out⟩
      case measure => exact HL.out

/-- The bytes of all live epochs. -/
def sumBytes (e : Eps) (l : List Nat) : Nat := (l.map fun k => (e.era k).bytes).foldl (· + ·) 0

def Eps.kept (e : Eps) : Nat := sumBytes e (List.range' e.lo e.cnt)

theorem foldl_add (l : List Nat) : ∀ a b : Nat, l.foldl (· + ·) (a + b) = a + l.foldl (· + ·) b := by
  induction l with
  | nil => intro a b; rfl
  | cons x l ih => intro a b; simp only [List.foldl_cons]; rw [Nat.add_assoc, ih]

theorem sumBytes_mid (e : Eps) (l1 l2 : List Nat) (k : Nat) : sumBytes e (l1 ++ k :: l2) = (e.era k).bytes + sumBytes e (l1 ++ l2) := by
  unfold sumBytes
  simp only [List.map_append, List.map_cons, List.foldl_append, List.foldl_cons]
  rw [Nat.add_comm _ (e.era k).bytes, foldl_add]

def KeptPost (w : World) (e : Eps) (x : Ending) (w' : World) : Prop := x = .returned (.int .i64 e.kept) ∧ Below w.heap.size w w'

set_option maxRecDepth 100000 in
set_option maxHeartbeats 800000 in
theorem kept_any {w : World} {T : Tags} {a : Nat} {p : Pool} {e : Eps} {E : EpLay} (h : EpRep w T a p e E) (hk : e.kept < 4611686018427387904) :
    Calls Try.prog 19 #[.pointer (some ⟨a, 0, none⟩)] w (KeptPost w e) := by
  have C := Lib.hid (none_at a false w h.c5)
  have c2 := h.c2
  have HP := Lib.hid h.live
  have HE := Lib.hid h.e2
  have HLT := Lib.hid h.lte
  have hltp := h.live.lt
  unfold KeptPost
  unfold Eps.kept at hk ⊢
  clear h
  go_enter Try.func19, Try.ntmps19
  go_wp2_with fail
  refine C.out.mono ?_
  rintro e w' ⟨rfl, rfl⟩
  go_wp2_with (at_range; refine wpList_range_is rfl (.tmp 12) 65 rfl Try.underlying65 rfl HP.out ?_; intro w0 hr0 hb0 hs0)
  go_frame
  have HR0 := Lib.hid hr0
  have HB0 := Lib.hid hb0
  clear hr0 hb0
  go_loopw [3] (fun x wr => ∃ (s : Nat) (rem : List Nat), x = .int .i64 s ∧ RangeIs wr Try.prog 3 E.lm w.heap.size (liveList e.lo e.cnt E.eb) (rem.map fun (k : Nat) => (Value.int .i64 (k : Int), Value.pointer (some ⟨E.eb k, 0, none⟩))) ∧ s + sumBytes e rem = sumBytes e (List.range' e.lo e.cnt) ∧ Below w.heap.size w wr) (fun _ wr => wr.rangeLeft E.lm w.heap.size)
  case atStart => exact ⟨0, List.range' e.lo e.cnt, rfl, HR0.out, by omega, HB0.out⟩
  case round =>
    obtain ⟨s, rem, rfl, hr, hsum, hbel⟩ := hrel
    have HR := Lib.hid hr
    have HM := Lib.hid hsum
    have HBL := Lib.hid hbel
    clear hr hbel
    go_wp2_with (at_next; refine wpList_next_is rfl (.tmp 13) rfl rfl HR.out (by omega) ?_ ?_)
    · intro h0
      have hrem : rem = [] := by simpa using h0
      have HM' := Lib.hid (show s = sumBytes e (List.range' e.lo e.cnt) by rw [← HM.out, hrem]; rfl)
      clear h0 hrem
      go_wp2
      go_ret
      exact ⟨by rw [HM'.out]; rfl, HBL.out⟩
    · intro r1 r2 key v w1 e1 hmem hr1 hg1 hz1 hen
      obtain ⟨a1, k, a2, hrem, h1, h2, h3⟩ := map_split _ e1
      simp only [Prod.mk.injEq] at h2
      obtain ⟨rfl, rfl⟩ := h2
      have hkk : e.lo ≤ k ∧ k ≤ e.now := by
        obtain ⟨y, hy, hyx⟩ := List.mem_map.1 hmem
        simp only [Prod.mk.injEq, Value.int.injEq, true_and] at hyx
        obtain rfl : y = k := by have := hyx.1; omega
        have := List.mem_range'_1.1 hy
        unfold Eps.cnt at this
        omega
      have hsm := hsum
      rw [hrem, sumBytes_mid] at hsm
      have hle : s + (e.era k).bytes < 4611686018427387904 := by omega
      have hck := HE.out k hkk.1 hkk.2
      have hc1 : w1.cell? ⟨E.eb k, 2, none⟩ = some (.int .i64 (e.era k).bytes) := by
        rw [(HBL.out.grown hg1 HBL.out.size (fun k hk => by cases hk; exact Nat.le_refl _)).cell (p := ⟨E.eb k, 2, none⟩) (HLT.out k hkk.1 hkk.2)]
        exact hck
      have HM' := Lib.hid (show (s + (e.era k).bytes) + sumBytes e (a1 ++ a2) = sumBytes e (List.range' e.lo e.cnt) by omega)
      have HR' := Lib.hid (show RangeIs w1 Try.prog 3 E.lm w.heap.size (liveList e.lo e.cnt E.eb) ((a1 ++ a2).map fun (k : Nat) => (Value.int .i64 (k : Int), Value.pointer (some ⟨E.eb k, 0, none⟩))) by
        have := hr1
        rw [← h1, ← h3] at this
        simpa using this)
      have HL := Lib.hid (show w1.rangeLeft E.lm w.heap.size < wr.rangeLeft E.lm w.heap.size by
        rw [HR'.out.left, HR.out.left, hrem]; simp)
      have HBL' := Lib.hid (HBL.out.grown hg1 HBL.out.size (fun k hk => by cases hk; exact Nat.le_refl _))
      clear e1 hmem hr1 hg1 hz1 hrem h1 h3 hsm hsum hck
      go_wp2
      go_roundw
      case rel => exact ⟨s + (e.era k).bytes, a1 ++ a2, by go_num, HR'.out, HM'.out, HBL'.out⟩
      case measure => exact HL.out

end Go.Proofs.Ytmnklaphcjchiaa
