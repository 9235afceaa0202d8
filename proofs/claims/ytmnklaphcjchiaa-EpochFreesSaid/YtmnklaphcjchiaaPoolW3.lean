/-
  Walks of region.Pool: piece told by the model, Load, Store of a whole piece.
-/
import Derived.Test.YtmnklaphcjchiaaPoolW2
import Derived.Test.YtmnklaphcjchiaaLaws
import Derived.Test.YtmnklaphcjchiaaShelf
namespace Go.Proofs.Ytmnklaphcjchiaa
open Go.RowKit

def PiecePost (w : World) (p : Pool) (L : Lay) (h : Hnd) (e : Ending) (w' : World) : Prop :=
  Below w.heap.size w w' ∧ match p.piece h with
  | .ok (s, at_, n) => e = .returned (.tuple #[.slice (some ⟨L.xb s, at_, none⟩) n (p.size - at_), .int .i64 0])
  | .error c => e = .returned (.tuple #[.slice none 0 0, .int .i64 c])

theorem getD_lt {l : List Nat} {i : Nat} (h : i < l.length) : l.getD i 0 ∈ l := by
  simp [List.getD, List.getElem?_eq_getElem h]

theorem Pool.piece_ok {p : Pool} (wf : p.WF) {h : Hnd} {s a n : Nat} (hp : p.piece h = .ok (s, a, n)) :
    p.has h.region ∧ (p.lands h.region.toNat).gen = h.gen ∧ (h.off / p.size).toNat < (p.lands h.region.toNat).slabs.length ∧ s = (p.lands h.region.toNat).slabs.getD (h.off / p.size).toNat 0 ∧
      s ∈ (p.lands h.region.toNat).slabs ∧ s < p.n ∧ a = (h.off % p.size).toNat ∧ n = h.len.toNat ∧ a + n ≤ p.size ∧ 0 < n ∧
      (1 ≤ h.len ∧ 0 ≤ h.off ∧ h.off ≤ (p.lands h.region.toNat).fill ∧ h.len ≤ (p.lands h.region.toNat).fill - h.off) ∧ h.off % p.size + h.len ≤ p.size := by
  unfold Pool.piece at hp
  split at hp
  · rename_i h1
    split at hp
    · rename_i h2
      split at hp
      · rename_i h3
        have hri : h.region.toNat < 256 := by have := h1.1.1; have := h1.1.2.1; omega
        have hf := wf.fill _ hri
        have hs0 := wf.size0
        generalize hsl : (p.lands h.region.toNat).slabs = sl at *
        generalize (p.lands h.region.toNat).fill = fl at *
        obtain ⟨m0, m1, m2, _, _⟩ := emod_facts (off := h.off) (size := (p.size : Int)) h2.2.1 (by omega)
        have hlt : (h.off / p.size).toNat < sl.length := by
          have h4 : h.off < (sl.length : Int) * (p.size : Int) := by
            have : ((sl.length * p.size : Nat) : Int) = (sl.length : Int) * (p.size : Int) := Int.natCast_mul _ _
            omega
          have h5 := Int.ediv_lt_of_lt_mul (by omega : (0 : Int) < p.size) h4
          omega
        have hmem := getD_lt hlt
        simp only [Except.ok.injEq, Prod.mk.injEq] at hp
        obtain ⟨rfl, rfl, rfl⟩ := hp
        exact ⟨h1.1, h1.2, hlt, rfl, hmem, (wf.slab _ hri _ (by rw [hsl]; exact hmem)).1, rfl, rfl, by omega, by omega, h2, h3⟩
      · cases hp
    · cases hp
  · cases hp

theorem piece_any {w : World} {T : Tags} {b : Nat} {p : Pool} {L : Lay} (h : PoolRep w T b p L) (wf : p.WF) (r g off n : Int) :
    Calls Try.prog 33 #[.pointer (some ⟨b, 0, none⟩), .agg #[.int .i64 r, .int .i64 g, .int .i64 off, .int .i64 n]] w (PiecePost w p L ⟨r, g, off, n⟩) := by
  have hs0 := wf.size0
  by_cases h1 : p.has r
  · have hri : r.toNat < 256 := by have := h1.1; have := h1.2.1; omega
    have hfm : (p.lands r.toNat).fill ≤ 4194304 := by
      have := (wf.fill _ hri).1
      have h2 := wf.len hri
      have h3 := wf.all
      have h4 : (p.lands r.toNat).slabs.length * p.size ≤ p.n * p.size := Nat.mul_le_mul_right _ h2
      rw [Nat.mul_comm p.n] at h4
      omega
    by_cases h2 : (p.lands r.toNat).gen = g
    · by_cases h3 : 1 ≤ n ∧ 0 ≤ off ∧ off ≤ (p.lands r.toNat).fill ∧ n ≤ (p.lands r.toNat).fill - off
      · by_cases h4 : off % p.size + n ≤ p.size
        · have hp : p.piece ⟨r, g, off, n⟩ = .ok ((p.lands r.toNat).slabs.getD (off / p.size).toNat 0, (off % p.size).toNat, n.toNat) := by
            unfold Pool.piece; rw [if_pos ⟨h1, h2⟩, if_pos h3, if_pos h4]
          obtain ⟨_, _, k1, k2, k3, k4, _⟩ := Pool.piece_ok wf hp
          refine (piece_ok h r g off n h1 h2 hfm (by omega) wf.size1 h3 h4 k1 _ rfl k4).mono ?_
          rintro e w' ⟨he, hb⟩
          exact ⟨hb, by rw [hp]; exact he⟩
        · refine (piece_arg2 h r g off n h1 h2 hfm (by omega) wf.size1 h3 (by omega)).mono ?_
          rintro e w' ⟨he, hb⟩
          exact ⟨hb, by unfold Pool.piece; rw [if_pos ⟨h1, h2⟩, if_pos h3, if_neg h4]; exact he⟩
      · refine (piece_arg1 h r g off n h1 h2 hfm h3).mono ?_
        rintro e w' ⟨he, hb⟩
        exact ⟨hb, by unfold Pool.piece; rw [if_pos ⟨h1, h2⟩, if_neg h3]; exact he⟩
    · refine (piece_stale2 h r g off n h1 h2).mono ?_
      rintro e w' ⟨he, hb⟩
      exact ⟨hb, by unfold Pool.piece; rw [if_neg (fun hh => h2 hh.2)]; exact he⟩
  · refine (piece_stale1 h r g off n h1).mono ?_
    rintro e w' ⟨he, hb⟩
    exact ⟨hb, by unfold Pool.piece; rw [if_neg (fun hh => h1 hh.1)]; exact he⟩

def LoadPost (w : World) (p : Pool) (h : Hnd) (e : Ending) (w' : World) : Prop :=
  Below w.heap.size w w' ∧ match p.piece h with
  | .ok (s, at_, n) => ∃ v, e = .returned (.tuple #[v, .int .i64 0]) ∧ w'.ownsRow w.heap.size 5 1 v n ((p.read s at_ n).map (Value.int .u8)) ∧ v ≠ .slice none 0 0
  | .error c => e = .returned (.tuple #[.slice none 0 0, .int .i64 c])

set_option maxRecDepth 100000 in
set_option maxHeartbeats 400000 in
theorem load_any {w : World} {T : Tags} {b : Nat} {p : Pool} {L : Lay} (h : PoolRep w T b p L) (wf : p.WF) (r g off n : Int) :
    Calls Try.prog 28 #[.pointer (some ⟨b, 0, none⟩), .agg #[.int .i64 r, .int .i64 g, .int .i64 off, .int .i64 n]] w (LoadPost w p ⟨r, g, off, n⟩) := by
  have h' := h.alloc (.cells #[.int .i64 r, .int .i64 g, .int .i64 off, .int .i64 n] 43)
  have C := Lib.hid (piece_any h' wf r g off n)
  have X := Lib.hid h'.x
  have fin : ∀ (e : Ending) (w' : World), LoadPost w p ⟨r, g, off, n⟩ e w' = LoadPost w p ⟨r, g, off, n⟩ e w' := fun _ _ => rfl
  have hlt := h.ltb
  cases hp : p.piece ⟨r, g, off, n⟩ with
  | error c =>
    have HP := Lib.hid hp
    clear h h' hp fin wf
    go_enter Try.func28, Try.ntmps28
    go_wp2_with fail
    refine C.out.mono ?_
    unfold PiecePost
    rw [HP.out]
    rintro e w1 ⟨hb, rfl⟩
    go_wp2_with fail
    refine (Try.bytes_Clone_nil _ _ _).mono ?_
    rintro e w2 ⟨rfl, rfl⟩
    go_wp2
    go_ret2
    unfold LoadPost
    rw [HP.out]
    exact ⟨((Below.refl _ _).alloc (Nat.le_refl _) _).trans (hb.mono (by simp)), rfl⟩
  | ok x =>
    obtain ⟨s, a, m⟩ := x
    obtain ⟨-, -, -, -, -, k4, -, -, k5, k6, -, -⟩ := Pool.piece_ok wf hp
    have hsz := wf.size1
    have HP := Lib.hid hp
    clear h h' hp fin wf
    go_enter Try.func28, Try.ntmps28
    go_wp2_with fail
    refine C.out.mono ?_
    unfold PiecePost
    rw [HP.out]
    rintro e w1 ⟨hb, rfl⟩
    go_wp2_with fail
    refine (Try.bytes_Clone_at _ _ _ (p.read s a m) _ (by simp [Pool.read]) (by omega) ?_).mono ?_
    · intro i hi
      have hx := X.out s k4 (a + i) (by omega)
      rw [add_mk, hb.cell (p := ⟨L.xb s, a + i, none⟩) (World.block_lt_of_cell? _ _ hx), hx]
      simp [Pool.read, List.getD, hi]
    rintro e w2 ⟨v, rfl, ho, hv, hb2⟩
    go_wp2
    go_ret2
    unfold LoadPost
    rw [HP.out]
    have hb0 : Below w.heap.size w w1 := ((Below.refl _ _).alloc (Nat.le_refl _) _).trans (hb.mono (by simp))
    refine ⟨hb0.trans (hb2.mono hb0.size), v, rfl, ?_, hv⟩
    obtain ⟨q1, q2⟩ := ho
    refine ⟨q1, ?_⟩
    rcases q2 with q2 | ⟨gg, cap, cur, e1, e2, e3⟩
    · exact .inl q2
    · exact .inr ⟨gg, cap, cur, e1, by have := hb0.size; omega, e3⟩

end Go.Proofs.Ytmnklaphcjchiaa
