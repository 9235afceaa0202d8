/-
  Walks of epoch: Close, and what is told of closed epochs.
-/
import Derived.Test.YtmnklaphcjchiaaEpW8
import Derived.StillTailTactics
namespace Go.Proofs.Ytmnklaphcjchiaa
open Go.RowKit
open Go.Maps (Keyed int_keyed keyOf_int_mk)

def ClosePost (w : World) (T : Tags) (a b : Nat) (q : Pool) (x : Ending) (w' : World) : Prop :=
  x = .returned (.int .i64 0) ∧ Same (EpOwn T) w w' ∧ ∃ T' L', Ext T T' w ∧ PoolRep w' T' b q L' ∧ w'.cell? ⟨a, 5, none⟩ = some (.bool true)

set_option maxRecDepth 100000 in
set_option maxHeartbeats 1600000 in
theorem close0 {w : World} {T : Tags} {a : Nat} {p : Pool} {e : Eps} {E : EpLay} (h : EpRep w T a p e E) (wf : EpWF p e) (hn : e.now < 4611686018427387904) (hle : e.lo ≤ e.now) (hT : ∀ k, w.heap.size ≤ k → T k = (0, 0)) :
    Calls Try.prog 22 #[.pointer (some ⟨a, 0, none⟩)] w (ClosePost w T a E.b (collectN e.cnt (p, e)).1) := by
  have C := Lib.hid (none_at a false w h.c5)
  have hcnt := wf.cnt
  have CL := Lib.hid (live_any h (by omega))
  have H := Lib.hid h
  have HWF := Lib.hid wf
  have HT := Lib.hid hT
  have hcd : e.cnt = e.now + 1 - e.lo := rfl
  have HCD := Lib.hid hcd
  clear h wf hT hcd
  go_enter Try.func22, Try.ntmps22
  go_wp2_with fail
  refine C.out.mono ?_
  rintro x w' ⟨rfl, rfl⟩
  go_wp2_with fail
  refine CL.out.mono ?_
  rintro x w1 ⟨v, rfl, ho, hnil, hb1⟩
  rcases ho.2 with ⟨hv, h0⟩ | ⟨g, cap, cur, hv, hbase, hgg, hcap⟩
  · exfalso
    have := HCD.out
    omega
  subst hv
  have HO := Lib.hid ho
  have HB1 := Lib.hid hb1
  clear ho hnil hb1 hgg hcap
  go_wp2
  go_loopw [11] (fun y wr => ∃ i : Nat, i ≤ e.cnt ∧ y = .int .i64 i ∧ Same (EpOwn T) w wr ∧ (∃ E', EpRep wr T a (collectN i (p, e)).1 { e with lo := e.lo + i } E') ∧
      wr.ownsRow w.heap.size 3 1 (.slice (some ⟨g, 0, none⟩) e.cnt cap) e.cnt ((List.range' e.lo e.cnt).map fun (k : Nat) => Value.int .i64 (k : Int))) (fun y _ => e.cnt - (intOf y).toNat)
  case atStart => exact ⟨0, Nat.zero_le _, rfl, Same.of_below HB1.out, ⟨E, (H.out.below HB1.out).relayL rfl⟩, HO.out⟩
  case round =>
    obtain ⟨i, hi, rfl, hs, ⟨E', hr⟩, hro⟩ := hrel
    have HS := Lib.hid hs
    have HR := Lib.hid hr
    have HRO := Lib.hid hro
    have hge : w.heap.size ≤ g := hbase
    have hgn : ¬ EpOwn T g := by unfold EpOwn; rw [HT.out g hge]; simp
    by_cases hic : i < e.cnt
    · have cv : wr.cell? ⟨g, i, none⟩ = some (.int .i64 ((e.lo + i : Nat) : Int)) := by
        rw [hro.cellAt i (by omega), List.getElem?_map, List.getElem?_range' hic]
        simp
      have hlk := fun n => (hr.drewN n).live
      have d0 := hr.c0
      have d2 := hr.c2
      have hk1 : e.lo + i ≤ e.now := by have := HCD.out; omega
      have de := hr.e0 (e.lo + i) (Nat.le_refl _) hk1
      have hcn : ({ e with lo := e.lo + i } : Eps).cnt = (e.cnt - i - 1) + 1 := by have := HCD.out; simp only [Eps.cnt]; omega
      have hl : (Instr.lookup 65 (.map (some E'.lm)) (.int .i64 ((e.lo + i : Nat) : Int)) false).run Try.prog wr.drew = .ok (.pointer (some ⟨E'.eb (e.lo + i), 0, none⟩)) wr.drew := by
        have h1 := hlk 1
        rw [hcn, liveList_cons] at h1
        have := h1.look_some (t := 65) (e := 70) (v := .pointer (some ⟨E'.eb (e.lo + i), 0, none⟩)) Try.intKeyed Try.underlying65 (int_key (x := ((e.lo + i : Nat) : Int)) (by omega) (by omega)) (by simp) false
        have h2 : (Instr.lookup 65 (.map (some E'.lm)) (.int .i64 ((e.lo + i : Nat) : Int)) false).run Try.prog (wr.drewN 1) = .ok (.pointer (some ⟨E'.eb (e.lo + i), 0, none⟩)) (wr.drewN 1) := by simpa using this
        exact h2
      rw [Int.natCast_add] at hl
      have wfi := HWF.out.collectN i (by omega)
      rw [collectN_eps] at wfi
      have hreg := wfi.reg (e.lo + i) (Nat.le_refl _) hk1
      have hreg1 : (e.era (e.lo + i)).region < 256 := hreg.1
      have CF := Lib.hid (free_any (hr.drewN 1).pool wfi.pool (e.era (e.lo + i)).region hreg1 hreg.2)
      have de' : wr.cell? ⟨E'.eb (e.lo + i), 0, none⟩ = some (.int .i64 ((e.era (e.lo + i)).region : Int)) := de
      clear hlk de wfi hreg hs hr hro
      go_wp2
      go_still_tail 13, (by kernel_rfl)
      change wpList _ _ _ _ _ wr.drew
      clear hl
      go_wp2_with fail
      refine CF.out.mono ?_
      rintro x w3 ⟨rfl, S3, L3, R3⟩
      have E3 := (HR.out.drewN 1).setPool S3 R3
      have hkey := int_key (x := ((e.lo + i : Nat) : Int)) (by omega) (by omega)
      have M3 := E3.live
      have M3' : MapIs w3 Try.prog 3 E'.lm ([] ++ (.int .i64 ((e.lo + i : Nat) : Int), .pointer (some ⟨E'.eb (e.lo + i), 0, none⟩)) :: liveList (e.lo + i + 1) (e.cnt - i - 1) E'.eb) := by
        rw [List.nil_append, ← liveList_cons, ← hcn]; exact M3
      obtain ⟨w4, hrun, hm4, hg4, _⟩ := M3'.del (t := 65) (e := 70) Try.intKeyed Try.underlying65 hkey
      have E4 := E3.dropFirst hg4 (by
        rw [hcn]
        simpa using hm4)
      have Sr : Same (EpOwn T) wr w4 := (((Same.refl (EpOwn T) wr).then_drewN 1).trans S3.pool_ep (fun _ _ h => h)).then_grown hg4 (fun k hk => by cases hk; left; unfold EpOwn; rw [E3.tagl]; simp)
      have S4 : Same (EpOwn T) w w4 := HS.out.trans Sr (fun _ _ h => h)
      have f2 := E3.c2
      have O4 : w4.ownsRow w.heap.size 3 1 (.slice (some ⟨g, 0, none⟩) e.cnt cap) e.cnt ((List.range' e.lo e.cnt).map fun (k : Nat) => Value.int .i64 (k : Int)) :=
        Sr.owns (fun k hk => by simp only [Value.ownBlock, Option.some.injEq] at hk; subst hk; exact hgn) HRO.out
      have HE4 := Lib.hid E4
      have HS4 := Lib.hid S4
      have HO4 := Lib.hid O4
      rw [Int.natCast_add] at hrun
      have HRUN := Lib.hid hrun
      clear hrun hm4 hg4 M3 M3' E3 S3 R3 E4 S4 O4 hkey Sr
      go_wp2_with (with_reducible refine wpList_delete_run rfl (.tmp 35) (.tmp 36) 65 3 rfl (.map (some E'.lm)) (.int .i64 ((e.lo : Int) + (i : Int))) rfl rfl HRUN.out ?_)
      have hc1 : (collectN (i + 1) (p, e)).1 = (collectN i (p, e)).1.free (e.era (e.lo + i)).region := by simp only [collectN, collect1, collectN_eps]
      have hi1 : i + 1 ≤ e.cnt := by omega
      have R4 := HE4.out
      rw [← hc1] at R4
      exact ⟨⟨i + 1, hi1, by go_num, HS4.out, ⟨_, R4⟩, HO4.out⟩, by simp [intOf]; omega⟩
    · obtain rfl : i = e.cnt := by omega
      have d5 := hr.c5
      have fa := hr.fa 5
      have S5 : Same (fun k => k = a) wr (wr.setCell ⟨a, 5, none⟩ (.bool true)) := (Same.refl (fun k => k = a) wr).then_setCell (p := ⟨a, 5, none⟩) (Or.inl rfl) _
      have na : ∀ k, k < wr.heap.size → PoolOwn T k → ¬ k = a := fun k _ ho hk => by subst hk; unfold PoolOwn at ho; rw [hr.taga] at ho; simp at ho
      have R5 : Hid (ClosePost w T a E.b (collectN e.cnt (p, e)).1 (.returned (.int .i64 0)) (wr.setCell ⟨a, 5, none⟩ (.bool true))) :=
        ⟨rfl, hs.then_setCell (Or.inl (by unfold EpOwn; show 1 ≤ (T a).1 ∧ (T a).1 ≤ 10; rw [hr.taga]; simp)) _, T, E'.L, Ext.refl _ _, by have h := hr.pool.same S5 na (Ext.refl _ _); rw [H.out.sameB hr (Ext.refl _ _)] at h; exact h, cell_eq d5⟩
      clear hs hr hro S5 na
      have l1 : decide ((e.cnt : Int) < (e.cnt : Int)) = false := by simp
      go_wp2
      go_ret
      exact R5.out

theorem close_any {w : World} {T : Tags} {a : Nat} {p : Pool} {e : Eps} {E : EpLay} (h : EpRep w T a p e E) (wf : EpWF p e) (hn : e.now < 4611686018427387904) (hle : e.lo ≤ e.now) :
    Calls Try.prog 22 #[.pointer (some ⟨a, 0, none⟩)] w (ClosePost w T a E.b (collectN e.cnt (p, e)).1) := by
  refine (close0 h.cut wf hn hle (fun k hk => Tags.cut_ge _ hk)).mono ?_
  rintro x w' ⟨hx, hS, T', L', hX, hR, hc⟩
  exact ⟨hx, hS.mono (fun k hk => by unfold EpOwn; rw [Tags.cut_lt _ hk]; exact id), T', L', hX.of_cut, hR, hc⟩

/-- Closed. -/
theorem now_over {w : World} {a : Nat} (h : w.cell? ⟨a, 5, none⟩ = some (.bool true)) :
    Calls Try.prog 16 #[.pointer (some ⟨a, 0, none⟩)] w fun x w' => x = .returned (.int .i64 0) ∧ w = w' := by
  have C := Lib.hid (none_at a true w h)
  go_enter Try.func16, Try.ntmps16
  go_wp2_with fail
  refine C.out.mono ?_
  rintro e w' ⟨rfl, rfl⟩
  go_wp2
  go_ret
  exact ⟨rfl, rfl⟩

theorem live_over {w : World} {a : Nat} (h : w.cell? ⟨a, 5, none⟩ = some (.bool true)) :
    Calls Try.prog 18 #[.pointer (some ⟨a, 0, none⟩)] w fun x w' => x = .returned (.slice none 0 0) ∧ w = w' := by
  have C := Lib.hid (none_at a true w h)
  go_enter Try.func18, Try.ntmps18
  go_wp2_with fail
  refine C.out.mono ?_
  rintro e w' ⟨rfl, rfl⟩
  go_wp2
  go_ret
  exact ⟨rfl, rfl⟩

theorem close_over {w : World} {a : Nat} (h : w.cell? ⟨a, 5, none⟩ = some (.bool true)) :
    Calls Try.prog 22 #[.pointer (some ⟨a, 0, none⟩)] w fun x w' => x = .returned (.int .i64 1) ∧ w = w' := by
  have C := Lib.hid (none_at a true w h)
  go_enter Try.func22, Try.ntmps22
  go_wp2_with fail
  refine C.out.mono ?_
  rintro e w' ⟨rfl, rfl⟩
  go_wp2
  go_ret
  exact ⟨rfl, rfl⟩

end Go.Proofs.Ytmnklaphcjchiaa
