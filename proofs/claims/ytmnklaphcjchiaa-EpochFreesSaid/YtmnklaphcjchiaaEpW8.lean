/-
  Walks of epoch: Collect.
-/
import Derived.Test.YtmnklaphcjchiaaEpW7
import Derived.StillTailTactics
namespace Go.Proofs.Ytmnklaphcjchiaa
open Go.RowKit
open Go.Maps (Keyed int_keyed keyOf_int_mk)

theorem minPin_le (l : List (Nat × Nat)) : ∀ m, minPin m l ≤ m := by
  induction l with
  | nil => intro m; exact Nat.le_refl _
  | cons x l ih => intro m; exact Nat.le_trans (ih (min m x.2)) (Nat.min_le_left _ _)

theorem EpRep.relayL {w : World} {T : Tags} {a : Nat} {p : Pool} {e e' : Eps} {E : EpLay} (h : EpRep w T a p e E) (he : e = e') : EpRep w T a p e' E := he ▸ h

set_option maxRecDepth 100000 in
set_option maxHeartbeats 1600000 in
theorem collect0 {w : World} {T : Tags} {a : Nat} {p : Pool} {e : Eps} {E : EpLay} (h : EpRep w T a p e E) (wf : EpWF p e) (hn : e.now < 4611686018427387904) (hle : e.lo ≤ e.now) (hT : ∀ k, w.heap.size ≤ k → T k = (0, 0)) :
    Calls Try.prog 13 #[.pointer (some ⟨a, 0, none⟩)] w (EpPost w T a (.tuple #[.int .i64 ((e.oldest - e.lo : Nat) : Int), .int .i64 0]) (collectN (e.oldest - e.lo) (p, e)).1 (collectN (e.oldest - e.lo) (p, e)).2) := by
  have C := Lib.hid (none_at a false w h.c5)
  have hcnt := wf.cnt
  have CL := Lib.hid (live_any h (by omega))
  have H := Lib.hid h
  have HWF := Lib.hid wf
  have HT := Lib.hid hT
  have hold : e.oldest ≤ e.now := minPin_le _ _
  have hcd : e.cnt = e.now + 1 - e.lo := rfl
  have HCD := Lib.hid hcd
  clear h wf hT hcd
  go_enter Try.func13, Try.ntmps13
  go_wp2_with fail
  refine C.out.mono ?_
  rintro x w' ⟨rfl, rfl⟩
  go_wp2_with fail
  refine CL.out.mono ?_
  rintro x w1 ⟨v, rfl, ho, hnil, hb1⟩
  rcases ho.2 with ⟨hv, h0⟩ | ⟨g, cap, cur, hv, hbase, hgg, hcap⟩
  · exfalso
    have := HCD.out
    omega
  subst hv
  have HO := Lib.hid ho
  have HB1 := Lib.hid hb1
  clear ho hnil hb1 hgg hcap
  go_wp2
  go_loopw [4, 13] (fun x y wr => ∃ i : Nat, i ≤ e.oldest - e.lo ∧ x = .int .i64 i ∧ y = .int .i64 i ∧ Same (EpOwn T) w wr ∧ (∃ E', EpRep wr T a (collectN i (p, e)).1 { e with lo := e.lo + i } E') ∧
      wr.ownsRow w.heap.size 3 1 (.slice (some ⟨g, 0, none⟩) e.cnt cap) e.cnt ((List.range' e.lo e.cnt).map fun (k : Nat) => Value.int .i64 (k : Int))) (fun _ y _ => e.cnt - (intOf y).toNat)
  case atStart => exact ⟨0, Nat.zero_le _, rfl, rfl, Same.of_below HB1.out, ⟨E, (H.out.below HB1.out).relayL rfl⟩, HO.out⟩
  case round =>
    obtain ⟨i, hi, rfl, rfl, hs, ⟨E', hr⟩, hro⟩ := hrel
    have HS := Lib.hid hs
    have HR := Lib.hid hr
    have HRO := Lib.hid hro
    have hic : i < e.cnt := by have := HCD.out; omega
    have cv : wr.cell? ⟨g, i, none⟩ = some (.int .i64 ((e.lo + i : Nat) : Int)) := by
      rw [hro.cellAt i (by omega), List.getElem?_map, List.getElem?_range' hic]
      simp
    have CO0 := oldest_any hr hn (fun x hx => by have := (HWF.out.pins x hx).2; omega)
    have CO : Hid (Calls Try.prog 17 #[.pointer (some ⟨a, 0, none⟩)] wr (OldestPost wr e)) := CO0
    clear CO0
    have hge : w.heap.size ≤ g := hbase
    have hgn : ¬ EpOwn T g := by unfold EpOwn; rw [HT.out g hge]; simp
    clear hs hr hro
    go_wp2_with fail
    refine CO.out.mono ?_
    rintro x w2 ⟨rfl, hb2⟩
    have R2 := HR.out.below hb2
    have HB2 := Lib.hid hb2
    have HR2 := Lib.hid R2
    clear hb2
    have S2 := Lib.hid (HS.out.then_below HB2.out)
    generalize hol : e.oldest = old at *
    by_cases hbr : old ≤ e.lo + i
    · have hie : old - e.lo = i := by omega
      have HIE := Lib.hid hie
      clear hie R2
      go_wp2
      go_ret2
      rw [HIE.out]
      exact ⟨rfl, S2.out, T, E', Ext.refl _ _, by rw [collectN_eps]; exact HR2.out⟩
    · have hlk := fun n => (R2.drewN n).live
      have d0 := R2.c0
      have d2 := R2.c2
      have hk1 : e.lo + i ≤ e.now := by omega
      have de := R2.e0 (e.lo + i) (Nat.le_refl _) hk1
      have hcn : ({ e with lo := e.lo + i } : Eps).cnt = (e.cnt - i - 1) + 1 := by have := HCD.out; simp only [Eps.cnt]; omega
      have hl : (Instr.lookup 65 (.map (some E'.lm)) (.int .i64 ((e.lo + i : Nat) : Int)) false).run Try.prog w2.drew = .ok (.pointer (some ⟨E'.eb (e.lo + i), 0, none⟩)) w2.drew := by
        have h1 := hlk 1
        rw [hcn, liveList_cons] at h1
        have := h1.look_some (t := 65) (e := 70) (v := .pointer (some ⟨E'.eb (e.lo + i), 0, none⟩)) Try.intKeyed Try.underlying65 (int_key (x := ((e.lo + i : Nat) : Int)) (by omega) (by omega)) (by simp) false
        have h2 : (Instr.lookup 65 (.map (some E'.lm)) (.int .i64 ((e.lo + i : Nat) : Int)) false).run Try.prog (w2.drewN 1) = .ok (.pointer (some ⟨E'.eb (e.lo + i), 0, none⟩)) (w2.drewN 1) := by simpa using this
        exact h2
      rw [Int.natCast_add] at hl
      have wfi := HWF.out.collectN i (by omega)
      rw [collectN_eps] at wfi
      have hreg := wfi.reg (e.lo + i) (Nat.le_refl _) hk1
      have hreg1 : (e.era (e.lo + i)).region < 256 := hreg.1
      have CF := Lib.hid (free_any (R2.drewN 1).pool wfi.pool (e.era (e.lo + i)).region hreg1 hreg.2)
      have de' : w2.cell? ⟨E'.eb (e.lo + i), 0, none⟩ = some (.int .i64 ((e.era (e.lo + i)).region : Int)) := de
      clear hlk de wfi hreg R2
      go_wp2
      go_still_tail 13, (by kernel_rfl)
      change wpList _ _ _ _ _ w2.drew
      clear hl
      go_wp2_with fail
      refine CF.out.mono ?_
      rintro x w3 ⟨rfl, S3, L3, R3⟩
      have E3 := (HR2.out.drewN 1).setPool S3 R3
      have hkey := int_key (x := ((e.lo + i : Nat) : Int)) (by omega) (by omega)
      have M3 := E3.live
      have M3' : MapIs w3 Try.prog 3 E'.lm ([] ++ (.int .i64 ((e.lo + i : Nat) : Int), .pointer (some ⟨E'.eb (e.lo + i), 0, none⟩)) :: liveList (e.lo + i + 1) (e.cnt - i - 1) E'.eb) := by
        rw [List.nil_append, ← liveList_cons, ← hcn]; exact M3
      obtain ⟨w4, hrun, hm4, hg4, _⟩ := M3'.del (t := 65) (e := 70) Try.intKeyed Try.underlying65 hkey
      have E4 := E3.dropFirst hg4 (by
        rw [hcn]
        simpa using hm4)
      have Sr : Same (EpOwn T) wr w4 := (((Same.of_below HB2.out).then_drewN 1).trans S3.pool_ep (fun _ _ h => h)).then_grown hg4 (fun k hk => by cases hk; left; unfold EpOwn; rw [E3.tagl]; simp)
      have S4 : Same (EpOwn T) w w4 := HS.out.trans Sr (fun _ _ h => h)
      have f2 := E3.c2
      have O4 : w4.ownsRow w.heap.size 3 1 (.slice (some ⟨g, 0, none⟩) e.cnt cap) e.cnt ((List.range' e.lo e.cnt).map fun (k : Nat) => Value.int .i64 (k : Int)) :=
        Sr.owns (fun k hk => by simp only [Value.ownBlock, Option.some.injEq] at hk; subst hk; exact hgn) HRO.out
      have HE4 := Lib.hid E4
      have HS4 := Lib.hid S4
      have HO4 := Lib.hid O4
      rw [Int.natCast_add] at hrun
      have HRUN := Lib.hid hrun
      clear hrun hm4 hg4 M3 M3' E3 S3 R3 E4 S4 O4 hkey Sr
      go_wp2_with (with_reducible refine wpList_delete_run rfl (.tmp 42) (.tmp 43) 65 3 rfl (.map (some E'.lm)) (.int .i64 ((e.lo : Int) + (i : Int))) rfl rfl HRUN.out ?_)
      have hc1 : (collectN (i + 1) (p, e)).1 = (collectN i (p, e)).1.free (e.era (e.lo + i)).region := by simp only [collectN, collect1, collectN_eps]
      have hi1 : i + 1 ≤ e.oldest - e.lo := by omega
      have R4 := HE4.out
      rw [← hc1] at R4
      exact ⟨⟨i + 1, hi1, by go_num, by go_num, HS4.out, ⟨_, R4⟩, HO4.out⟩, by simp [intOf]; omega⟩

theorem collect_any {w : World} {T : Tags} {a : Nat} {p : Pool} {e : Eps} {E : EpLay} (h : EpRep w T a p e E) (wf : EpWF p e) (hn : e.now < 4611686018427387904) (hle : e.lo ≤ e.now) :
    Calls Try.prog 13 #[.pointer (some ⟨a, 0, none⟩)] w (EpPost w T a (.tuple #[.int .i64 ((e.oldest - e.lo : Nat) : Int), .int .i64 0]) (collectN (e.oldest - e.lo) (p, e)).1 (collectN (e.oldest - e.lo) (p, e)).2) := by
  refine (collect0 h.cut wf hn hle (fun k hk => Tags.cut_ge _ hk)).mono ?_
  rintro x w' ⟨hx, hS, T', E', hX, hR⟩
  exact ⟨hx, hS.mono (fun k hk => by unfold EpOwn; rw [Tags.cut_lt _ hk]; exact id), T', E', hX.of_cut, hR⟩

end Go.Proofs.Ytmnklaphcjchiaa
