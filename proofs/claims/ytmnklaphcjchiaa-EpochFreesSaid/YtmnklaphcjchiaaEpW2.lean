/-
  Walks of epoch.Epochs: Unpin, Oldest, Kept.
-/
import Derived.Test.YtmnklaphcjchiaaEpW1
namespace Go.Proofs.Ytmnklaphcjchiaa
open Go.RowKit
open Go.Maps (Keyed int_keyed keyOf_int_mk)

theorem Try.zeroInt (w : World) : (zeroValue 3).run Try.prog w = .ok (.int .i64 0) w := by kernel_rfl

set_option maxRecDepth 100000 in
set_option maxHeartbeats 400000 in
theorem unpin_miss {w : World} {T : Tags} {a : Nat} {p : Pool} {e : Eps} {E : EpLay} (h : EpRep w T a p e E) (q : Int) (hq0 : -9223372036854775808 ≤ q) (hq1 : q ≤ 9223372036854775807) (hm : ∀ x ∈ e.pins, (x.1 : Int) ≠ q) :
    Calls Try.prog 11 #[.pointer (some ⟨a, 0, none⟩), .int .i64 q] w fun x w' => x = .returned (.int .i64 7) ∧ w = w' := by
  have C := Lib.hid (none_at a false w h.c5)
  have c3 := h.c3
  have hl := h.pins.look_none (t := 66) (e := 3) Try.intKeyed Try.underlying66 (Try.zeroInt w) (int_key hq0 hq1) (fun x hx e1 => by
    obtain ⟨y, hy, rfl⟩ := List.mem_map.1 hx
    simp only [Value.int.injEq, true_and] at e1
    exact hm y hy e1) true
  simp only [if_true] at hl
  clear h
  go_enter Try.func11, Try.ntmps11
  go_wp2_with fail
  refine C.out.mono ?_
  rintro e w' ⟨rfl, rfl⟩
  go_wp2
  go_ret
  exact ⟨rfl, rfl⟩

set_option maxRecDepth 100000 in
set_option maxHeartbeats 400000 in
theorem unpin_ok {w : World} {T : Tags} {a : Nat} {p : Pool} {e : Eps} {E : EpLay} (h : EpRep w T a p e E) (q k : Nat) (l1 l2 : List (Nat × Nat)) (hl : e.pins = l1 ++ (q, k) :: l2) (hq1 : q < 4611686018427387904) :
    Calls Try.prog 11 #[.pointer (some ⟨a, 0, none⟩), .int .i64 q] w (EpPost w T a (.int .i64 0) p { e with pins := l1 ++ l2 }) := by
  have C := Lib.hid (none_at a false w h.c5)
  have c3 := h.c3
  have hk := int_key (x := (q : Int)) (by omega) (by omega)
  have hp := h.pins
  rw [hl] at hp
  have hlk := hp.look_some (t := 66) (e := 3) (v := .int .i64 k) Try.intKeyed Try.underlying66 hk (by simp [pinList]) true
  simp only [if_true] at hlk
  have hp' : MapIs w Try.prog 3 E.pm (pinList l1 ++ (.int .i64 (q : Int), .int .i64 (k : Int)) :: pinList l2) := by simpa [pinList] using hp
  have nap : E.pm ≠ a := tag_ne h.tagp h.taga (by simp)
  obtain ⟨w2, hrun, hm2, hg2, hz2⟩ := hp'.del (t := 66) (e := 3) Try.intKeyed Try.underlying66 hk
  have S2 : Same (fun k => k = a ∨ k = E.pm) w w2 := (Same.refl _ w).then_grown hg2 (fun k hk => Or.inl (Or.inr (Option.some.inj hk).symm))
  have ga : ∀ o v, w.cell? ⟨a, o, none⟩ = some v → w2.cell? ⟨a, o, none⟩ = some v := fun o v hv => hg2.cell (a := ⟨a, o, none⟩) hv (fun e1 => nap (Option.some.inj e1).symm)
  have hfa : Free w2 a := Free.of_block h.fa (hg2.block a h.lta (fun e1 => nap (Option.some.inj e1).symm))
  have R2 : EpRep w2 T a p { e with pins := l1 ++ l2 } E :=
    h.setPins S2 (fun k _ hk => hk) _ e.last ((ga 0 _ h.c0).trans h.c0.symm) ((ga 1 _ h.c1).trans h.c1.symm) ((ga 2 _ h.c2).trans h.c2.symm) ((ga 3 _ h.c3).trans h.c3.symm) (ga 4 _ h.c4) ((ga 5 _ h.c5).trans h.c5.symm) hfa
      (by simpa [pinList] using hm2)
  have SP : Same (EpOwn T) w w2 := S2.mono (fun k _ hk => by
    unfold EpOwn
    rcases hk with rfl | rfl
    · rw [h.taga]; simp
    · rw [h.tagp]; simp)
  have HR2 := Lib.hid R2
  have HSP := Lib.hid SP
  have HRUN := Lib.hid hrun
  clear h hp hp' hm2 hg2 hz2 S2 ga hfa R2 SP hrun hl hk
  go_enter Try.func11, Try.ntmps11
  go_wp2_with fail
  refine C.out.mono ?_
  rintro e w' ⟨rfl, rfl⟩
  go_wp2_with (with_reducible refine wpList_delete_run rfl (.tmp 23) (.tmp 24) 66 3 rfl (.map (some E.pm)) (.int .i64 q) rfl rfl HRUN.out ?_)
  go_wp2
  go_ret
  exact ⟨rfl, HSP.out, T, E, Ext.refl _ _, HR2.out⟩

end Go.Proofs.Ytmnklaphcjchiaa
