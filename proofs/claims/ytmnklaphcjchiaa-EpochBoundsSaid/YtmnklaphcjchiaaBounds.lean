/-
  The walk of EpochBounds.
-/
import Derived.Test.YtmnklaphcjchiaaAges
namespace Go.Proofs.Ytmnklaphcjchiaa
open Go.RowKit

/-- So many pins of epoch 1. -/
def epsPins (k : Nat) : Eps := { eps1 with pins := (List.range k).map fun j => (j + 1, 1), last := k }

theorem epsPins_succ (k : Nat) : pin1 (epsPins k) = epsPins (k + 1) := by
  unfold pin1 epsPins
  simp [List.range_succ]
  rfl

theorem Sta.at_ {w : World} {T : Tags} {a b : Nat} {p : Pool} {e e' : Eps} {B : Nat} (h : Sta w T a b p e B) (he : e = e') : Sta w T a b p e' B := he ▸ h

theorem minPin_const {l : List (Nat × Nat)} (hne : l ≠ []) (h : ∀ x ∈ l, x.2 = 1) (m : Nat) (hm : 1 ≤ m) : minPin m l = 1 := by
  have h1 := minPin_ge (t := 1) (fun x hx => by rw [h x hx]; omega) m hm
  cases l with
  | nil => exact absurd rfl hne
  | cons x l =>
    have h2 : minPin m (x :: l) ≤ 1 := by
      show minPin (min m x.2) l ≤ 1
      have h3 := minPin_le l (min m x.2)
      have h4 := h x (by simp)
      omega
    omega

theorem let_small (z : Int) : ∃ t : Nat, t < 1000 ∧ wrap64 (1 + wrap64 ((IntKind.u64.wrap z).tmod 1000)) = (t : Int) + 1 := by
  have h1 : IntKind.u64.wrap z = z % 18446744073709551616 := by simp [IntKind.wrap, IntKind.signed, IntKind.bits]
  rw [h1]
  have h2 : 0 ≤ z % 18446744073709551616 := Int.emod_nonneg _ (by omega)
  rw [Int.tmod_eq_emod_of_nonneg h2]
  refine ⟨((z % 18446744073709551616) % 1000).toNat, by omega, ?_⟩
  unfold wrap64
  omega

set_option maxRecDepth 100000 in
set_option maxHeartbeats 1600000 in
theorem bounds_walk (w : World) (z : Int) : Calls Try.prog 4 #[.int .i64 z] w (fun x w' => x = .returned (.bool true) ∧ Below w.heap.size w w') := by
  have CG := ages_true w
  go_enter Try.func4, Try.ntmps4
  go_wp2_with fail
  refine CG.mono ?_
  rintro x w0 ⟨rfl, hB0⟩
  have CN : Calls Try.prog 8 #[.int .i64 64, .int .i64 1] w0 (NewPost w0 (fun _ => (0, 0)) (Pool.new 64 1)) := new_any w0 _ 64 1 (by omega) (by omega) (by omega) (by omega) (by omega) (by omega)
  have HB0 := Lib.hid hB0
  clear CG hB0
  go_wp2_with fail
  refine CN.mono ?_
  rintro x w1 hx
  obtain ⟨b, rfl, T1, L1, hB1, hX1, hR1⟩ := newPost_cases hx
  have CE := Lib.hid (epochNew_any hR1 (by omega) (by omega) (by omega) (by omega) (by omega))
  have S1 : Hid (Since w0 w1 T1) := ⟨hB1, fun k hk => hX1 k hk⟩
  clear hx CN hB1 hX1 hR1
  go_wp2_with fail
  refine CE.out.mono ?_
  rintro x w2 ⟨a, rfl, T2, hX2, hS2, hT2⟩
  have S2 := Lib.hid (S1.out.step hS2 hX2)
  have HT2 := Lib.hid hT2
  clear CE S1 hX2 hS2 hT2
  go_wp2
  go_loopw [6] (fun x wr => ∃ k : Nat, k ≤ 1000 ∧ x = .int .i64 ((k : Int) + 1) ∧ ∃ Tk, Since w0 wr Tk ∧ Sta wr Tk a b (pool1 64 1) (epsPins k) 0) (fun x _ => 1001 - (intOf x).toNat)
  case atStart => exact ⟨0, Nat.zero_le _, rfl, T2, S2.out, HT2.out.at_ (by simp [epsPins, eps1, Eps.none, Eps.advance])⟩
  case round =>
    obtain ⟨k, hk, rfl, Tk, hSk, hTk⟩ := hrel
    have SK := Lib.hid hSk
    have HTK := Lib.hid hTk
    clear hSk hTk
    by_cases hlt : k < 1000
    · have d1 : decide ((1000 : Int) < (k : Int) + 1) = false := by simp; omega
      have d2 : decide ((k : Int) + 1 ≤ 1000) = true := by simp; omega
      have CP : Hid (Calls Try.prog 10 #[.pointer (some ⟨a, 0, none⟩)] wr (StaPost wr Tk a b (.tuple #[.int .i64 ((k : Int) + 1), .int .i64 0]) (pool1 64 1) (pin1 (epsPins k)) 0)) :=
        HTK.out.pin (by simp [epsPins]; omega) (by show k < _; omega)
      go_wp2_with fail
      refine CP.out.mono ?_
      rintro x w3 ⟨rfl, hS3, T3, hX3, hT3⟩
      rw [epsPins_succ] at hT3
      have S3 := Lib.hid (SK.out.step hS3 hX3)
      have HT3 := Lib.hid hT3
      clear hS3 hX3 hT3
      go_wp2
      exact ⟨⟨k + 1, by omega, by go_num, T3, S3.out, HT3.out⟩, by simp [intOf]; omega⟩
    · obtain rfl : k = 1000 := by omega
      have CP := Lib.hid (HTK.out.pinBig (by simp [epsPins]))
      go_wp2_with fail
      refine CP.out.mono ?_
      rintro x w3 ⟨rfl, rfl⟩
      clear CP
      obtain ⟨t, ht, hlet⟩ := let_small z
      obtain ⟨l1, l2, hl⟩ := List.append_of_mem (show (t + 1, 1) ∈ (epsPins 1000).pins from List.mem_map.2 ⟨t, List.mem_range.2 ht, rfl⟩)
      have hlen : (l1 ++ l2).length = 999 := by
        have h1 := congrArg List.length hl
        simp [epsPins] at h1
        simp
        omega
      have hone : ∀ x ∈ l1 ++ l2, x.2 = 1 := fun x hx => by
        have h1 : x ∈ (epsPins 1000).pins := by
          rw [hl]
          rcases List.mem_append.1 hx with hx | hx
          · exact List.mem_append_left _ hx
          · exact List.mem_append_right _ (List.mem_cons_of_mem _ hx)
        obtain ⟨j, -, rfl⟩ := List.mem_map.1 h1
        rfl
      have CU : Hid (Calls Try.prog 11 #[.pointer (some ⟨a, 0, none⟩), .int .i64 ((t : Int) + 1)] wr (StaPost wr Tk a b (.int .i64 0) (pool1 64 1) { epsPins 1000 with pins := l1 ++ l2 } 0)) := HTK.out.unpin (t + 1) 1 l1 l2 hl (by omega)
      have HLEN := Lib.hid hlen
      have HONE := Lib.hid hone
      clear hl hlen hone
      go_wp2_with fail
      clear hlet
      refine CU.out.mono ?_
      rintro x w3 ⟨rfl, hS3, T3, hX3, hT3⟩
      have S3 := Lib.hid (SK.out.step hS3 hX3)
      have CP : Hid (Calls Try.prog 10 #[.pointer (some ⟨a, 0, none⟩)] w3 (StaPost w3 T3 a b (.tuple #[.int .i64 1001, .int .i64 0]) (pool1 64 1) (pin1 { epsPins 1000 with pins := l1 ++ l2 }) 0)) :=
        hT3.pin (by show (l1 ++ l2).length < 1000; rw [HLEN.out]; omega) (by show 1000 < _; omega)
      clear CU SK HTK hS3 hX3 hT3
      go_wp2_with fail
      refine CP.out.mono ?_
      rintro x w4 ⟨rfl, hS4, T4, hX4, hT4⟩
      have S4 := Lib.hid (S3.out.step hS4 hX4)
      obtain ⟨P, hP⟩ : ∃ P, P = l1 ++ l2 ++ [(1001, 1)] := ⟨_, rfl⟩
      obtain ⟨e4, he4⟩ : ∃ e, e = pin1 { epsPins 1000 with pins := l1 ++ l2 } := ⟨_, rfl⟩
      have HP : Hid (P.length = 1000 ∧ (∀ x ∈ P, x.2 = 1) ∧ P ≠ []) := ⟨by rw [hP, List.length_append, HLEN.out]; rfl, fun x hx => by
        rw [hP] at hx
        rcases List.mem_append.1 hx with hx | hx
        · exact HONE.out x hx
        · simp only [List.mem_singleton] at hx; subst hx; rfl, by rw [hP]; simp⟩
      have HE4 : Hid (e4.pins = P ∧ e4.lo = 1 ∧ e4.now = 1) := ⟨by rw [he4, hP]; rfl, by rw [he4]; rfl, by rw [he4]; rfl⟩
      rw [← he4] at hT4
      have HT4 := Lib.hid hT4
      have CB := Lib.hid (hT4.pinBig (by rw [HE4.out.1, HP.out.1]; omega))
      clear CP S3 hS4 hX4 hT4 hP he4 HONE HLEN
      go_wp2_with fail
      refine CB.out.mono ?_
      rintro x w5 ⟨rfl, rfl⟩
      clear CB
      go_wp2
      go_loopw [16] (fun x wr => ∃ k : Nat, k ≤ 255 ∧ x = .int .i64 ((k : Int) + 2) ∧ ∃ Tk p e, Since w0 wr Tk ∧ Sta wr Tk a b p e 0 ∧ e.lo = 1 ∧ e.now = k + 1 ∧ e.pins = P) (fun x _ => 257 - (intOf x).toNat)
      case atStart => exact ⟨0, Nat.zero_le _, rfl, T4, _, _, S4.out, HT4.out, HE4.out.2.1, HE4.out.2.2, HE4.out.1⟩
      case round =>
        obtain ⟨k, hk, rfl, Tk, p, e, hSk, hTk, elo, enow, epins⟩ := hrel
        have SK := Lib.hid hSk
        have HTK := Lib.hid hTk
        have M : Hid (e.lo = 1 ∧ e.now = k + 1 ∧ e.pins = P) := ⟨elo, enow, epins⟩
        clear hSk hTk elo enow epins
        by_cases hlt : k < 255
        · have d1 : decide ((256 : Int) < (k : Int) + 2) = false := by simp; omega
          have d2 : decide ((k : Int) + 2 ≤ 256) = true := by simp; omega
          obtain ⟨q, e', ha⟩ := advance_there HTK.out.inv (by simp only [Eps.cnt]; have h1 := M.out.1; have h2 := M.out.2.1; omega)
          have CA : Hid (Calls Try.prog 12 #[.pointer (some ⟨a, 0, none⟩)] wr (StaPost wr Tk a b (.tuple #[.int .i64 ((k : Int) + 2), .int .i64 0]) q e' 0)) := by
            have h1 := HTK.out.advance (by have h2 := M.out.2.1; omega)
            unfold StaAdvance at h1
            rw [ha, M.out.2.1, show (((k + 1 : Nat) : Int) + 1) = (k : Int) + 2 by omega] at h1
            exact h1
          have F := Lib.hid (advanced_facts HTK.out.inv ha)
          clear ha
          go_wp2_with fail
          refine CA.out.mono ?_
          rintro x w5 ⟨rfl, hS5, T5, hX5, hT5⟩
          have S5 := Lib.hid (SK.out.step hS5 hX5)
          have HT5 := Lib.hid hT5
          clear CA hS5 hX5 hT5
          go_wp2
          have f3 := F.out.2.2.1
          have f4 := F.out.2.2.2.1
          have f5 := F.out.2.2.2.2.1
          have m1 := M.out.1
          have m2 := M.out.2.1
          have m3 := M.out.2.2
          exact ⟨⟨k + 1, by omega, by go_num, T5, q, e', S5.out, HT5.out, by omega, by omega, by rw [f5]; exact m3⟩, by simp [intOf]; omega⟩
        · obtain rfl : k = 255 := by omega
          have CA : Hid (Calls Try.prog 12 #[.pointer (some ⟨a, 0, none⟩)] wr (fun x w' => x = .returned (.tuple #[.int .i64 0, .int .i64 5]) ∧ wr = w')) := by
            have h1 := HTK.out.advance (by have h2 := M.out.2.1; omega)
            unfold StaAdvance at h1
            rw [advance_none HTK.out.inv (by simp only [Eps.cnt]; have h1 := M.out.1; have h2 := M.out.2.1; omega)] at h1
            exact h1
          have old : e.oldest = 1 := by
            unfold Eps.oldest
            rw [M.out.2.1, M.out.2.2]
            exact minPin_const HP.out.2.2 HP.out.2.1 _ (by omega)
          have hn : e.now < 4611686018427387904 := by have h2 := M.out.2.1; omega
          have CC : Hid (Calls Try.prog 13 #[.pointer (some ⟨a, 0, none⟩)] wr (StaPost wr Tk a b (.tuple #[.int .i64 0, .int .i64 0]) p e 0)) := by
            have h1 := HTK.out.collect hn
            have hsub : e.oldest - e.lo = 0 := by rw [old, M.out.1]
            rw [hsub] at h1
            exact h1
          have OLD := Lib.hid old
          have HN := Lib.hid hn
          clear old hn
          go_wp2_with fail
          refine CA.out.mono ?_
          rintro x w5 ⟨rfl, rfl⟩
          clear CA
          go_wp2_with fail
          refine CC.out.mono ?_
          rintro x w6 ⟨rfl, hS6, T6, hX6, hT6⟩
          have S6 := Lib.hid (SK.out.step hS6 hX6)
          have CW : Hid (Calls Try.prog 16 #[.pointer (some ⟨a, 0, none⟩)] w6 fun x w' => x = .returned (.int .i64 256) ∧ w6 = w') := by
            have h1 := hT6.nowIs
            rw [M.out.2.1] at h1
            exact h1
          have CO : Hid (Calls Try.prog 17 #[.pointer (some ⟨a, 0, none⟩)] w6 fun x w' => x = .returned (.int .i64 1) ∧ Below w6.heap.size w6 w') := by
            have h1 := hT6.oldestIs HN.out
            rw [OLD.out] at h1
            exact h1
          have HT6 := Lib.hid hT6
          clear CC SK HTK hS6 hX6 hT6
          go_wp2_with fail
          refine CW.out.mono ?_
          rintro x w7 ⟨rfl, rfl⟩
          clear CW
          go_wp2_with fail
          refine CO.out.mono ?_
          rintro x w7 ⟨rfl, hB7⟩
          have CL := Lib.hid (HT6.out.below hB7).liveIs
          have S7 := Lib.hid (S6.out.next hB7)
          clear CO S6 hB7
          go_wp2_with fail
          refine CL.out.mono ?_
          rintro x w8 ⟨v, rfl, ho, -, hB8⟩
          have hc : e.cnt = 256 := by simp only [Eps.cnt]; have h1 := M.out.1; have h2 := M.out.2.1; omega
          rw [hc] at ho
          obtain ⟨g, cap, rfl⟩ := Joins.ownsRow_form ho (by omega)
          have S8 := Lib.hid (S7.out.next hB8)
          clear CL S7 ho hB8 hc
          go_wp2
          go_ret
          exact ⟨rfl, HB0.out.trans (S8.out.below.mono HB0.out.size)⟩

end Go.Proofs.Ytmnklaphcjchiaa
