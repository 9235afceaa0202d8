/-
  The walk of EpochFrees.
-/
import Derived.Test.YtmnklaphcjchiaaFreeR
import Derived.Test.YtmnklaphcjchiaaKeeps
import Derived.Deep.CutBlock
namespace Go.Proofs.Ytmnklaphcjchiaa
open Go.RowKit

theorem free_small (z : Int) {L : Nat} (h0 : 0 < L) (h1 : L ≤ 1000) : ∃ t : Nat, t < L ∧ wrap64 (1 + wrap64 ((IntKind.u64.wrap z).tmod (L : Int))) = (t : Int) + 1 := by
  obtain ⟨t, ht, h⟩ := keep_small z h0 h1
  refine ⟨t, ht, ?_⟩
  rw [h, w64_in (by omega) (by omega)]
  omega

theorem goneCells : (madeCells #[.bool false] (200 * 1)).toList = (List.replicate 200 false).map Value.bool := by kernel_rfl

theorem Try.infoBool : (Try.prog.info? 4).map (fun i => (i.zero, i.size, i.bytes)) = some (some (.bool false), 1, 1) := by kernel_rfl

/-- A text of this law. -/
def TextU (v : Value) : Prop := ∃ S : ByteArray, v = .string S ∧ 1 ≤ S.size ∧ S.size ≤ 201

theorem textU_short {s : ByteArray} (h : s.size ≤ 200) : 1 ≤ (({ data := #[117] } : ByteArray) ++ s).size ∧ (({ data := #[117] } : ByteArray) ++ s).size ≤ 201 := by
  have h1 : ({ data := #[117] } : ByteArray).size = 1 := rfl
  rw [ByteArray.size_append, h1]; omega

theorem textU_long {s : ByteArray} (h : 200 < s.size) : 1 ≤ (({ data := #[117] } : ByteArray) ++ s.extract 0 200).size ∧ (({ data := #[117] } : ByteArray) ++ s.extract 0 200).size ≤ 201 := by
  have h1 : ({ data := #[117] } : ByteArray).size = 1 := rfl
  rw [ByteArray.size_append, ByteArray.size_extract, h1]; omega

def FreeCut (w0 : World) (a b gb i : Nat) (x vn : Value) (w : World) : Prop := FreeMid w0 a b gb i x vn w

set_option maxRecDepth 100000 in
set_option maxHeartbeats 16000000 in
theorem frees_walk (w : World) (ad : Option Addr) (len cap : Nat) (hd : DaysAt w ad len) : Calls Try.prog 6 #[.slice ad len cap] w (fun x w' => x = .returned (.bool true) ∧ Below w.heap.size w w') := by
  have CG := ages_true w
  have HD := Lib.hid hd
  clear hd
  go_enter Try.func6, Try.ntmps6
  go_wp2_with fail
  refine CG.mono ?_
  rintro x w0 ⟨rfl, hB0⟩
  have CN : Calls Try.prog 8 #[.int .i64 256, .int .i64 100] w0 (NewPost w0 (fun _ => (0, 0)) (Pool.new 256 100)) := new_any w0 _ 256 100 (by omega) (by omega) (by omega) (by omega) (by omega) (by omega)
  have HB0 := Lib.hid hB0
  clear CG hB0
  go_wp2_with fail
  refine CN.mono ?_
  rintro x w1 hx
  obtain ⟨b, rfl, T1, L1, hB1, hX1, hR1⟩ := newPost_cases hx
  have CE := Lib.hid (epochNew_any hR1 (by omega) (by omega) (by omega) (by omega) (by omega))
  have S1 : Hid (Since w0 w1 T1) := ⟨hB1, fun k hk => hX1 k hk⟩
  clear hx CN hB1 hX1 hR1
  go_wp2_with fail
  refine CE.out.mono ?_
  rintro x w2 ⟨a, rfl, T2, hX2, hS2, hT2⟩
  have S2 := Lib.hid (S1.out.step hS2 hX2)
  have HT2 := Lib.hid hT2
  clear CE S1 hX2 hS2 hT2
  go_upto_region 10 with fail
  rename_i K10 hK10
  go_cut [7] (fun v wx => ∃ gb, v = .slice (some ⟨gb, 0, none⟩) 200 200 ∧ FreeMem w0 a b gb (.slice none 0 0) wx T2 (pool1 256 100) eps1 (List.replicate 200 false) [] 0)
  case first =>
    obtain ⟨i4, hi4, z4, s4, b4⟩ := info_parts Try.infoBool
    have h0s : w0.heap.size ≤ w2.heap.size := S2.out.below.size
    go_wp2_with (refine wpList_make_full _ rfl (.const (.int .i64 200)) (.const (.int .i64 200)) 56 rfl w0.heap.size 4 i4 (.bool false) 1 Try.underlying56 hi4 z4 s4 .i64 .i64 200 200 200 rfl rfl rfl rfl (by rw [b4]; omega) (by unfold maxLen; omega) h0s ?_)
    intro w3 ho3 hg3
    have R0 : Hid (FreeMem w0 a b w2.heap.size (.slice none 0 0) w3 T2 (pool1 256 100) eps1 (List.replicate 200 false) [] 0) := by
      have SG : Same (fun _ => False) w2 w3 := (Same.refl _ _).then_grown hg3 (fun k hk => by cases hk)
      refine ⟨S2.out.write SG (fun _ _ h => h), HT2.out.same SG (fun _ _ _ h => h), ⟨?_, fun g hg => ?_⟩, Mine.nil _ _ _ _⟩
      · rw [← goneCells]; exact ho3
      · cases hg; exact HT2.out.fresh _ (Nat.le_refl _)
    clear ho3 hg3
    go_wp2
    go_meet
    exact ⟨_, rfl, R0.out⟩
  case rest =>
    obtain ⟨gb, rfl, hM0⟩ := hcut
    have HM0 := Lib.hid hM0
    clear hM0
    refine hK10 _ _ ?_
    clear hK10
    go_upto_block 0 with fail
    rename_i K0 hK0
    go_cut [6, 8] (fun x vn wx => ∃ i, i ≤ 100 ∧ FreeCut w0 a b gb i x vn wx)
    case first =>
      go_wp2
      go_loopw [6, 8, 9] (fun x vn y wr => ∃ i : Nat, i ≤ 100 ∧ i ≤ len ∧ y = .int .i64 i ∧ FreeCut w0 a b gb i x vn wr) (fun _ _ y _ => 101 - (intOf y).toNat)
      case atStart => exact ⟨0, by omega, Nat.zero_le _, rfl, 0, T2, _, _, _, [], 0, rfl, HM0.out, Nat.le_refl _, FreeInv.start⟩
      case round =>
        obtain ⟨i, hi, hil, rfl, n, T, p, e, D, N, B, rfl, hM, hB, hI⟩ := hrel
        have HM := Lib.hid hM
        have HI := Lib.hid hI
        have hDi := Lib.hid (HB0.out.trans (hM.since.below.mono HB0.out.size))
        obtain ⟨vna, vnc, rfl⟩ := owns_shape hM.n.own
        have hn : n ≤ 100 := by have := hI.len; omega
        clear hM hI HM0
        by_cases hlt : i < len ∧ i < 100
        · obtain ⟨h1, h2⟩ := hlt
          obtain ⟨db, off, rfl, hdw, c, nn, y, s, k0w, k1w, -, k3w, k4⟩ := HD.out i h1
          have hdb : db < wr.heap.size := Nat.lt_of_lt_of_le hdw hDi.out.size
          have k0 := below_cell hDi.out k0w
          have k1 := below_cell hDi.out k1w
          have k3 := below_cell hDi.out k3w
          have K3 := Lib.hid k3w
          clear hDi k0w k1w k3w hdw
          have d1 : decide ((i : Int) < (len : Int)) = true := by simp; omega
          have d2 : decide ((i : Int) < 100) = true := by simp; omega
          have d3 : (i : Int) < (len : Int) := by omega
          have d4 : (i : Int) < 100 := by omega
          go_upto_region 15 with fail
          rename_i K15 hK15
          go_cut [54] (fun s' wx => s' = .int .i64 c ∧ wr = wx)
          case first =>
            go_wp2_with fail
            go_meet
            exact ⟨rfl, rfl⟩
          case rest =>
            obtain ⟨rfl, rfl⟩ := hcut
            refine hK15 _ _ ?_
            clear hK15
            by_cases c1 : c = 1
            · subst c1
              as_aux_lemma =>
                have CP := Lib.hid (free_pin HM.out HI.out (by omega))
                have hw : wrap64 ((n : Int) + 1) = (n : Int) + 1 := w64_in (by omega) (by omega)
                go_wp2_with fail
                refine CP.out.mono ?_
                rintro x w3 ⟨rfl, T3, hM3⟩
                clear hw
                have R5 : Hid (FreeCut w0 a b gb (i + 1) (.int .i64 ((n : Int) + 1)) (.slice vna N.length vnc) w3) := ⟨n + 1, T3, p, pin1 e, D, N, B, by go_num, hM3, by omega, HI.out.pin⟩
                clear CP hM3
                go_wp2
                exact ⟨⟨i + 1, by omega, by omega, by go_num, R5.out⟩, by simp [intOf]; omega⟩
            by_cases c2 : c = 2
            · subst c2
              as_aux_lemma =>
                by_cases hG : n = 0
                · have R5 : Hid (FreeCut w0 a b gb (i + 1) (.int .i64 (n : Int)) (.slice vna N.length vnc) wr) := ⟨n, T, p, e, D, N, B, rfl, HM.out, by omega, HI.out.mono⟩
                  have g1 : decide ((0 : Int) < (n : Int)) = false := decide_eq_false (by omega)
                  go_wp2
                  exact ⟨⟨i + 1, by omega, by omega, by go_num, R5.out⟩, by simp [intOf]; omega⟩
                · have g1 : decide ((0 : Int) < (n : Int)) = true := decide_eq_true (by omega)
                  obtain ⟨t, ht, hlet⟩ := free_small nn (L := n) (by omega) (by omega)
                  have CU := Lib.hid (free_unpin HM.out HI.out (by omega) ht)
                  have hu0 : ¬ (n : Int) = 0 := by omega
                  have hu1 : ((n : Int) == 0) = false := beq_eq_false_iff_ne.2 hu0
                  have t1 : (0 : Int) ≤ (t : Int) := by omega
                  have t2 : (t : Int) + 1 < 200 := by omega
                  have hu := u64_in (x := (n : Int)) (by omega) (by omega)
                  go_wp2_with fail
                  rw [hlet]
                  clear hlet hu hu0 hu1
                  refine CU.out.mono ?_
                  rintro x w3 ⟨r, T3, e3, rfl, hM3, hI3⟩
                  obtain ⟨-, q1⟩ := hM3.dCell HI.out.dl (show t + 1 < 200 by omega)
                  obtain ⟨q0, -⟩ := hM3.dCell HI.out.dl (show t + 1 < 200 by omega)
                  have R5 : Hid (FreeCut w0 a b gb (i + 1) (.int .i64 (n : Int)) (.slice vna N.length vnc) (w3.setCell ⟨gb, t + 1, none⟩ (.bool true))) := ⟨n, T3, p, e3, _, N, B, rfl, hM3.dSet (t + 1) true, by omega, hI3⟩
                  clear CU hM3 hI3
                  go_wp2
                  exact ⟨⟨i + 1, by omega, by omega, by go_num, R5.out⟩, by simp [intOf]; omega⟩
            by_cases c5 : c = 5
            · subst c5
              as_aux_lemma =>
                have CA := Lib.hid (free_advance HM.out HI.out (by omega))
                go_wp2_with fail
                refine CA.out.mono ?_
                rintro x w3 ⟨v, T3, q, e', rfl, hM3, hI3⟩
                have R5 : Hid (FreeCut w0 a b gb (i + 1) (.int .i64 (n : Int)) (.slice vna N.length vnc) w3) := ⟨n, T3, q, e', D, N, B, rfl, hM3, by omega, hI3⟩
                clear CA hM3 hI3
                go_wp2
                exact ⟨⟨i + 1, by omega, by omega, by go_num, R5.out⟩, by simp [intOf]; omega⟩
            by_cases c6 : c = 6
            · subst c6
              as_aux_lemma =>
                have CA := Lib.hid (free_collect HM.out HI.out (by omega))
                go_wp2_with fail
                refine CA.out.mono ?_
                rintro x w3 ⟨v, T3, q, e', rfl, hM3, hI3⟩
                have R5 : Hid (FreeCut w0 a b gb (i + 1) (.int .i64 (n : Int)) (.slice vna N.length vnc) w3) := ⟨n, T3, q, e', D, N, B, rfl, hM3, by omega, hI3⟩
                clear CA hM3 hI3
                go_wp2
                exact ⟨⟨i + 1, by omega, by omega, by go_num, R5.out⟩, by simp [intOf]; omega⟩
            · have e1 : (c == 1) = false := by simpa using c1
              have e2 : (c == 2) = false := by simpa using c2
              have e5 : (c == 5) = false := by simpa using c5
              have e6 : (c == 6) = false := by simpa using c6
              obtain ⟨S, X, hS, hX, s0, s1⟩ : ∃ S X : ByteArray, ({ data := #[117] } : ByteArray) ++ X = S ∧ (s.size ≤ 200 ∧ X = s ∨ 200 < s.size ∧ X = s.extract 0 200) ∧ 1 ≤ S.size ∧ S.size ≤ 201 := by
                by_cases hs : s.size ≤ 200
                · exact ⟨_, s, rfl, .inl ⟨hs, rfl⟩, textU_short hs⟩
                · exact ⟨_, _, rfl, .inr ⟨by omega, rfl⟩, textU_long (by omega)⟩
              go_upto_region 16 with fail
              rename_i K16 hK16
              go_cut [13, 14] (fun x r wx => RetHere w0 a b gb i n (.slice vna N.length vnc) D N x r wx)
              case first =>
                as_aux_lemma =>
                  have M1 := (HM.out.alloc zeroNote).drew
                  have M2 := HM.out.drew.below (bytesWorld_below wr.drew 5 S)
                  have M3 := M1.below (bytesWorld_below (wr.alloc zeroNote).drew 5 S)
                  have M4 := M2.alloc zeroNote
                  have hfr : ∀ k, wr.heap.size ≤ k → ¬ EpOwn T k := fun k hk => HM.out.sta.other hk
                  have hko := hfr
                  have hk3 : wr.drew.cell? ⟨db, off + i * 4 + 3, none⟩ = some (.string s) := k3
                  have k3A : (wr.alloc zeroNote).drew.cell? ⟨db, off + i * 4 + 3, none⟩ = some (.string s) := below_cell (w := wr) ((Below.refl _ _).alloc (Nat.le_refl _) zeroNote).drew k3
                  have k3B : (Lib.bytesWorld wr.drew 5 S).cell? ⟨db, off + i * 4 + 3, none⟩ = some (.string s) := below_cell (bytesWorld_below wr.drew 5 S) hk3
                  have k3C : (Lib.bytesWorld (wr.alloc zeroNote).drew 5 S).cell? ⟨db, off + i * 4 + 3, none⟩ = some (.string s) := below_cell (bytesWorld_below _ 5 S) k3A
                  have k3D : ((Lib.bytesWorld wr.drew 5 S).alloc zeroNote).cell? ⟨db, off + i * 4 + 3, none⟩ = some (.string s) := below_cell ((Below.refl _ _).alloc (Nat.le_refl _) _) k3B
                  have hcv : (convert 9 48 (.string S)).run Try.prog wr.drew = .ok (.slice (some ⟨wr.heap.size, 0, none⟩) S.size (grownCap wr.drew S.size 0 5)) (Lib.bytesWorld wr.drew 5 S) :=
                    Lib.run_convert_string_bytes (P := Try.prog) wr.drew 9 48 5 S Try.underlying9 Try.underlying48 Try.underlying5
                  have hcv1 : (convert 9 48 (.string S)).run Try.prog (wr.alloc zeroNote).drew = .ok (.slice (some ⟨wr.heap.size + 1, 0, none⟩) S.size (grownCap (wr.alloc zeroNote).drew S.size 0 5)) (Lib.bytesWorld (wr.alloc zeroNote).drew 5 S) := by
                    have h := Lib.run_convert_string_bytes (P := Try.prog) (wr.alloc zeroNote).drew 9 48 5 S Try.underlying9 Try.underlying48 Try.underlying5
                    rw [show (wr.alloc zeroNote).drew.heap.size = wr.heap.size + 1 by simp] at h
                    exact h
                  have CR3 : Hid (Calls Try.prog 14 #[.pointer (some ⟨a, 0, none⟩), .slice (some ⟨wr.heap.size, 0, none⟩) S.size (grownCap wr.drew S.size 0 5)] (Lib.bytesWorld wr.drew 5 S) (RetAny w0 a b gb i n (.slice vna N.length vnc) D N B S (Lib.bytesWorld wr.drew 5 S) T)) :=
                    free_retire M2 HI.out (by omega) hB S s0 s1 _ _ (hfr _ (Nat.le_refl _)) (bytesWorld_cell' wr.drew _ S)
                  have CR2 : Hid (Calls Try.prog 14 #[.pointer (some ⟨a, 0, none⟩), .slice (some ⟨wr.heap.size, 0, none⟩) S.size (grownCap wr.drew S.size 0 5)] ((Lib.bytesWorld wr.drew 5 S).alloc zeroNote) (RetAny w0 a b gb i n (.slice vna N.length vnc) D N B S ((Lib.bytesWorld wr.drew 5 S).alloc zeroNote) T)) :=
                    free_retire M4 HI.out (by omega) hB S s0 s1 _ _ (hfr _ (Nat.le_refl _)) (fun j hj => below_cell ((Below.refl _ _).alloc (Nat.le_refl _) _) (bytesWorld_cell' wr.drew _ S j hj))
                  have CR1 : Hid (Calls Try.prog 14 #[.pointer (some ⟨a, 0, none⟩), .slice (some ⟨wr.heap.size + 1, 0, none⟩) S.size (grownCap (wr.alloc zeroNote).drew S.size 0 5)] (Lib.bytesWorld (wr.alloc zeroNote).drew 5 S) (RetAny w0 a b gb i n (.slice vna N.length vnc) D N B S (Lib.bytesWorld (wr.alloc zeroNote).drew 5 S) T)) :=
                    free_retire M3 HI.out (by omega) hB S s0 s1 _ _ (hfr _ (by omega)) (fun j hj => by have h := bytesWorld_cell' (wr.alloc zeroNote).drew 5 S j hj; rw [show (wr.alloc zeroNote).drew.heap.size = wr.heap.size + 1 by simp] at h; exact h)
                  have hgb : gb < wr.heap.size := owns_lt HM.out.d.own rfl
                  have hnb : ∀ k, (Value.slice vna N.length vnc).ownBlock = some k → k < wr.heap.size := fun k hk => owns_lt HM.out.n.own hk
                  have hw0 : w0.heap.size ≤ wr.heap.size := HM.out.since.below.size
                  have hsz : (Lib.bytesWorld wr.drew 5 S).heap.size = wr.heap.size + 1 := Lib.bytesWorld_size wr.drew 5 S
                  have HA1 : Hid (¬ EpOwn T wr.heap.size ∧ (Lib.bytesWorld (wr.alloc zeroNote).drew 5 S).heap[wr.heap.size]? = some zeroNote) := ⟨hfr _ (Nat.le_refl _), (Lib.bytesWorld_at_old (wr.alloc zeroNote).drew _ S wr.heap.size (by simp)).trans (heap_alloc_new wr.drew _)⟩
                  have HA2 : Hid (¬ EpOwn T (wr.heap.size + 1) ∧ ((Lib.bytesWorld wr.drew 5 S).alloc zeroNote).heap[wr.heap.size + 1]? = some zeroNote) := ⟨hfr _ (by omega), by rw [← hsz]; exact heap_alloc_new _ _⟩
                  have G1 : Hid (db ≠ wr.heap.size ∧ w0.heap.size ≤ wr.heap.size ∧ wr.heap.size ≠ gb ∧ (Value.slice vna N.length vnc).ownBlock ≠ some wr.heap.size) := ⟨by omega, by omega, by omega, fun h => by have := hnb _ h; omega⟩
                  have G2 : Hid (db ≠ wr.heap.size + 1 ∧ w0.heap.size ≤ wr.heap.size + 1 ∧ wr.heap.size + 1 ≠ gb ∧ (Value.slice vna N.length vnc).ownBlock ≠ some (wr.heap.size + 1)) := ⟨by omega, by omega, by omega, fun h => by have := hnb _ h; omega⟩
                  clear M1 M2 M3 M4 hfr hko hnb hgb hw0
                  have KC : Hid (∀ W : World, Below w.heap.size w W → W.cell? ⟨db, off + i * 4 + 3, none⟩ = some (.string s)) := fun W hb => below_cell hb K3.out
                  rcases hX with ⟨hs, rfl⟩ | ⟨hs, rfl⟩
                  · have hs3 : min (X.size : Int) 200 = (X.size : Int) := by omega
                    go_region_held3 (fun w' => w'.cell? ⟨db, off + i * 4 + 3, none⟩ = some (.string X))
                      (with_reducible (first | exact hk3 | exact k3A | exact k3B | exact k3C | exact k3D | exact kc | exact kd _ | exact ke _ _ _ _ _ | fail))
                      (first
                        | (((with_reducible refine CR1.out.mono ?_); rintro x w3 ⟨m, r, T3, q, e', rfl, hS3, hX3, hM3, hI3⟩; have kc := KC.out _ (HB0.out.trans (hM3.since.below.mono HB0.out.size)); obtain ⟨zc, zf⟩ := kept_zero hS3 HA1.out.1 HA1.out.2; have z0 := zc 0 (by omega); have z1 := zc 1 (by omega); have z2 := zc 2 (by omega); have z3 := zc 3 (by omega); have z4 := zc 4 (by omega); have f0 := zf 0; have f1 := zf 1; have f2 := zf 2; have f3 := zf 3; have f4 := zf 4; have ke := poke5_other kc G1.out.1; have RR := Lib.hid (retHere_poke hS3 hX3 hM3 hI3 HA1.out.2 HA1.out.1 G1.out.2.1 G1.out.2.2.1 G1.out.2.2.2 hB s1); clear zc zf hS3 hX3 hM3 hI3))
                        | (((with_reducible refine CR2.out.mono ?_); rintro x w3 ⟨m, r, T3, q, e', rfl, hS3, hX3, hM3, hI3⟩; have kc := KC.out _ (HB0.out.trans (hM3.since.below.mono HB0.out.size)); obtain ⟨zc, zf⟩ := kept_zero hS3 HA2.out.1 HA2.out.2; have z0 := zc 0 (by omega); have z1 := zc 1 (by omega); have z2 := zc 2 (by omega); have z3 := zc 3 (by omega); have z4 := zc 4 (by omega); have f0 := zf 0; have f1 := zf 1; have f2 := zf 2; have f3 := zf 3; have f4 := zf 4; have ke := poke5_other kc G2.out.1; have RR := Lib.hid (retHere_poke hS3 hX3 hM3 hI3 HA2.out.2 HA2.out.1 G2.out.2.1 G2.out.2.2.1 G2.out.2.2.2 hB s1); clear zc zf hS3 hX3 hM3 hI3))
                        | (((with_reducible refine CR3.out.mono ?_); rintro x w3 ⟨m, r, T3, q, e', rfl, hS3, hX3, hM3, hI3⟩; have kc := KC.out _ (HB0.out.trans (hM3.since.below.mono HB0.out.size)); have kd := fun o => below_cell ((Below.refl w3.heap.size w3).alloc (Nat.le_refl _) o) kc; have RR := Lib.hid (retHere_alloc hM3 hI3 hB s1); clear hS3 hX3 hM3 hI3)))
                    all_goals
                      clear KC k3A k3B k3C k3D hcv hcv1 hsz
                      go_wp2
                      go_meet
                      exact RR.out
                  · have hs3 : min (s.size : Int) 200 = 200 := by omega
                    have hl1 : (200 : Int) ≤ (s.size : Int) := by omega
                    have hl2 : (200 : Int) < (s.size : Int) := by omega
                    go_region_held3 (fun w' => w'.cell? ⟨db, off + i * 4 + 3, none⟩ = some (.string s))
                      (with_reducible (first | exact hk3 | exact k3A | exact k3B | exact k3C | exact k3D | exact kc | exact kd _ | exact ke _ _ _ _ _ | fail))
                      (first
                        | (((with_reducible refine CR1.out.mono ?_); rintro x w3 ⟨m, r, T3, q, e', rfl, hS3, hX3, hM3, hI3⟩; have kc := KC.out _ (HB0.out.trans (hM3.since.below.mono HB0.out.size)); obtain ⟨zc, zf⟩ := kept_zero hS3 HA1.out.1 HA1.out.2; have z0 := zc 0 (by omega); have z1 := zc 1 (by omega); have z2 := zc 2 (by omega); have z3 := zc 3 (by omega); have z4 := zc 4 (by omega); have f0 := zf 0; have f1 := zf 1; have f2 := zf 2; have f3 := zf 3; have f4 := zf 4; have ke := poke5_other kc G1.out.1; have RR := Lib.hid (retHere_poke hS3 hX3 hM3 hI3 HA1.out.2 HA1.out.1 G1.out.2.1 G1.out.2.2.1 G1.out.2.2.2 hB s1); clear zc zf hS3 hX3 hM3 hI3))
                        | (((with_reducible refine CR2.out.mono ?_); rintro x w3 ⟨m, r, T3, q, e', rfl, hS3, hX3, hM3, hI3⟩; have kc := KC.out _ (HB0.out.trans (hM3.since.below.mono HB0.out.size)); obtain ⟨zc, zf⟩ := kept_zero hS3 HA2.out.1 HA2.out.2; have z0 := zc 0 (by omega); have z1 := zc 1 (by omega); have z2 := zc 2 (by omega); have z3 := zc 3 (by omega); have z4 := zc 4 (by omega); have f0 := zf 0; have f1 := zf 1; have f2 := zf 2; have f3 := zf 3; have f4 := zf 4; have ke := poke5_other kc G2.out.1; have RR := Lib.hid (retHere_poke hS3 hX3 hM3 hI3 HA2.out.2 HA2.out.1 G2.out.2.1 G2.out.2.2.1 G2.out.2.2.2 hB s1); clear zc zf hS3 hX3 hM3 hI3))
                        | (((with_reducible refine CR3.out.mono ?_); rintro x w3 ⟨m, r, T3, q, e', rfl, hS3, hX3, hM3, hI3⟩; have kc := KC.out _ (HB0.out.trans (hM3.since.below.mono HB0.out.size)); have kd := fun o => below_cell ((Below.refl w3.heap.size w3).alloc (Nat.le_refl _) o) kc; have RR := Lib.hid (retHere_alloc hM3 hI3 hB s1); clear hS3 hX3 hM3 hI3)))
                    all_goals
                      clear KC k3A k3B k3C k3D hcv hcv1 hsz
                      go_wp2
                      go_meet
                      exact RR.out
              case rest =>
                as_aux_lemma =>
                  obtain ⟨bD, m, rr, T3, q, e3, B3, rfl, rfl, hM3, hB3, hc3, hI3⟩ := hcut
                  have c0 := hc3 0 _ rfl
                  have c1' := hc3 1 _ rfl
                  have c2' := hc3 2 _ rfl
                  have c3' := hc3 3 _ rfl
                  have c4' := hc3 4 _ rfl
                  have HM3 := Lib.hid hM3
                  refine hK16 _ _ ?_
                  clear hK16 hM3 hc3 HM HI
                  rcases hI3 with ⟨rfl, hI3⟩ | ⟨rfl, hI3⟩
                  · have HI3 := Lib.hid hI3
                    have HM4 := Lib.hid (HM3.out.alloc (.cells m.cells 45))
                    obtain ⟨i4, hi4, z4, s4, b4⟩ := info_parts Try.infoNote
                    have h0s : w0.heap.size ≤ (wc.alloc (.cells m.cells 45)).heap.size := HM4.out.since.below.size
                    have hNl : N.length ≤ 120 := by have := hI3.nlen; simp at this; omega
                    clear hI3
                    go_wp2_with (at_builtin; refine wpList_append_place rfl (.tmp 77) (.tmp 79) 32 rfl w0.heap.size 45 i4 (.agg #[.int .i64 0, .int .i64 0, .int .i64 0, .int .i64 0, .int .i64 0]) 5 40 Try.underlying32 hi4 z4 s4 b4 rfl (by decide) (.slice vna N.length vnc) N.length (noteCells N) rfl HM4.out.n.own ⟨wc.heap.size, 0, none⟩ 1 1 m.cells.toList rfl rfl ?c1 ?c2 ?c3 ?c4 h0s ?_)
                    case c1 =>
                      intro j u hj
                      match j, hj with
                      | 0, hj => simp [Note.cells] at hj; subst hj; simp [Addr.add, Note.cells]
                      | 1, hj => simp [Note.cells] at hj; subst hj; simp [Addr.add, Note.cells]
                      | 2, hj => simp [Note.cells] at hj; subst hj; simp [Addr.add, Note.cells]
                      | 3, hj => simp [Note.cells] at hj; subst hj; simp [Addr.add, Note.cells]
                      | 4, hj => simp [Note.cells] at hj; subst hj; simp [Addr.add, Note.cells]
                    case c2 => intro u hu; simp [Note.cells] at hu; rcases hu with rfl | rfl | rfl | rfl | rfl <;> rfl
                    case c3 => unfold maxLen; omega
                    case c4 => omega
                    intro vn' w5 ho5 hg5 _ hpl
                    have R5 : Hid (FreeCut w0 a b gb (i + 1) (.int .i64 (n : Int)) vn' w5) := ⟨n, T3, q, e3, D, N ++ [m], B3, rfl, HM4.out.nAppend hg5 ho5 (fun g hg => by simpa using hpl g hg), hB3, HI3.out⟩
                    clear HM4 h0s ho5 hg5 hpl HI3
                    go_wp2
                    exact ⟨⟨i + 1, by omega, by omega, by go_num, R5.out⟩, by simp [intOf]; omega⟩
                  · have R5 : Hid (FreeCut w0 a b gb (i + 1) (.int .i64 (n : Int)) (.slice vna N.length vnc) wc) := ⟨n, T3, q, e3, D, N, B3, rfl, HM3.out, hB3, hI3⟩
                    clear HM3 hI3
                    go_wp2
                    exact ⟨⟨i + 1, by omega, by omega, by go_num, R5.out⟩, by simp [intOf]; omega⟩
        · clear hDi
          have R5 : Hid (∃ i, i ≤ 100 ∧ FreeCut w0 a b gb i (.int .i64 (n : Int)) (.slice vna N.length vnc) wr) := ⟨i, hi, n, T, p, e, D, N, B, rfl, HM.out, hB, HI.out⟩
          go_wp2
          all_goals
            go_meet
            exact R5.out
    case rest =>
      obtain ⟨i, hi, n, T, p, e, D, N, B, rfl, hM, hB, hI⟩ := hcut
      refine hK0 _ _ ?_
      clear hK0
      have hn : n ≤ 100 := by have := hI.len; omega
      obtain ⟨vna, vnc, rfl⟩ := owns_shape hM.n.own
      have HM := Lib.hid hM
      have HI := Lib.hid hI
      clear hM hI HM0
      go_upto_block 3 with fail
      rename_i K3 hK3
      go_cut [15] (fun _ wx => ∃ T p e, FreeMem w0 a b gb (.slice vna N.length vnc) wx T p e D N B ∧ FreeInv p e n n D N i)
      case first =>
        as_aux_lemma =>
          --C1
          go_wp2
          go_loopw [15] (fun y wr => ∃ c : Nat, c ≤ n ∧ y = .int .i64 ((c : Int) + 1) ∧ ∃ T p e, FreeMem w0 a b gb (.slice vna N.length vnc) wr T p e D N B ∧ FreeInv p e n c D N i) (fun y _ => n + 1 - (intOf y).toNat)
          case atStart => exact ⟨0, Nat.zero_le _, rfl, T, p, e, HM.out, HI.out⟩
          case round =>
            obtain ⟨c, hc, rfl, T1, p1, e1, hM1, hI1⟩ := hrel
            have HM1 := Lib.hid hM1
            have HI1 := Lib.hid hI1
            clear hM1 hI1
            by_cases hcn : c < n
            · have l1 : decide ((n : Int) < (c : Int) + 1) = false := decide_eq_false (by omega)
              have l2 : decide ((c : Int) + 1 ≤ (n : Int)) = true := decide_eq_true (by omega)
              have l3 : (0 : Int) ≤ (c : Int) + 1 := by omega
              have l4 : (c : Int) + 1 < 200 := by omega
              have l5 : ((c : Int) + 1).toNat = c + 1 := by omega
              have HM2 := Lib.hid HM1.out.drew
              have CU := Lib.hid (free_last HM2.out HI1.out (by omega) hcn)
              obtain ⟨q0, -⟩ := HM2.out.dCell HI1.out.dl (show c + 1 < 200 by omega)
              cases hd : D.getD (c + 1) false with
              | false =>
                rw [hd] at CU q0
                go_wp2
                go_region_held3 (fun w' => w'.cell? ⟨gb, c + 1, none⟩ = some (.bool false))
                  (with_reducible (first | exact q0 | exact q1 | fail))
                  (((with_reducible refine CU.out.mono ?_); rintro x w3 ⟨T3, e3, rfl, hM3, hI3⟩; have HM3 := Lib.hid hM3; have HI3 := Lib.hid hI3; have q1 : w3.cell? ⟨gb, c + 1, none⟩ = some (.bool false) := by { have h := (hM3.dCell HI.out.dl (show c + 1 < 200 by omega)).1; rw [hd] at h; exact h }; clear hM3 hI3))
                go_wp2
                exact ⟨⟨c + 1, by omega, by go_num, T3, p1, e3, HM3.out, HI3.out⟩, by simp [intOf]; omega⟩
              | true =>
                rw [hd] at CU q0
                go_wp2
                go_region_held3 (fun w' => w'.cell? ⟨gb, c + 1, none⟩ = some (.bool true))
                  (with_reducible (first | exact q0 | exact q1 | fail))
                  (((with_reducible refine CU.out.mono ?_); rintro x w3 ⟨T3, e3, rfl, hM3, hI3⟩; have HM3 := Lib.hid hM3; have HI3 := Lib.hid hI3; have q1 : w3.cell? ⟨gb, c + 1, none⟩ = some (.bool true) := by { have h := (hM3.dCell HI.out.dl (show c + 1 < 200 by omega)).1; rw [hd] at h; exact h }; clear hM3 hI3))
                go_wp2
                exact ⟨⟨c + 1, by omega, by go_num, T3, p1, e3, HM3.out, HI3.out⟩, by simp [intOf]; omega⟩
            · obtain rfl : c = n := by omega
              have l1 : decide ((c : Int) < (c : Int) + 1) = true := decide_eq_true (by omega)
              have l2 : decide ((c : Int) + 1 ≤ (c : Int)) = false := decide_eq_false (by omega)
              have R5 : Hid (∃ T p e, FreeMem w0 a b gb (.slice vna N.length vnc) wr T p e D N B ∧ FreeInv p e c c D N i) := ⟨T1, p1, e1, HM1.out, HI1.out⟩
              go_wp2
              go_meet
              exact R5.out
          --C2
      case rest =>
        obtain ⟨T1, p1, e1, hM1, hI1⟩ := hcut
        have HM1 := Lib.hid hM1
        have HI1 := Lib.hid hI1
        clear hM1 hI1 HM HI
        refine hK3 _ _ ?_
        clear hK3
        as_aux_lemma =>
          have hN1 : e1.now ≤ 200 := by have := HI1.out.now; omega
          have hN2 : N.length ≤ 100 := by have := HI1.out.nlen; omega
          have CL := Lib.hid HM1.out.sta.liveIs
          have hcn : e1.cnt = e1.now + 1 - e1.lo := rfl
          have hle := HM1.out.sta.inv.le
          have HC := Lib.hid hcn
          clear hcn
          go_wp2_with fail
          refine CL.out.mono ?_
          rintro x w2 ⟨v, rfl, ho2, -, hB2⟩
          obtain ⟨gl, cl, rfl⟩ := Joins.ownsRow_form ho2 (by have := HC.out; omega)
          have HM2 := Lib.hid (HM1.out.below hB2)
          have CA := Lib.hid (end_advance HM2.out HI1.out (by omega))
          clear CL ho2 hB2
          go_wp2_with fail
          refine CA.out.mono ?_
          rintro x w3 ⟨rfl, T3, q3, e3, hM3, hn3, hlo3, hnow3, hp3, hs3, hb3⟩
          have CC0 := end_collect hM3 (by omega) hn3 hp3 hs3 hb3
          have CC := Lib.hid CC0
          clear CC0 CA hn3 hp3 hs3 hb3 hM3 HM2
          have hcnt : (e3.now - e3.lo : Nat) = e1.cnt := by have := HC.out; omega
          have F3 : Hid (e3.now = e1.now + 1 ∧ e3.now ≤ 201) := ⟨hnow3, by omega⟩
          unfold EndCol at CC
          rw [hcnt] at CC
          clear hlo3 hnow3 hcnt
          go_wp2_with fail
          refine CC.out.mono ?_
          rintro x w4 ⟨rfl, T4, q4, e4, hM4, hid4, hlo4, hnow4, hk4⟩
          have HM4 := Lib.hid hM4
          have F4 : Hid (e4.lo = e1.now + 1 ∧ e4.now = e1.now + 1 ∧ e4.cnt = 1) := ⟨by have := F3.out.1; omega, by have := F3.out.1; omega, by simp only [Eps.cnt]; omega⟩
          have CK := HM4.out.sta.keptIs (by rw [hk4]; omega)
          rw [hk4] at CK
          have CK := Lib.hid CK
          have hid4 := Lib.hid hid4
          clear CC hM4 hlo4 hnow4 hk4 F3
          go_wp2_with fail
          refine CK.out.mono ?_
          rintro x w5 ⟨rfl, hB5⟩
          have HM5 := Lib.hid (HM4.out.below hB5)
          have CI := HM5.out.sta.idleIs
          rw [hid4.out] at CI
          have CI := Lib.hid CI
          clear CK hB5 HM4
          go_wp2_with fail
          refine CI.out.mono ?_
          rintro x w6 ⟨rfl, rfl⟩
          have CL := Lib.hid HM5.out.sta.liveIs
          clear CI
          go_wp2_with fail
          refine CL.out.mono ?_
          rintro x w6 ⟨v, rfl, ho6, -, hB6⟩
          rw [F4.out.2.2, F4.out.1] at ho6
          obtain ⟨g6, c6, rfl⟩ := Joins.ownsRow_form ho6 (by omega)
          have q6 := ho6.cellAt 0 (by omega)
          have HM6 := Lib.hid ((HM5.out.below hB6).alloc (.cells #[.int .i64 ((e1.now : Int) + 1)] 3))
          have CN : Hid (Calls Try.prog 21 #[.slice (some ⟨g6, 0, none⟩) 1 c6, .slice (some ⟨w6.heap.size, 0, none⟩) 1 1] (w6.alloc (.cells #[.int .i64 ((e1.now : Int) + 1)] 3)) (IntsPost (w6.alloc (.cells #[.int .i64 ((e1.now : Int) + 1)] 3)))) :=
            ints_same _ [(e1.now : Int) + 1] (by simp) g6 0 c6 w6.heap.size 0 1 (fun i hi => by
              have h0 : i = 0 := by simp at hi; omega
              subst h0
              refine below_cell ((Below.refl _ _).alloc (Nat.le_refl _) _) ?_
              rw [Nat.zero_add, q6]
              simp) (fun i hi => by
              have h0 : i = 0 := by simp at hi; omega
              subst h0
              rw [World.cell?_alloc_new]
              rfl)
          clear CL ho6 hB6 HM5 q6
          go_wp2_with fail
          refine CN.out.mono ?_
          rintro x w7 ⟨rfl, dn, rfl⟩
          have HM7 := Lib.hid (HM6.out.drewN dn)
          have HNL : Hid ((∀ m ∈ N, m.epoch < (e4.lo : Int)) ∧ (∀ m ∈ N, m.WF)) := ⟨fun m hm => by have h1 := HI1.out.nle m hm; have h2 := F4.out.1; omega, HI1.out.nwf⟩
          clear CN HM6 HM1 HI1
          go_upto_block 5 with fail
          rename_i K5 hK5
          go_cut [20] (fun _ wx => FreeMem w0 a b gb (.slice vna N.length vnc) wx T4 q4 e4 D N B)
          case first =>
            go_wp2
            go_loopw [20] (fun y wr => ∃ k : Nat, k ≤ N.length ∧ y = .int .i64 k ∧ FreeMem w0 a b gb (.slice vna N.length vnc) wr T4 q4 e4 D N B) (fun y _ => N.length - (intOf y).toNat)
            case atStart => exact ⟨0, Nat.zero_le _, rfl, HM7.out⟩
            case round =>
              obtain ⟨k, hk, rfl, hMk⟩ := hrel
              have HMk := Lib.hid hMk
              clear hMk
              by_cases hkl : k < N.length
              · obtain ⟨nb, nc, hvn⟩ := Joins.ownsRow_form HMk.out.n.own (by omega)
                simp only [Value.slice.injEq, true_and] at hvn
                obtain ⟨rfl, rfl⟩ := hvn
                obtain ⟨⟨ne, ⟨nr, ng, no, nl⟩⟩, hn⟩ : ∃ z, N[k]? = some z := ⟨_, List.getElem?_eq_getElem hkl⟩
                have hmem := List.mem_of_getElem? hn
                obtain ⟨v0, v1, v2, v3, v4⟩ := HMk.out.nCells hn
                have CL := Lib.hid (end_stale HMk.out (HNL.out.2 _ hmem) (HNL.out.1 _ hmem))
                have l3 : decide ((k : Int) < (N.length : Int)) = true := decide_eq_true (by omega)
                have l4 : (k : Int) < (N.length : Int) := by omega
                clear hn hmem
                go_wp2_with fail
                refine CL.out.mono ?_
                rintro x w5 ⟨rfl, hB5⟩
                have HM5 := Lib.hid (HMk.out.below hB5)
                clear CL hB5
                go_wp2
                exact ⟨⟨k + 1, by omega, by go_num, HM5.out⟩, by simp [intOf]; omega⟩
              · have l3 : decide ((k : Int) < (N.length : Int)) = false := decide_eq_false (by omega)
                go_wp2
                go_meet
                exact HMk.out
          case rest =>
            have HM8 := Lib.hid hcut
            have CC := Lib.hid (end_close HM8.out (by have := F4.out.2.1; omega) (by have h1 := F4.out.1; have h2 := F4.out.2.1; omega))
            clear hcut
            refine hK5 _ _ ?_
            clear hK5
            go_wp2_with fail
            refine CC.out.mono ?_
            rintro x w9 ⟨rfl, hO⟩
            have HO := Lib.hid hO
            have C2 := Lib.hid (close_over hO.over)
            have CW := Lib.hid (now_over hO.over)
            have CV := Lib.hid (live_over hO.over)
            have CM := Lib.hid (end_make hO)
            clear CC hO HM8 HM7
            go_wp2_with fail
            refine C2.out.mono ?_
            rintro x w10 ⟨rfl, rfl⟩
            go_wp2_with fail
            refine CW.out.mono ?_
            rintro x w10 ⟨rfl, rfl⟩
            go_wp2_with fail
            refine CV.out.mono ?_
            rintro x w10 ⟨rfl, rfl⟩
            go_wp2_with fail
            refine CM.out.mono ?_
            rintro x w11 ⟨rfl, hB11⟩
            go_wp2
            go_ret
            exact ⟨rfl, HB0.out.trans (hB11.mono HB0.out.size)⟩

end Go.Proofs.Ytmnklaphcjchiaa
