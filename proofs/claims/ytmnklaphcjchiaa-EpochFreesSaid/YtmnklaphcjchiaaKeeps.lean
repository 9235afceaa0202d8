/-
  The walk of EpochKeeps.
-/
import Derived.Test.YtmnklaphcjchiaaKeepR
import Derived.Deep.AppendLies
import Derived.Deep.DeepCutAuto
import Derived.Deep.RegionHeld3
namespace Go.Proofs.Ytmnklaphcjchiaa
open Go.RowKit

/-- A text of this law. -/
def TextIs (v : Value) : Prop := ∃ S : ByteArray, v = .string S ∧ 1 ≤ S.size ∧ S.size ≤ 101

theorem textIs_short {s : ByteArray} (h : s.size ≤ 100) : TextIs (.string (({ data := #[116] } : ByteArray) ++ s)) := by
  have h1 : ({ data := #[116] } : ByteArray).size = 1 := rfl
  exact ⟨_, rfl, by rw [ByteArray.size_append, h1]; omega, by rw [ByteArray.size_append, h1]; omega⟩

theorem textIs_long {s : ByteArray} (h : 100 < s.size) : TextIs (.string (({ data := #[116] } : ByteArray) ++ s.extract 0 100)) := by
  have h1 : ({ data := #[116] } : ByteArray).size = 1 := rfl
  exact ⟨_, rfl, by rw [ByteArray.size_append, h1]; omega, by rw [ByteArray.size_append, ByteArray.size_extract, h1]; omega⟩

/-- The day of this round, and the law's rows. -/
structure DayHere (w0 : World) (a b : Nat) (vg vn vt : Value) (T : Tags) (p : Pool) (e : Eps) (G : List Gz) (N : List Note) (X : List ByteArray) (B D : Nat) (n : Int) (s : ByteArray) (w : World) : Prop where
  mem : KeepMem w0 a b vg vn vt w T p e G N X B
  d1 : w.cell? ⟨D, 1, none⟩ = some (.int .i64 n)
  d3 : w.cell? ⟨D, 3, none⟩ = some (.string s)

theorem KeepMem.gCells {w0 : World} {a b : Nat} {gb gc : Nat} {vn vt : Value} {w : World} {T : Tags} {p : Pool} {e : Eps} {G : List Gz} {N : List Note} {X : List ByteArray} {B : Nat} (h : KeepMem w0 a b (.slice (some ⟨gb, 0, none⟩) G.length gc) vn vt w T p e G N X B) {k : Nat} {g : Gz} (hk : G[k]? = some g) :
    w.cell? ⟨gb, k * 3, none⟩ = some (.int .i64 ((k : Int) + 1)) ∧ w.cell? ⟨gb, k * 3 + 1, none⟩ = some (.int .i64 (g.frm : Int)) ∧ w.cell? ⟨gb, k * 3 + 2, none⟩ = some (.bool g.there) ∧ w.frozen? ⟨gb, k * 3 + 2, none⟩ = false := by
  have hl := (List.getElem?_eq_some_iff.1 hk).1
  obtain ⟨h1, h2, h3⟩ := gzCells_get G 0 hk
  rw [Nat.zero_add] at h1
  exact ⟨(h.g.own.cellAt (k * 3) (by omega)).trans h1, (h.g.own.cellAt (k * 3 + 1) (by omega)).trans h2, (h.g.own.cellAt (k * 3 + 2) (by omega)).trans h3, h.g.own.frozenAt _⟩

theorem KeepMem.nCells {w0 : World} {a b : Nat} {nb nc : Nat} {vg vt : Value} {w : World} {T : Tags} {p : Pool} {e : Eps} {G : List Gz} {N : List Note} {X : List ByteArray} {B : Nat} (h : KeepMem w0 a b vg (.slice (some ⟨nb, 0, none⟩) N.length nc) vt w T p e G N X B) {k : Nat} {n : Note} (hk : N[k]? = some n) :
    w.cell? ⟨nb, k * 5, none⟩ = some (.int .i64 n.epoch) ∧ w.cell? ⟨nb, k * 5 + 1, none⟩ = some (.int .i64 n.at_.region) ∧ w.cell? ⟨nb, k * 5 + 2, none⟩ = some (.int .i64 n.at_.gen) ∧ w.cell? ⟨nb, k * 5 + 3, none⟩ = some (.int .i64 n.at_.off) ∧ w.cell? ⟨nb, k * 5 + 4, none⟩ = some (.int .i64 n.at_.len) := by
  have hl := (List.getElem?_eq_some_iff.1 hk).1
  have hc := fun i (hi : i < 5) => (h.n.own.cellAt (k * 5 + i) (by omega)).trans (noteCells_get hk i hi)
  exact ⟨hc 0 (by omega), hc 1 (by omega), hc 2 (by omega), hc 3 (by omega), hc 4 (by omega)⟩

theorem KeepMem.tCell {w0 : World} {a b : Nat} {tb tc : Nat} {vg vn : Value} {w : World} {T : Tags} {p : Pool} {e : Eps} {G : List Gz} {N : List Note} {X : List ByteArray} {B : Nat} (h : KeepMem w0 a b vg vn (.slice (some ⟨tb, 0, none⟩) X.length tc) w T p e G N X B) {k : Nat} {s : ByteArray} (hk : X[k]? = some s) :
    w.cell? ⟨tb, k, none⟩ = some (.string s) := by
  have hl := (List.getElem?_eq_some_iff.1 hk).1
  rw [h.t.own.cellAt k (by omega), List.getElem?_map, hk]
  rfl

theorem Try.infoGaze : (Try.prog.info? 39).map (fun i => (i.zero, i.size, i.bytes)) = some (some (.agg #[.int .i64 0, .int .i64 0, .bool false]), 3, 24) := by kernel_rfl
theorem Try.infoNote : (Try.prog.info? 45).map (fun i => (i.zero, i.size, i.bytes)) = some (some (.agg #[.int .i64 0, .int .i64 0, .int .i64 0, .int .i64 0, .int .i64 0]), 5, 40) := by kernel_rfl
theorem Try.infoString : (Try.prog.info? 9).map (fun i => (i.zero, i.size, i.bytes)) = some (some (.string ByteArray.empty), 1, 16) := by kernel_rfl

theorem u64_in {x : Int} (h0 : 0 ≤ x) (h1 : x ≤ 1000000) : IntKind.u64.wrap x = x := by
  have h : IntKind.u64.wrap x = x % 18446744073709551616 := by simp [IntKind.wrap, IntKind.signed, IntKind.bits]
  rw [h]
  omega

theorem keep_small (z : Int) {L : Nat} (h0 : 0 < L) (h1 : L ≤ 1000) : ∃ t : Nat, t < L ∧ wrap64 ((IntKind.u64.wrap z).tmod (L : Int)) = (t : Int) := by
  have h : IntKind.u64.wrap z = z % 18446744073709551616 := by simp [IntKind.wrap, IntKind.signed, IntKind.bits]
  rw [h]
  have h2 : 0 ≤ z % 18446744073709551616 := Int.emod_nonneg _ (by omega)
  rw [Int.tmod_eq_emod_of_nonneg h2]
  have h3 := Int.emod_nonneg (z % 18446744073709551616) (show (L : Int) ≠ 0 by omega)
  have h4 := Int.emod_lt_of_pos (z % 18446744073709551616) (show (0 : Int) < L by omega)
  refine ⟨((z % 18446744073709551616) % (L : Int)).toNat, by omega, ?_⟩
  rw [w64_in (by omega) (by omega)]
  omega

set_option maxRecDepth 100000 in
set_option maxHeartbeats 16000000 in
theorem keeps_walk (w : World) (ad : Option Addr) (len cap : Nat) (hd : DaysAt w ad len) : Calls Try.prog 3 #[.slice ad len cap] w (fun x w' => x = .returned (.bool true) ∧ Below w.heap.size w w') := by
  have CG := ages_true w
  have HD := Lib.hid hd
  clear hd
  go_enter Try.func3, Try.ntmps3
  go_wp2_with fail
  refine CG.mono ?_
  rintro x w0 ⟨rfl, hB0⟩
  have CN : Calls Try.prog 8 #[.int .i64 512, .int .i64 200] w0 (NewPost w0 (fun _ => (0, 0)) (Pool.new 512 200)) := new_any w0 _ 512 200 (by omega) (by omega) (by omega) (by omega) (by omega) (by omega)
  have HB0 := Lib.hid hB0
  clear CG hB0
  go_wp2_with fail
  refine CN.mono ?_
  rintro x w1 hx
  obtain ⟨b, rfl, T1, L1, hB1, hX1, hR1⟩ := newPost_cases hx
  have CE := Lib.hid (epochNew_any hR1 (by omega) (by omega) (by omega) (by omega) (by omega))
  have S1 : Hid (Since w0 w1 T1) := ⟨hB1, fun k hk => hX1 k hk⟩
  clear hx CN hB1 hX1 hR1
  go_wp2_with fail
  refine CE.out.mono ?_
  rintro x w2 ⟨a, rfl, T2, hX2, hS2, hT2⟩
  have S2 := Lib.hid (S1.out.step hS2 hX2)
  have HT2 := Lib.hid hT2
  clear CE S1 hX2 hS2 hT2
  go_wp2
  go_loopw [6, 7, 8, 9] (fun vg vn vt y wr => ∃ i : Nat, i ≤ 120 ∧ i ≤ len ∧ y = .int .i64 i ∧ KeepMid w0 a b i vg vn vt wr) (fun _ _ _ y _ => 121 - (intOf y).toNat)
  case atStart => exact ⟨0, by omega, Nat.zero_le _, rfl, T2, _, _, [], [], [], 0, ⟨S2.out, HT2.out, Mine.nil _ _ _ _, Mine.nil _ _ _ _, Mine.nil _ _ _ _⟩, Nat.le_refl _, KeepInv.start⟩
  case round =>
    obtain ⟨i, hi, hil, rfl, T, p, e, G, N, X, B, hM, hB, hI⟩ := hrel
    have HM := Lib.hid hM
    have HI := Lib.hid hI
    have hDi := HD.out.below (HB0.out.trans (hM.since.below.mono HB0.out.size))
    obtain ⟨vga, vgc, rfl⟩ := owns_shape hM.g.own
    obtain ⟨vna, vnc, rfl⟩ := owns_shape hM.n.own
    obtain ⟨vta, vtc, rfl⟩ := owns_shape hM.t.own
    clear hM hI
    by_cases hlt : i < len ∧ i < 120
    · obtain ⟨h1, h2⟩ := hlt
      obtain ⟨db, off, rfl, hdb, c, n, y, s, k0, k1, k2, k3, k4⟩ := hDi i h1
      clear hDi
      have d1 : decide ((i : Int) < (len : Int)) = true := by simp; omega
      have d2 : decide ((i : Int) < 120) = true := by simp; omega
      have d3 : (i : Int) < (len : Int) := by omega
      have d4 : (i : Int) < 120 := by omega
      go_upto_region 16 with fail
      rename_i K16 hK16
      go_cut [55] (fun s' wx => s' = .int .i64 c ∧ DayHere w0 a b (.slice vga G.length vgc) (.slice vna N.length vnc) (.slice vta X.length vtc) T p e G N X B wr.heap.size n s wx)
      case first =>
        have R0 : Hid (DayHere w0 a b (.slice vga G.length vgc) (.slice vna N.length vnc) (.slice vta X.length vtc) T p e G N X B wr.heap.size n s (wr.alloc (.cells #[.int .i64 c, .int .i64 n, .int .i64 y, .string s] 35))) := ⟨HM.out.alloc _, by rw [World.cell?_alloc_new]; rfl, by rw [World.cell?_alloc_new]; rfl⟩
        go_wp2_with fail
        go_meet
        exact ⟨rfl, R0.out⟩
      case rest =>
        obtain ⟨rfl, hMd, y1, y3⟩ := hcut
        have HMd := Lib.hid hMd
        clear hMd HM k0 k1 k2 k3
        refine hK16 _ _ ?_
        clear hK16
        go_cut [6, 7, 8] (fun vg vn vt wx => KeepMid w0 a b (i + 1) vg vn vt wx)
        case first =>
          by_cases c1 : c = 1
          · subst c1
            as_aux_lemma =>
              have CP := Lib.hid (keep_pin HMd.out HI.out (by omega))
              go_wp2_with fail
              refine CP.out.mono ?_
              rintro x w3 ⟨rfl, T3, hM3⟩
              obtain ⟨i3, hi3, z3, s3, b3⟩ := info_parts Try.infoGaze
              have HM3 := Lib.hid (hM3.alloc (.cells #[.int .i64 ((G.length : Int) + 1), .int .i64 (N.length : Int), .bool true] 39))
              have h0s : w0.heap.size ≤ (w3.alloc (.cells #[.int .i64 ((G.length : Int) + 1), .int .i64 (N.length : Int), .bool true] 39)).heap.size := HM3.out.since.below.size
              have hGl : G.length ≤ 120 := by have := HI.out.len; omega
              clear CP hM3
              go_wp2_with (at_builtin; refine wpList_append_place rfl (.tmp 92) (.tmp 97) 31 rfl w0.heap.size 39 i3 (.agg #[.int .i64 0, .int .i64 0, .bool false]) 3 24 Try.underlying31 hi3 z3 s3 b3 rfl (by decide) (.slice vga G.length vgc) G.length (gzCells 0 G) rfl HM3.out.g.own ⟨w3.heap.size, 0, none⟩ 1 1 [.int .i64 ((G.length : Int) + 1), .int .i64 (N.length : Int), .bool true] rfl rfl ?c1 ?c2 ?c3 ?c4 h0s ?_)
              case c1 =>
                intro j u hj
                match j, hj with
                | 0, hj => simp at hj; subst hj; simp [Addr.add]
                | 1, hj => simp at hj; subst hj; simp [Addr.add]
                | 2, hj => simp at hj; subst hj; simp [Addr.add]
              case c2 => intro u hu; simp at hu; rcases hu with rfl | rfl | rfl <;> rfl
              case c3 => unfold maxLen; omega
              case c4 => omega
              intro v' w5 ho5 hg5 _ hpl
              have R5 : Hid (KeepMid w0 a b (i + 1) v' (.slice vna N.length vnc) (.slice vta X.length vtc) w5) := ⟨T3, p, pin1 e, G ++ [⟨N.length, true⟩], N, X, B, HM3.out.gAppend hg5 ho5 (fun g hg => by simpa using hpl g hg), by omega, HI.out.pin⟩
              clear ho5 hg5 hpl HM3
              go_wp2
              go_meet
              exact R5.out
          by_cases c2 : c = 2
          · subst c2
            by_cases hG : G.length = 0
            · have R5 : Hid (KeepMid w0 a b (i + 1) (.slice vga G.length vgc) (.slice vna N.length vnc) (.slice vta X.length vtc) wc) := ⟨T, p, e, G, N, X, B, HMd.out, by omega, HI.out.mono⟩
              have g1 : decide ((0 : Int) < (G.length : Int)) = false := decide_eq_false (by omega)
              go_wp2
              go_meet
              exact R5.out
            · have g1 : decide ((0 : Int) < (G.length : Int)) = true := decide_eq_true (by omega)
              have hGl : G.length ≤ 120 := by have := HI.out.len; omega
              obtain ⟨t, ht, hlet⟩ := keep_small n (L := G.length) (by omega) (by omega)
              obtain ⟨⟨f, th⟩, hgt⟩ : ∃ g, G[t]? = some g := ⟨_, List.getElem?_eq_getElem ht⟩
              obtain ⟨gb, gc, hva⟩ := Joins.ownsRow_form HMd.out.g.own (by omega)
              simp only [Value.slice.injEq, true_and] at hva
              obtain ⟨rfl, rfl⟩ := hva
              have hu0 : ¬ (G.length : Int) = 0 := by omega
              have hu1 : ((G.length : Int) == 0) = false := beq_eq_false_iff_ne.2 hu0
              have hu := u64_in (x := (G.length : Int)) (by omega) (by omega)
              have GT := Lib.hid hgt
              clear hgt
              go_wp2_with fail
              rw [hlet]
              clear hlet hu hu0 hu1
              have HD2 := Lib.hid HMd.out.drew
              have t1 : (0 : Int) ≤ (t : Int) := by omega
              have t2 : (t : Int) < (G.length : Int) := by omega
              cases th with
              | true =>
                as_aux_lemma =>
                  obtain ⟨q0, -, q2, -⟩ := HD2.out.gCells GT.out
                  have CU := Lib.hid (keep_unpin HD2.out HI.out (by omega) GT.out)
                  go_region_held3 (fun w' => w'.cell? ⟨gb, t * 3, none⟩ = some (.int .i64 ((t : Int) + 1)) ∧ w'.cell? ⟨gb, t * 3 + 2, none⟩ = some (.bool true))
                    (with_reducible (first | exact ⟨q0, q2⟩ | exact ⟨q0', q2'⟩ | fail))
                    (((with_reducible refine CU.out.mono ?_); rintro x w3 ⟨rfl, T3, e3, hM3, hI3⟩; obtain ⟨q0', -, q2', q3'⟩ := hM3.gCells GT.out; have HM3 := Lib.hid hM3; have HI3 := Lib.hid hI3; clear hM3 hI3))
                  have R5 : Hid (KeepMid w0 a b (i + 1) (.slice (some ⟨gb, 0, none⟩) G.length vgc) (.slice vna N.length vnc) (.slice vta X.length vtc) (w3.setCell ⟨gb, t * 3 + 2, none⟩ (.bool false))) := ⟨T3, p, e3, G.set t ⟨f, false⟩, N, X, B, HM3.out.gSet GT.out false, by omega, HI3.out⟩
                  clear HM3 HI3 CU
                  go_wp2
                  go_meet
                  exact R5.out
              | false =>
                as_aux_lemma =>
                  obtain ⟨q0, -, q2, -⟩ := HD2.out.gCells GT.out
                  have CU := Lib.hid (keep_unpin_gone HD2.out HI.out (by omega) GT.out)
                  go_region_held3 (fun w' => w'.cell? ⟨gb, t * 3, none⟩ = some (.int .i64 ((t : Int) + 1)) ∧ w'.cell? ⟨gb, t * 3 + 2, none⟩ = some (.bool false))
                    (with_reducible (first | exact ⟨q0, q2⟩ | fail))
                    (((with_reducible refine CU.out.mono ?_); rintro x w3 ⟨rfl, rfl⟩))
                  have R5 : Hid (KeepMid w0 a b (i + 1) (.slice (some ⟨gb, 0, none⟩) G.length vgc) (.slice vna N.length vnc) (.slice vta X.length vtc) (wc.drew.setCell ⟨gb, t * 3 + 2, none⟩ (.bool false))) := ⟨T, p, e, G, N, X, B, by have h := HD2.out.gSet GT.out false; rw [set_same GT.out] at h; exact h, by omega, HI.out.mono⟩
                  have q3 := (HD2.out.gCells GT.out).2.2.2
                  clear CU
                  go_wp2
                  go_meet
                  exact R5.out
          by_cases c5 : c = 5
          · subst c5
            as_aux_lemma =>
              cases ha : advanced p e with
              | none =>
                as_aux_lemma =>
                  have CA := Lib.hid (keep_advance_none HMd.out HI.out (by omega) ha)
                  clear ha
                  go_wp2_with fail
                  refine CA.out.mono ?_
                  rintro x w3 ⟨rfl, rfl⟩
                  have S9 := Lib.hid HMd.out.since
                  clear CA
                  go_wp2
                  go_ret
                  exact ⟨rfl, HB0.out.trans (S9.out.below.mono HB0.out.size)⟩
              | some z =>
                as_aux_lemma =>
                  obtain ⟨q, e'⟩ := z
                  have CA := Lib.hid (keep_advance HMd.out HI.out (by omega) q e' ha)
                  have hI5 := Lib.hid (HI.out.advance HMd.out.sta.inv ha)
                  clear ha
                  go_wp2_with fail
                  refine CA.out.mono ?_
                  rintro x w3 ⟨rfl, T3, hM3⟩
                  have R5 : Hid (KeepMid w0 a b (i + 1) (.slice vga G.length vgc) (.slice vna N.length vnc) (.slice vta X.length vtc) w3) := ⟨T3, q, e', G, N, X, B, hM3, by omega, hI5.out⟩
                  clear CA hM3 hI5
                  go_wp2
                  go_meet
                  exact R5.out
          by_cases c6 : c = 6
          · subst c6
            as_aux_lemma =>
              have CA := Lib.hid (keep_collect HMd.out HI.out (by omega))
              have hI5 := Lib.hid (HI.out.collect HMd.out.sta.inv)
              go_wp2_with fail
              refine CA.out.mono ?_
              rintro x w3 ⟨rfl, T3, hM3⟩
              have R5 : Hid (KeepMid w0 a b (i + 1) (.slice vga G.length vgc) (.slice vna N.length vnc) (.slice vta X.length vtc) w3) := ⟨T3, _, _, G, N, X, B, hM3, by omega, hI5.out⟩
              clear CA hM3 hI5
              go_wp2
              go_meet
              exact R5.out
          · have e1 : (c == 1) = false := by simpa using c1
            have e2 : (c == 2) = false := by simpa using c2
            have e5 : (c == 5) = false := by simpa using c5
            have e6 : (c == 6) = false := by simpa using c6
            go_upto_region 17 with fail
            rename_i K17 hK17
            go_cut [18] (fun v wx => TextIs v ∧ wc = wx)
            case first =>
              by_cases hs : s.size ≤ 100
              · have hs3 : min (s.size : Int) 100 = (s.size : Int) := by omega
                have R0 := Lib.hid (textIs_short hs)
                go_wp2_with fail
                go_meet
                exact ⟨R0.out, rfl⟩
              · have hs3 : min (s.size : Int) 100 = 100 := by omega
                have R0 := Lib.hid (textIs_long (s := s) (by omega))
                go_wp2_with fail
                go_meet
                exact ⟨R0.out, rfl⟩
            case rest =>
              obtain ⟨⟨S, rfl, s0, s1⟩, rfl⟩ := hcut
              have CR := keep_retire HMd.out HI.out (by omega) hB S s0 s1 (grownCap wc S.size 0 5)
              have hcv := Lib.run_convert_string_bytes (P := Try.prog) wc 9 48 5 S Try.underlying9 Try.underlying48 Try.underlying5
              refine hK17 _ _ ?_
              clear hK17
              unfold RetOk at CR
              cases hr : retired p e (bytesOf S) with
              | none =>
                rw [hr] at CR
                have CR := Lib.hid CR
                clear hr
                go_wp2_with fail
                refine CR.out.mono ?_
                rintro x w3 ⟨rfl, T3, hM3⟩
                have S9 := Lib.hid (hM3.alloc (.cells #[.int .i64 0, .int .i64 0, .int .i64 0, .int .i64 0, .int .i64 0] 45)).since
                clear CR hM3 hcv
                go_wp2
                go_ret
                exact ⟨rfl, HB0.out.trans (S9.out.below.mono HB0.out.size)⟩
              | some z =>
                obtain ⟨nn, q, e'⟩ := z
                rw [hr] at CR
                have CR := Lib.hid CR
                have HR := Lib.hid (HI.out.retire HMd.out.sta.inv (by have := HI.out.now; omega) s0 (by rw [HI.out.size]; omega) hr)
                clear hr
                go_wp2_with fail
                refine CR.out.mono ?_
                rintro x w3 ⟨rfl, T3, hM3⟩
                obtain ⟨i4, hi4, z4, s4, b4⟩ := info_parts Try.infoNote
                obtain ⟨i5, hi5, z5, s5, b5⟩ := info_parts Try.infoString
                have HM4 := Lib.hid ((hM3.alloc (.cells nn.cells 45)).alloc (.cells nn.cells 45))
                have h0s : w0.heap.size ≤ ((w3.alloc (.cells nn.cells 45)).alloc (.cells nn.cells 45)).heap.size := HM4.out.since.below.size
                have hNl : N.length ≤ 120 := by have := HI.out.nlen; omega
                have hXl : X.length ≤ 120 := by have := HI.out.xl; omega
                clear CR hM3 hcv
                go_wp2_with (at_builtin; refine wpList_append_place rfl (.tmp 75) (.tmp 77) 32 rfl w0.heap.size 45 i4 (.agg #[.int .i64 0, .int .i64 0, .int .i64 0, .int .i64 0, .int .i64 0]) 5 40 Try.underlying32 hi4 z4 s4 b4 rfl (by decide) (.slice vna N.length vnc) N.length (noteCells N) rfl HM4.out.n.own ⟨w3.heap.size + 1, 0, none⟩ 1 1 nn.cells.toList rfl rfl ?c1 ?c2 ?c3 ?c4 h0s ?_)
                case c1 =>
                  intro j u hj
                  match j, hj with
                  | 0, hj => simp [Note.cells] at hj; subst hj; simp [Addr.add, Note.cells]
                  | 1, hj => simp [Note.cells] at hj; subst hj; simp [Addr.add, Note.cells]
                  | 2, hj => simp [Note.cells] at hj; subst hj; simp [Addr.add, Note.cells]
                  | 3, hj => simp [Note.cells] at hj; subst hj; simp [Addr.add, Note.cells]
                  | 4, hj => simp [Note.cells] at hj; subst hj; simp [Addr.add, Note.cells]
                case c2 => intro u hu; simp [Note.cells] at hu; rcases hu with rfl | rfl | rfl | rfl | rfl <;> rfl
                case c3 => unfold maxLen; omega
                case c4 => omega
                intro vn' w5 ho5 hg5 _ hpl
                have HM5 := Lib.hid ((HM4.out.nAppend hg5 ho5 (fun g hg => by simpa using hpl g hg)).alloc (.cells #[.string S] 9))
                have h0s' : w0.heap.size ≤ (w5.alloc (.cells #[.string S] 9)).heap.size := HM5.out.since.below.size
                clear HM4 h0s ho5 hg5 hpl
                go_wp2_with (at_builtin; refine wpList_append_place rfl (.tmp 79) (.tmp 81) 33 rfl w0.heap.size 9 i5 (.string ByteArray.empty) 1 16 Try.underlying33 hi5 z5 s5 b5 rfl (by decide) (.slice vta X.length vtc) X.length (X.map Value.string) rfl HM5.out.t.own ⟨w5.heap.size, 0, none⟩ 1 1 [.string S] rfl rfl ?d1 ?d2 ?d3 ?d4 h0s' ?_)
                case d1 =>
                  intro j u hj
                  match j, hj with
                  | 0, hj => simp at hj; subst hj; simp [Addr.add]
                case d2 => intro u hu; simp at hu; subst hu; rfl
                case d3 => unfold maxLen; omega
                case d4 => omega
                intro vt' w6 ho6 hg6 _ hpl6
                have R5 : Hid (KeepMid w0 a b (i + 1) (.slice vga G.length vgc) vn' vt' w6) := ⟨T3, q, e', G, N ++ [nn], X ++ [S], B + S.size, HM5.out.tAppend hg6 ho6 (fun g hg => by simpa using hpl6 g hg), by omega, HR.out⟩
                clear HM5 h0s' ho6 hg6 hpl6 HR
                go_wp2
                go_meet
                exact R5.out
        case rest =>
          as_aux_lemma =>
            obtain ⟨T', p', e', G', N', X', B', hM', hB', hI'⟩ := hcut
            obtain ⟨vga', vgc', rfl⟩ := owns_shape hM'.g.own
            obtain ⟨vna', vnc', rfl⟩ := owns_shape hM'.n.own
            obtain ⟨vta', vtc', rfl⟩ := owns_shape hM'.t.own
            have HM' := Lib.hid hM'
            have HI' := Lib.hid hI'
            have hGl : G'.length ≤ 121 := by have := hI'.len; omega
            have hNl : N'.length ≤ 121 := by have := hI'.nlen; omega
            have hXl : X'.length ≤ 121 := by have := hI'.xl; omega
            clear hM' hI' HI HMd
            go_wp2
            obtain ⟨wo, rfl⟩ : ∃ wo : World, wo = wr := ⟨_, rfl⟩
            go_loopw [21] (fun y wq => ∃ g : Nat, g ≤ G'.length ∧ y = .int .i64 g ∧ KeepMem w0 a b (.slice vga' G'.length vgc') (.slice vna' N'.length vnc') (.slice vta' X'.length vtc') wq T' p' e' G' N' X' B') (fun y _ => G'.length - (intOf y).toNat)
            case atStart => exact ⟨0, Nat.zero_le _, rfl, HM'.out⟩
            case round =>
              obtain ⟨g, hg, rfl, hMg⟩ := hrel
              have HMg := Lib.hid hMg
              clear hMg
              by_cases hgl : g < G'.length
              · obtain ⟨gb, gc, hva⟩ := Joins.ownsRow_form HMg.out.g.own (by omega)
                simp only [Value.slice.injEq, true_and] at hva
                obtain ⟨rfl, rfl⟩ := hva
                obtain ⟨⟨f, th⟩, hgt⟩ : ∃ z, G'[g]? = some z := ⟨_, List.getElem?_eq_getElem hgl⟩
                have GT := Lib.hid hgt
                obtain ⟨q0, q1, q2, -⟩ := HMg.out.gCells hgt
                have hfr : f ≤ N'.length := HI'.out.frm g ⟨f, th⟩ hgt
                have l1 : decide ((g : Int) < (G'.length : Int)) = true := decide_eq_true (by omega)
                have l2 : (g : Int) < (G'.length : Int) := by omega
                clear hgt
                go_wp2
                obtain ⟨wi, rfl⟩ : ∃ wi : World, wi = wr := ⟨_, rfl⟩
                go_loopw [22] (fun y wq => ∃ k : Nat, f ≤ k ∧ k ≤ N'.length ∧ y = .int .i64 k ∧ KeepMem w0 a b (.slice (some ⟨gb, 0, none⟩) G'.length vgc') (.slice vna' N'.length vnc') (.slice vta' X'.length vtc') wq T' p' e' G' N' X' B') (fun y _ => N'.length - (intOf y).toNat)
                case atStart => exact ⟨f, Nat.le_refl _, hfr, rfl, HMg.out⟩
                case round =>
                  obtain ⟨k, hfk, hk, rfl, hMk⟩ := hrel
                  have HMk := Lib.hid hMk
                  obtain ⟨r0, r1, r2, -⟩ := hMk.gCells GT.out
                  clear hMk
                  by_cases hh : k < N'.length ∧ th = true
                  · obtain ⟨hkl, rfl⟩ := hh
                    obtain ⟨nb, nc, hvn⟩ := Joins.ownsRow_form HMk.out.n.own (by omega)
                    obtain ⟨tb, tc, hvt⟩ := Joins.ownsRow_form HMk.out.t.own (by rw [HI'.out.xl]; omega)
                    simp only [Value.slice.injEq, true_and] at hvn hvt
                    obtain ⟨rfl, rfl⟩ := hvn
                    obtain ⟨rfl, rfl⟩ := hvt
                    obtain ⟨⟨ne, ⟨nr, ng, no, nl⟩⟩, hn⟩ : ∃ z, N'[k]? = some z := ⟨_, List.getElem?_eq_getElem hkl⟩
                    obtain ⟨S, hS⟩ : ∃ z, X'[k]? = some z := ⟨_, List.getElem?_eq_getElem (by rw [HI'.out.xl]; exact hkl)⟩
                    obtain ⟨v0, v1, v2, v3, v4⟩ := HMk.out.nCells hn
                    have CL := Lib.hid (keep_load HMk.out HI'.out GT.out hfk hn hS)
                    have HS := Lib.hid hS
                    have l3 : decide ((k : Int) < (N'.length : Int)) = true := decide_eq_true (by omega)
                    have l4 : (k : Int) < (N'.length : Int) := by omega
                    have l5 : (k : Int) < (X'.length : Int) := by rw [HI'.out.xl]; omega
                    have HK : Hid (f ≤ k + 1 ∧ k + 1 ≤ N'.length ∧ N'.length - (k + 1) < N'.length - k) := ⟨by omega, hkl, by omega⟩
                    clear hn hS
                    go_wp2_with fail
                    refine CL.out.mono ?_
                    rintro x w5 ⟨hB5, cg, cc, rfl, ho5⟩
                    have cv := conv_back ho5
                    have HM5 := Lib.hid (HMk.out.below hB5)
                    have t5 := HM5.out.drew.tCell HS.out
                    have t6 := HM5.out.tCell HS.out
                    clear CL hB5 ho5
                    go_wp2_with fail
                    go_quiet (fail)
                    go_wp2
                    exact ⟨⟨k + 1, HK.out.1, HK.out.2.1, by go_num, HM5.out.drewN _⟩, by simp [intOf]; omega⟩
                  · by_cases hkl : k < N'.length
                    · obtain rfl : th = false := by simpa [hkl] using hh
                      have l3 : decide ((k : Int) < (N'.length : Int)) = true := decide_eq_true (by omega)
                      go_wp2
                      exact ⟨⟨g + 1, by omega, by go_num, HMk.out⟩, by simp [intOf]; omega⟩
                    · have l3 : decide ((k : Int) < (N'.length : Int)) = false := decide_eq_false (by omega)
                      go_wp2
                      exact ⟨⟨g + 1, by omega, by go_num, HMk.out⟩, by simp [intOf]; omega⟩
              · have l1 : decide ((g : Int) < (G'.length : Int)) = false := decide_eq_false (by omega)
                have R6 : Hid (KeepMid w0 a b (i + 1) (.slice vga' G'.length vgc') (.slice vna' N'.length vnc') (.slice vta' X'.length vtc') wr) := ⟨T', p', e', G', N', X', B', HMg.out, hB', HI'.out⟩
                go_wp2
                exact ⟨⟨i + 1, by omega, by omega, by go_num, R6.out⟩, by simp [intOf]; omega⟩
    · clear hDi
      have S9 := HM.out.since
      go_wp2
      all_goals
        go_ret
        exact ⟨rfl, HB0.out.trans (S9.below.mono HB0.out.size)⟩

end Go.Proofs.Ytmnklaphcjchiaa
