/-
  The walk of EpochOldest.
-/
import Derived.Test.YtmnklaphcjchiaaOldP
import Derived.Test.YtmnklaphcjchiaaDays
import Derived.Deep.AppendLies
import Derived.Deep.DeepCutAuto
namespace Go.Proofs.Ytmnklaphcjchiaa
open Go.RowKit

theorem Since.write {w0 w w' : World} {T : Tags} {S : Nat → Prop} (h : Since w0 w T) (hs : Same S w w') (hS : ∀ k, k < w0.heap.size → ¬ S k) : Since w0 w' T :=
  ⟨h.below.trans (hs.below h.below.size hS), h.none⟩

theorem owns_lt {w : World} {base : Nat} {e : TypeId} {size : Nat} {v : Value} {n : Nat} {xs : List Value} (h : w.ownsRow base e size v n xs) {k : Nat} (hk : v.ownBlock = some k) : k < w.heap.size := (h.lt k hk).2

theorem owns_ge {w : World} {base : Nat} {e : TypeId} {size : Nat} {v : Value} {n : Nat} {xs : List Value} (h : w.ownsRow base e size v n xs) {k : Nat} (hk : v.ownBlock = some k) : base ≤ k := (h.lt k hk).1

theorem day_small (z : Int) : ∃ t : Nat, t < 30 ∧ wrap64 ((IntKind.u64.wrap z).tmod 30) = (t : Int) := by
  have h1 : IntKind.u64.wrap z = z % 18446744073709551616 := by simp [IntKind.wrap, IntKind.signed, IntKind.bits]
  rw [h1]
  have h2 : 0 ≤ z % 18446744073709551616 := Int.emod_nonneg _ (by omega)
  rw [Int.tmod_eq_emod_of_nonneg h2]
  refine ⟨((z % 18446744073709551616) % 30).toNat, by omega, ?_⟩
  unfold wrap64
  omega

theorem w64_in {x : Int} (h0 : -1000000 ≤ x) (h1 : x ≤ 1000000) : wrap64 x = x := IntWalk.wrap64_in x (by omega)
theorem i64_in' {x : Int} (h0 : -1000000 ≤ x) (h1 : x ≤ 1000000) : IntKind.i64.wrap x = x := IntWalk.i64_in x (by omega)

/-- The numbers of the law's last test. -/
structure OldNums (now old m was : Nat) : Prop where
  t0 : ((old : Int) != (old : Int)) = false
  t7 : ((now : Int) != (now : Int)) = false
  t8 : (((m + 1 : Nat) : Int) == 0) = false
  t1n : decide (old < was) = false
  t1 : decide ((old : Int) < (was : Int)) = false
  t2 : (((m : Int) + 1) == 0) = false
  t3 : wrap64 ((m : Int) + 1 - 1) = (m : Int)
  t4 : wrap64 ((now : Int) - (old : Int)) = (now : Int) - (old : Int)
  t5 : wrap64 ((now : Int) - (old : Int) + 1) = (now : Int) - (old : Int) + 1
  t6 : decide ((m : Int) + 1 < (now : Int) - (old : Int) + 1) = false
  t9 : (0 : Int) ≤ (m : Int)
  t10 : (m : Int) < (m : Int) + 1
  t11 : IntKind.i64.wrap (m : Int) = (m : Int)
  t14 : wrap64 (m : Int) = (m : Int)
  t12 : IntKind.i64.wrap ((now : Int) - (old : Int)) = (now : Int) - (old : Int)
  t13 : IntKind.i64.wrap ((now : Int) - (old : Int) + 1) = (now : Int) - (old : Int) + 1
  t15 : decide ((m : Int) < (now : Int) - (old : Int)) = false
  t16 : (now : Int) - (old : Int) ≤ (m : Int)

theorem OldNums.mk' {now old m was : Nat} (h1 : now ≤ 1000) (h2 : old ≤ now) (h3 : was ≤ old) (h4 : now ≤ m + old) (h5 : m ≤ 1000) : OldNums now old m was where
  t0 := by simp
  t7 := by simp
  t8 := by simp; omega
  t1n := by simp; omega
  t1 := by simp; omega
  t2 := by simp; omega
  t3 := by rw [w64_in (by omega) (by omega)]; omega
  t4 := w64_in (by omega) (by omega)
  t5 := w64_in (by omega) (by omega)
  t6 := by simp; omega
  t9 := by omega
  t10 := by omega
  t11 := i64_in' (by omega) (by omega)
  t14 := w64_in (by omega) (by omega)
  t12 := i64_in' (by omega) (by omega)
  t13 := i64_in' (by omega) (by omega)
  t15 := by simp; omega
  t16 := by omega

def LeastAt (m : Nat) (P : List Nat) (W : World) (x y : Value) (wq : World) : Prop :=
  ∃ k : Nat, k ≤ P.length ∧ y = .int .i64 k ∧ x = .int .i64 (leastN m (P.take k) : Nat) ∧ W = wq

theorem old_unpin {w : World} {T : Tags} {a b : Nat} {p : Pool} {e : Eps} {B : Nat} {P : List Nat} {i : Nat} (h : Sta w T a b p e B) (ho : OldInv e P i) {t : Nat} (ht : 1 ≤ t ∧ t ≤ 30) :
    Calls Try.prog 11 #[.pointer (some ⟨a, 0, none⟩), .int .i64 t] w
      (fun x w' => ∃ (r : Int) (e' : Eps) (T' : Tags), x = .returned (.int .i64 r) ∧ Same (EpOwn T) w w' ∧ Ext T T' w ∧ Sta w' T' a b p e' B ∧ OldInv e' (P.set (t - 1) 0) (i + 1) ∧ e.oldest ≤ e'.oldest) := by
  by_cases hm : ∃ x ∈ e.pins, x.1 = t
  · obtain ⟨x, hx, rfl⟩ := hm
    obtain ⟨l1, l2, hl⟩ := List.append_of_mem hx
    have hO := ho.unpin (q := x.1) (k := x.2) h.inv.wf.pnodup hl (by omega)
    refine (h.unpin x.1 x.2 l1 l2 hl (by omega)).mono ?_
    rintro y w' ⟨rfl, hS, T', hX, hT⟩
    exact ⟨0, _, T', rfl, hS, hX, hT, hO.1, hO.2⟩
  · refine (h.unpinMiss (t : Int) (by omega) (by omega) (fun x hx e1 => hm ⟨x, hx, by omega⟩)).mono ?_
    rintro y w' ⟨rfl, rfl⟩
    exact ⟨7, e, T, rfl, Same.refl _ _, Ext.refl _ _, h, ho.unpinMiss (fun x hx e1 => hm ⟨x, hx, e1⟩) (by omega), Nat.le_refl _⟩

/-- The state between the law's steps. -/
def OldMid (w0 : World) (a b : Nat) (i was : Nat) (v : Value) (wx : World) : Prop :=
  ∃ T p e P, Since w0 wx T ∧ Sta wx T a b p e 0 ∧ OldInv e P i ∧ was ≤ e.oldest ∧ wx.ownsRow w0.heap.size 3 1 v P.length (P.map fun (k : Nat) => Value.int .i64 (k : Int)) ∧ ∀ g, v.ownBlock = some g → T g = (0, 0)

set_option maxRecDepth 100000 in
set_option maxHeartbeats 1600000 in
theorem oldest_walk (w : World) (ad : Option Addr) (len cap : Nat) (hd : DaysAt w ad len) : Calls Try.prog 5 #[.slice ad len cap] w (fun x w' => x = .returned (.bool true) ∧ Below w.heap.size w w') := by
  have CG := ages_true w
  have HD := Lib.hid hd
  clear hd
  go_enter Try.func5, Try.ntmps5
  go_wp2_with fail
  refine CG.mono ?_
  rintro x w0 ⟨rfl, hB0⟩
  have CN : Calls Try.prog 8 #[.int .i64 64, .int .i64 10] w0 (NewPost w0 (fun _ => (0, 0)) (Pool.new 64 10)) := new_any w0 _ 64 10 (by omega) (by omega) (by omega) (by omega) (by omega) (by omega)
  have HB0 := Lib.hid hB0
  clear CG hB0
  go_wp2_with fail
  refine CN.mono ?_
  rintro x w1 hx
  obtain ⟨b, rfl, T1, L1, hB1, hX1, hR1⟩ := newPost_cases hx
  have CE := Lib.hid (epochNew_any hR1 (by omega) (by omega) (by omega) (by omega) (by omega))
  have S1 : Hid (Since w0 w1 T1) := ⟨hB1, fun k hk => hX1 k hk⟩
  clear hx CN hB1 hX1 hR1
  go_wp2_with fail
  refine CE.out.mono ?_
  rintro x w2 ⟨a, rfl, T2, hX2, hS2, hT2⟩
  have S2 := Lib.hid (S1.out.step hS2 hX2)
  have HT2 := Lib.hid hT2
  clear CE S1 hX2 hS2 hT2
  go_wp2
  go_loopw [6, 7, 8] (fun v x y wr => ∃ i was : Nat, i ≤ 100 ∧ i ≤ len ∧ x = .int .i64 was ∧ y = .int .i64 i ∧ OldMid w0 a b i was v wr) (fun _ _ y _ => 101 - (intOf y).toNat)
  case atStart => exact ⟨0, 1, by omega, Nat.zero_le _, rfl, rfl, T2, _, _, [], S2.out, HT2.out, OldInv.start, Nat.le_refl _, World.ownsRow_nil _ _ _ _, fun g hg => by simp [Value.ownBlock] at hg⟩
  case round =>
    obtain ⟨i, was, hi, hil, rfl, rfl, T, p, e, P, hS, hT, hO, hw, hown, hv⟩ := hrel
    have HS := Lib.hid hS
    have HT := Lib.hid hT
    have HO := Lib.hid hO
    have HOWN := Lib.hid hown
    have HV := Lib.hid hv
    have hDi := HD.out.below (HB0.out.trans (hS.below.mono HB0.out.size))
    obtain ⟨va, vc, rfl⟩ := owns_shape hown
    clear hS hT hO hown hv
    by_cases hlt : i < len ∧ i < 100
    · obtain ⟨h1, h2⟩ := hlt
      obtain ⟨db, off, rfl, hdb, c, n, y, s, k0, k1, k2, k3, -⟩ := hDi i h1
      clear hDi
      have d1 : decide ((i : Int) < (len : Int)) = true := by simp; omega
      have d2 : decide ((i : Int) < 100) = true := by simp; omega
      have d3 : (i : Int) < (len : Int) := by omega
      have d4 : (i : Int) < 100 := by omega
      go_upto_region 14 with fail
      rename_i K14 hK14
      go_cut [44] (fun s wx => s = .int .i64 c ∧ wr = wx)
      case first =>
        go_wp2_with fail
        go_meet
        exact ⟨rfl, rfl⟩
      case rest =>
        obtain ⟨rfl, rfl⟩ := hcut
        refine hK14 _ _ ?_
        clear hK14
        go_cut [6] (fun v wx => OldMid w0 a b (i + 1) was v wx)
        case first =>
          by_cases c1 : c = 1
          · subst c1
            have CP : Hid (Calls Try.prog 10 #[.pointer (some ⟨a, 0, none⟩)] wr (StaPost wr T a b (.tuple #[.int .i64 ((P.length : Int) + 1), .int .i64 0]) p (pin1 e) 0)) := by
              have h := HT.out.pin (by have := HO.out.pl; omega) (by have h1 := HO.out.last; have h2 := HO.out.len; omega)
              rw [show (e.last : Int) = (P.length : Int) by rw [HO.out.last]] at h
              exact h
            go_wp2_with fail
            refine CP.out.mono ?_
            rintro x w3 ⟨rfl, hS3, T3, hX3, hT3⟩
            have hw64 : wrap64 ((P.length : Int) + 1) = (P.length : Int) + 1 := w64_in (by omega) (by have h2 := HO.out.len; omega)
            have CN := Lib.hid hT3.nowIs
            go_wp2_with fail
            refine CN.out.mono ?_
            rintro x w4 ⟨rfl, rfl⟩
            clear hw64
            obtain ⟨i3, hi3, z3, s3, b3⟩ := info_parts Try.infoInt
            have hvk : ∀ k, (Value.slice va P.length vc).ownBlock = some k → w0.heap.size ≤ k ∧ k < wr.heap.size ∧ T k = (0, 0) := fun k hk => ⟨owns_ge HOWN.out hk, owns_lt HOWN.out hk, HV.out k hk⟩
            have HO3 := Lib.hid (World.ownsRow.alloc (hS3.owns (fun k hk ho => by unfold EpOwn at ho; rw [(hvk k hk).2.2] at ho; simp at ho) HOWN.out) (.cells #[.int .i64 (e.now : Int)] 3))
            have S3 := Lib.hid ((HS.out.step hS3 hX3).next ((Below.refl _ _).alloc (Nat.le_refl _) (.cells #[.int .i64 (e.now : Int)] 3)))
            have HT3 := Lib.hid (hT3.alloc (.cells #[.int .i64 (e.now : Int)] 3))
            have HVK : Hid (∀ k, (Value.slice va P.length vc).ownBlock = some k → w0.heap.size ≤ k ∧ T3 k = (0, 0)) := fun k hk => ⟨(hvk k hk).1, (hX3 k (hvk k hk).2.1).trans (hvk k hk).2.2⟩
            have h0s : w0.heap.size ≤ (w3.alloc (.cells #[.int .i64 (e.now : Int)] 3)).heap.size := S3.out.below.size
            have hPl : P.length ≤ 100 := by have := HO.out.len; omega
            clear CP CN hS3 hX3 hT3 hvk
            go_wp2_with (at_builtin; refine wpList_append_place rfl (.tmp 61) (.tmp 64) 53 rfl w0.heap.size 3 i3 (.int .i64 0) 1 8 Try.underlying53 hi3 z3 s3 b3 rfl (by decide) (.slice va P.length vc) P.length (P.map fun (k : Nat) => Value.int .i64 (k : Int)) rfl HO3.out ⟨w3.heap.size, 0, none⟩ 1 1 [.int .i64 (e.now : Int)] rfl rfl ?c1 ?c2 ?c3 ?c4 h0s ?_)
            case c1 =>
              intro j u hj
              match j, hj with
              | 0, hj => simp at hj; subst hj; simp [Addr.add, pin1]
            case c2 => intro u hu; simp at hu; subst hu; rfl
            case c3 => unfold maxLen; omega
            case c4 => omega
            intro v' w5 ho5 hg5 _ hpl
            obtain ⟨va', vc', rfl⟩ := owns_shape ho5
            have hO5 := HO.out.pin (by have h1 := HT.out.inv.wf.lo1; have h2 := HT.out.inv.le; omega)
            have SG : Same (fun k => (Value.slice va P.length vc).ownBlock = some k) (w3.alloc (.cells #[.int .i64 (e.now : Int)] 3)) w5 := (Same.refl _ _).then_grown hg5 (fun k hk => Or.inl hk)
            have R5 : Hid (OldMid w0 a b (i + 1) was (.slice va' (P.length + 1) vc') w5) := ⟨T3, p, pin1 e, P ++ [e.now], S3.out.write SG (fun k hk hs => by have := (HVK.out k hs).1; omega),
              HT3.out.same SG (fun k _ ho hs => by unfold EpOwn at ho; rw [(HVK.out k hs).2] at ho; simp at ho), hO5.1, by rw [hO5.2]; exact hw, by simpa using ho5, fun g hg => by
                rcases hpl g hg with h | h
                · exact (HVK.out g h).2
                · exact HT3.out.fresh g (by simpa using h)⟩
            clear ho5 hg5 hpl hO5 SG HO3 S3 HT3
            go_wp2
            go_meet
            exact R5.out
          have hown3 : ∀ (w' : World), Same (EpOwn T) wr w' → w'.ownsRow w0.heap.size 3 1 (.slice va P.length vc) P.length (P.map fun (k : Nat) => Value.int .i64 (k : Int)) := fun w' hS => hS.owns (fun k hk ho => by unfold EpOwn at ho; rw [HV.out k hk] at ho; simp at ho) HOWN.out
          have hv3 : ∀ T', Ext T T' wr → ∀ g, (Value.slice va P.length vc).ownBlock = some g → T' g = (0, 0) := fun T' hX g hg => (hX g (owns_lt HOWN.out hg)).trans (HV.out g hg)
          have HOWN3 := Lib.hid hown3
          have HV3 := Lib.hid hv3
          clear hown3 hv3
          by_cases c2 : c = 2
          · subst c2
            obtain ⟨t, ht, hlet⟩ := day_small n
            by_cases hin : 1 ≤ t ∧ t ≤ P.length
            · obtain ⟨t', rfl⟩ : ∃ t', t = t' + 1 := ⟨t - 1, by omega⟩
              obtain ⟨g, vc', hva⟩ := Joins.ownsRow_form HOWN.out (by omega)
              simp only [Value.slice.injEq, true_and] at hva
              obtain ⟨rfl, rfl⟩ := hva
              have CU := Lib.hid (old_unpin HT.out HO.out (t := t' + 1) (by omega))
              have g3 : decide (((t' : Int) + 1) < 1) = false := by simp; omega
              have g4 : decide ((P.length : Int) < ((t' : Int) + 1)) = false := by simp; omega
              have g5 : decide ((1 : Int) ≤ ((t' : Int) + 1)) = true := by simp; omega
              have g6 : decide (((t' : Int) + 1) ≤ (P.length : Int)) = true := by simp; omega
              have G7 : Hid (wrap64 (((t' : Int) + 1) - 1) = (t' : Int)) := by show wrap64 _ = _; rw [w64_in (by omega) (by omega)]; omega
              have g8 : t' < P.length := by omega
              have hlet : wrap64 ((IntKind.u64.wrap n).tmod 30) = (t' : Int) + 1 := hlet
              go_wp2_with fail
              clear hlet
              refine CU.out.mono ?_
              rintro x w3 ⟨r, e', T3, rfl, hS3, hX3, hT3, hO3, hw3⟩
              have ho3 := HOWN3.out _ hS3
              have q1 := ho3.cellAt t' (by omega)
              have q2 := ho3.frozenAt t'
              rw [List.getElem?_map, List.getElem?_eq_getElem g8] at q1
              simp only [Option.map_some] at q1
              obtain ⟨r1, r2⟩ := ho3.stored t' (.int .i64 0)
              have SG : Same (fun k => some k = some g) w3 (w3.setCell ⟨g, t', none⟩ (.int .i64 0)) := (Same.refl _ _).then_grown r2 (fun k hk => Or.inl hk.symm)
              have hgv := HV3.out _ hX3 g rfl
              have hgl : w0.heap.size ≤ g := owns_ge HOWN.out rfl
              have R5 : Hid (OldMid w0 a b (i + 1) was (.slice (some ⟨g, 0, none⟩) P.length vc) (w3.setCell ⟨g, t', none⟩ (.int .i64 0))) := ⟨T3, p, e', P.set t' 0, (HS.out.step hS3 hX3).write SG (fun k hk hs => by cases hs; omega),
                hT3.same SG (fun k _ ho hs => by cases hs; unfold EpOwn at ho; rw [hgv] at ho; simp at ho), hO3, Nat.le_trans hw hw3, by rw [List.length_set, List.map_set]; exact r1, fun g' hg' => by cases hg'; exact hgv⟩
              clear hS3 hX3 hT3 hO3 hw3 ho3 r1 r2 SG hgv
              have g7 := G7.out
              go_wp2
              go_meet
              exact R5.out
            · have g1 : ¬ (1 ≤ (t : Int) ∧ (t : Int) ≤ (P.length : Int)) := by omega
              by_cases g2 : 1 ≤ t
              · have g3 : decide ((t : Int) < 1) = false := by simp; omega
                have g4 : decide ((P.length : Int) < (t : Int)) = true := by simp; omega
                have g5 : decide ((1 : Int) ≤ (t : Int)) = true := by simp; omega
                have g6 : decide ((t : Int) ≤ (P.length : Int)) = false := by simp; omega
                go_wp2
                go_meet
                exact ⟨T, p, e, P, HS.out, HT.out, HO.out.mono, hw, HOWN.out, HV.out⟩
              · obtain rfl : t = 0 := by omega
                go_wp2
                go_meet
                exact ⟨T, p, e, P, HS.out, HT.out, HO.out.mono, hw, HOWN.out, HV.out⟩
          by_cases c5 : c = 5
          · subst c5
            have hn : e.now < 4611686018427387904 := by have := HO.out.now; omega
            have CA := HT.out.advance hn
            unfold StaAdvance at CA
            cases ha : advanced p e with
            | none =>
              rw [ha] at CA
              have CA := Lib.hid CA
              clear ha
              go_wp2_with fail
              refine CA.out.mono ?_
              rintro x w3 ⟨rfl, rfl⟩
              go_wp2
              go_meet
              exact ⟨T, p, e, P, HS.out, HT.out, HO.out.mono, hw, HOWN.out, HV.out⟩
            | some z =>
              obtain ⟨q, e'⟩ := z
              rw [ha] at CA
              have CA := Lib.hid CA
              have HA := Lib.hid ha
              clear ha
              go_wp2_with fail
              refine CA.out.mono ?_
              rintro x w3 ⟨rfl, hS3, T3, hX3, hT3⟩
              have hO5 := HO.out.advance HT.out.inv HA.out
              have R5 : Hid (OldMid w0 a b (i + 1) was (.slice va P.length vc) w3) := ⟨T3, q, e', P, HS.out.step hS3 hX3, hT3, hO5.1, Nat.le_trans hw hO5.2, HOWN3.out _ hS3, HV3.out _ hX3⟩
              clear hS3 hX3 hT3 hO5
              go_wp2
              go_meet
              exact R5.out
          by_cases c6 : c = 6
          · subst c6
            have hn : e.now < 4611686018427387904 := by have := HO.out.now; omega
            have CA := Lib.hid (HT.out.collect hn)
            go_wp2_with fail
            refine CA.out.mono ?_
            rintro x w3 ⟨rfl, hS3, T3, hX3, hT3⟩
            have hO5 := HO.out.collect (p := p)
            have R5 : Hid (OldMid w0 a b (i + 1) was (.slice va P.length vc) w3) := ⟨T3, _, _, P, HS.out.step hS3 hX3, hT3, hO5.1, by rw [hO5.2]; exact hw, HOWN3.out _ hS3, HV3.out _ hX3⟩
            clear hS3 hX3 hT3 hO5
            go_wp2
            go_meet
            exact R5.out
          · have e1 : (c == 1) = false := by simpa using c1
            have e2 : (c == 2) = false := by simpa using c2
            have e5 : (c == 5) = false := by simpa using c5
            have e6 : (c == 6) = false := by simpa using c6
            go_wp2
            go_meet
            exact ⟨T, p, e, P, HS.out, HT.out, HO.out.mono, hw, HOWN.out, HV.out⟩
        case rest =>
          obtain ⟨T', p', e', P', hS', hT', hO', hw', hown', hv'⟩ := hcut
          obtain ⟨va', vc', rfl⟩ := owns_shape hown'
          have HS' := Lib.hid hS'
          have HT' := Lib.hid hT'
          have HO' := Lib.hid hO'
          have HOWN' := Lib.hid hown'
          have HV' := Lib.hid hv'
          have CW := Lib.hid hT'.nowIs
          clear hS' hT' hO' hown' hv'
          go_wp2_with fail
          refine CW.out.mono ?_
          rintro x w4 ⟨rfl, rfl⟩
          clear CW
          go_wp2
          have hPl : P'.length ≤ 101 := by have := HO'.out.len; omega
          go_loopw [12, 13] (LeastAt e'.now P' wc) (fun _ y _ => P'.length - (intOf y).toNat)
          case atStart => exact ⟨0, Nat.zero_le _, rfl, rfl, rfl⟩
          case round =>
            obtain ⟨k, hk, rfl, rfl, rfl⟩ := hrel
            by_cases hkl : k < P'.length
            · obtain ⟨g, vc2, hva⟩ := Joins.ownsRow_form HOWN'.out (by omega)
              simp only [Value.slice.injEq, true_and] at hva
              obtain ⟨rfl, rfl⟩ := hva
              have q1 := HOWN'.out.cellAt k (by omega)
              rw [List.getElem?_map, List.getElem?_eq_getElem hkl] at q1
              simp only [Option.map_some] at q1
              obtain ⟨x0, hx0⟩ : ∃ x0, x0 = P'[k] := ⟨_, rfl⟩
              rw [← hx0] at q1
              have ht : leastN e'.now (P'.take (k + 1)) = if 0 < x0 then min (leastN e'.now (P'.take k)) x0 else leastN e'.now (P'.take k) := by
                rw [hx0, List.take_succ_eq_append_getElem hkl, leastN_snoc]
              have HK : Hid (k + 1 ≤ P'.length ∧ P'.length - (k + 1) < P'.length - k) := ⟨hkl, by omega⟩
              obtain ⟨m0, hm0⟩ : ∃ m0, m0 = leastN e'.now (P'.take k) := ⟨_, rfl⟩
              rw [← hm0] at ht ⊢
              have HTT := Lib.hid ht
              clear ht hx0 hm0
              have l1 : decide ((k : Int) < (P'.length : Int)) = true := by simp; omega
              by_cases h0 : 0 < x0
              · have l2 : decide ((0 : Int) < (x0 : Int)) = true := by simp; omega
                go_wp2
                exact ⟨⟨k + 1, HK.out.1, by go_num, by rw [HTT.out, if_pos h0]; go_num, rfl⟩, by simp [intOf]; omega⟩
              · obtain rfl : x0 = 0 := by omega
                go_wp2
                exact ⟨⟨k + 1, HK.out.1, by go_num, by rw [HTT.out, if_neg h0], rfl⟩, by simp [intOf]; omega⟩
            · obtain rfl : k = P'.length := by omega
              rw [List.take_length, HO'.out.least]
              have CL := Lib.hid HT'.out.liveIs
              go_wp2_with fail
              refine CL.out.mono ?_
              rintro x w5 ⟨v, rfl, ho5, -, hB5⟩
              obtain ⟨m, hm⟩ : ∃ m, e'.cnt = m + 1 := ⟨e'.cnt - 1, by have := HT'.out.inv.le; simp only [Eps.cnt]; omega⟩
              rw [hm] at ho5
              obtain ⟨gl, cl, rfl⟩ := Joins.ownsRow_form ho5 (by omega)
              have hmn : e'.lo + m = e'.now := by have := HT'.out.inv.le; simp only [Eps.cnt] at hm; omega
              have k5 := ho5.cellAt m (by omega)
              rw [List.getElem?_map, List.getElem?_range' (by omega)] at k5
              simp only [Option.map_some, Nat.one_mul, hmn] at k5
              have d5 : w5.drew.cell? ⟨gl, m, none⟩ = some (.int .i64 (e'.now : Int)) := k5
              have HT5 := Lib.hid (HT'.out.below hB5).drew
              have hnow : e'.now ≤ 102 := by have := HO'.out.now; omega
              have hlo := HO'.out.lo
              have hol := oldest_le e'
              have CO := Lib.hid (HT5.out.oldestIs (by omega))
              obtain ⟨t0, t7, t8, t1n, t1, t2, t3, t4, t5, t6, t9, t10, t11, t14, t12, t13, t15, t16⟩ := OldNums.mk' (now := e'.now) (old := e'.oldest) (m := m) (was := was) (by omega) hol hw' (by omega) (by omega)
              have HB5 := Lib.hid hB5
              clear ho5 hB5 CL k5
              go_wp2_with fail
              go_region_held3 (fun w' => w'.cell? ⟨gl, m, none⟩ = some (.int .i64 (e'.now : Int)))
                (with_reducible (first | exact d5 | exact q5 | fail))
                (first | ((with_reducible refine CO.out.mono ?_); rintro x w6 ⟨rfl, hB6⟩; have q5 := below_cell hB6 d5; have CW := Lib.hid (HT5.out.below hB6).nowIs) | ((with_reducible refine CW.out.mono ?_); rintro x w7 ⟨rfl, rfl⟩))
              clear t0 t7 t8 t1n t1 t2 t3 t4 t5 t6 t9 t10 t11 t14 t12 t13 t15 t16
              have R6 : Hid (OldMid w0 a b (i + 1) e'.oldest (.slice va' P'.length vc') w6) := ⟨T', p', e', P', HS'.out.next (HB5.out.drew.trans (hB6.mono HB5.out.size)), HT5.out.below hB6, HO'.out, Nat.le_refl _, (Same.of_below (S := fun _ => False) (HB5.out.drew.trans (hB6.mono HB5.out.size))).owns (fun _ _ h => h) HOWN'.out, HV'.out⟩
              clear CO CW hB6 q5 d5
              go_wp2_with fail
              exact ⟨⟨i + 1, e'.oldest, by omega, by omega, rfl, by go_num, R6.out⟩, by simp [intOf]; omega⟩
    · clear hDi
      have S9 := HS.out
      go_wp2
      all_goals
        go_ret
        exact ⟨rfl, HB0.out.trans (S9.below.mono HB0.out.size)⟩

end Go.Proofs.Ytmnklaphcjchiaa
