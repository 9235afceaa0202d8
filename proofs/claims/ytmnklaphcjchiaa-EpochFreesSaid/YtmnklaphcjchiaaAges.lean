/-
  Walks of the laws: ages.
-/
import Derived.Test.YtmnklaphcjchiaaSta
import Derived.Lib.SlBytesConst
import Derived.Lib.SmallJoins
import Derived.Laws.IdiomStrings
namespace Go.Proofs.Ytmnklaphcjchiaa
open Go.RowKit

/-- What a law leaves alone: all that was there when it began. -/
structure Since (w0 w : World) (T : Tags) : Prop where
  below : Below w0.heap.size w0 w
  none : ∀ k, k < w0.heap.size → T k = (0, 0)

theorem Since.step {w0 w w' : World} {T T' : Tags} (h : Since w0 w T) (hs : Same (EpOwn T) w w') (hX : Ext T T' w) : Since w0 w' T' where
  below := h.below.trans (hs.below h.below.size (fun i hi ho => by unfold EpOwn at ho; rw [h.none i hi] at ho; simp at ho))
  none := fun k hk => (hX k (Nat.lt_of_lt_of_le hk h.below.size)).trans (h.none k hk)

theorem Since.next {w0 w w' : World} {T : Tags} (h : Since w0 w T) (hs : Below w.heap.size w w') : Since w0 w' T :=
  ⟨h.below.trans (hs.mono h.below.size), h.none⟩

/-- Pin, in the model. -/
def pin1 (e : Eps) : Eps := { e with pins := e.pins ++ [(e.last + 1, e.now)], last := e.last + 1 }

theorem newPost_cases {w : World} {T : Tags} {q : Pool} {x : Ending} {w' : World} (h : NewPost w T q x w') : ∃ b, x = .returned (.tuple #[.pointer (some ⟨b, 0, none⟩), .int .i64 0]) ∧ ∃ T' L', Below w.heap.size w w' ∧ Ext T T' w ∧ PoolRep w' T' b q L' := h

set_option maxRecDepth 100000 in
set_option maxHeartbeats 1600000 in
theorem ages_true (w : World) : Calls Try.prog 7 #[] w (fun x w' => x = .returned (.bool true) ∧ Below w.heap.size w w') := by
  have CN : Calls Try.prog 8 #[.int .i64 64, .int .i64 4] w (NewPost w (fun _ => (0, 0)) (Pool.new 64 4)) := new_any w _ 64 4 (by omega) (by omega) (by omega) (by omega) (by omega) (by omega)
  go_enter Try.func7, Try.ntmps7
  go_wp2_with fail
  refine CN.mono ?_
  rintro x w1 hx
  obtain ⟨b, rfl, T1, L1, hB1, hX1, hR1⟩ := newPost_cases hx
  have CE := Lib.hid (epochNew_any hR1 (by omega) (by omega) (by omega) (by omega) (by omega))
  have S1 : Hid (Since w w1 T1) := ⟨hB1, fun k hk => hX1 k hk⟩
  clear hx CN hB1 hX1 hR1
  go_wp2_with fail
  refine CE.out.mono ?_
  rintro x w2 ⟨a, rfl, T2, hX2, hS2, hT2⟩
  have S2 := Lib.hid (S1.out.step hS2 hX2)
  have CP := Lib.hid (hT2.pin (by simp [eps1, Eps.none, Eps.advance]) (by simp [eps1, Eps.none, Eps.advance]))
  clear CE S1 hX2 hS2 hT2
  go_wp2_with fail
  refine CP.out.mono ?_
  rintro x w3 ⟨rfl, hS3, T3, hX3, hT3⟩
  have S3 := Lib.hid (S2.out.step hS3 hX3)
  have hcv := Lib.run_convert_bytes_const (P := Try.prog) w3 48 5 #[.int .u8 97, .int .u8 98, .int .u8 99] 3 3 Try.underlying48 Try.underlying5
  have hT3' := hT3.alloc (.cells #[.int .u8 97, .int .u8 98, .int .u8 99] 5 (3, 4))
  have hbc : ∀ i, i < [(97 : Int), 98, 99].length → (w3.alloc (.cells #[.int .u8 97, .int .u8 98, .int .u8 99] 5 (3, 4))).cell? ⟨w3.heap.size, i, none⟩ = some (.int .u8 ([(97 : Int), 98, 99].getD i 0)) := fun i hi => by
    rw [World.cell?_alloc_mark]
    match i, hi with
    | 0, _ => rfl
    | 1, _ => rfl
    | 2, _ => rfl
  have CR : Hid (Calls Try.prog 14 #[.pointer (some ⟨a, 0, none⟩), .slice (some ⟨w3.heap.size, 0, none⟩) 3 3] (w3.alloc (.cells #[.int .u8 97, .int .u8 98, .int .u8 99] 5 (3, 4))) (StaRetire (w3.alloc (.cells #[.int .u8 97, .int .u8 98, .int .u8 99] 5 (3, 4))) T3 a b (pool1 64 4) (pin1 eps1) 0 [97, 98, 99])) :=
    hT3'.retire (show 1 < _ by omega) (by omega) [97, 98, 99] (by simp) (by show 3 ≤ 64; omega) w3.heap.size 3 (hT3.other (Nat.le_refl _)) hbc
  have HT3 := Lib.hid hT3
  clear CP S2 hS3 hX3 hT3 hT3' hbc
  obtain ⟨n, q, e4, hr⟩ := retire_there (HT3.out.inv) (xs := [97, 98, 99]) (by simp) (by show 3 ≤ 64; omega) (idle1 (size := 64) (n := 4) (by omega))
  have HR := Lib.hid hr
  obtain ⟨i4, held4, -, ep4, lo4, now4, pins4, last4, sz4, n4⟩ := retired_facts HT3.out.inv (show 1 < _ by omega) (by simp) (by show 3 ≤ 64; omega) hr
  have lo4 : e4.lo = 1 := lo4
  have now4 : e4.now = 1 := now4
  have pins4 : e4.pins = [(1, 1)] := pins4
  have n4 : q.n = 4 := n4
  obtain ⟨q5, e5, ha⟩ := advance_there i4 (by simp only [Eps.cnt]; omega)
  obtain ⟨i5, keep5, lo5, now5, pins5, last5, sz5, n5, slabs5, bytes5, -⟩ := advanced_facts i4 ha
  have held5 := keep5 _ _ held4
  have lo5 : e5.lo = 1 := lo5.trans lo4
  have now5 : e5.now = 2 := by omega
  have pins5 : e5.pins = [(1, 1)] := pins5.trans pins4
  have n5 : q5.n = 4 := n5.trans n4
  have old5 : e5.oldest = 1 := by unfold Eps.oldest; rw [now5, pins5]; rfl
  have ld5 := Lib.hid held5.loaded
  have wfn := Lib.hid held5.wf
  have I5 := Lib.hid i5
  have HA := Lib.hid ha
  have M : Hid (e4.now = 1 ∧ e5.lo = 1 ∧ e5.now = 2 ∧ e5.pins = [(1, 1)] ∧ q5.n = 4 ∧ e5.oldest = 1 ∧ (q5.lands (e5.era e5.now).region).slabs = [] ∧ (e5.era e5.now).bytes = 0 ∧ n.epoch = 1) := ⟨now4, lo5, now5, pins5, n5, old5, slabs5, bytes5, ep4⟩
  clear hr i4 held4 lo4 now4 pins4 last4 sz4 n4 ha i5 keep5 lo5 now5 pins5 last5 sz5 n5 slabs5 bytes5 held5 old5 ep4
  go_wp2_with fail
  refine CR.out.mono ?_
  unfold StaRetire
  rw [show retired (pool1 64 4) (pin1 eps1) [97, 98, 99] = _ from HR.out]
  rintro x w4 ⟨rfl, hS4, T4, hX4, hT4⟩
  have CA : Hid (Calls Try.prog 12 #[.pointer (some ⟨a, 0, none⟩)] (w4.alloc (.cells #[.int .i64 n.epoch, .int .i64 n.at_.region, .int .i64 n.at_.gen, .int .i64 n.at_.off, .int .i64 n.at_.len] 45)) (StaPost (w4.alloc (.cells #[.int .i64 n.epoch, .int .i64 n.at_.region, .int .i64 n.at_.gen, .int .i64 n.at_.off, .int .i64 n.at_.len] 45)) T4 a b (.tuple #[.int .i64 2, .int .i64 0]) q5 e5 3)) := by
    have h1 := (hT4.alloc (.cells #[.int .i64 n.epoch, .int .i64 n.at_.region, .int .i64 n.at_.gen, .int .i64 n.at_.off, .int .i64 n.at_.len] 45)).advance (by have := M.out.1; omega)
    unfold StaAdvance at h1
    rw [HA.out, M.out.1] at h1
    exact h1
  have own4 := Lib.hid (hT4.other (Nat.le_refl _))
  have S4 := Lib.hid ((S3.out.next ((Below.refl _ _).alloc (Nat.le_refl _) (.cells #[.int .u8 97, .int .u8 98, .int .u8 99] 5 (3, 4)))).step hS4 hX4)
  have HT4 := Lib.hid hT4
  clear CR S3 hS4 hX4 hT4 hcv
  go_wp2_with fail
  refine CA.out.mono ?_
  rintro x w5 ⟨rfl, hS5, T5, hX5, hT5⟩
  have nc : ∀ i v, (#[.int .i64 n.epoch, .int .i64 n.at_.region, .int .i64 n.at_.gen, .int .i64 n.at_.off, .int .i64 n.at_.len] : Array Value)[i]? = some v → w5.cell? ⟨w4.heap.size, i, none⟩ = some v := fun i v hv => hS5.cell own4.out (by rw [World.cell?_alloc_new]; exact hv)
  have c0 := nc 0 _ rfl
  have c1 := nc 1 _ rfl
  have c2 := nc 2 _ rfl
  have c3 := nc 3 _ rfl
  have c4 := nc 4 _ rfl
  have own5 := Lib.hid (own_ext hX5 (by simp) own4.out : ¬ EpOwn T5 w4.heap.size)
  have S5 := Lib.hid ((S4.out.next ((Below.refl _ _).alloc (Nat.le_refl _) (.cells #[.int .i64 n.epoch, .int .i64 n.at_.region, .int .i64 n.at_.gen, .int .i64 n.at_.off, .int .i64 n.at_.len] 45))).step hS5 hX5)
  have CC : Hid (Calls Try.prog 13 #[.pointer (some ⟨a, 0, none⟩)] w5 (StaPost w5 T5 a b (.tuple #[.int .i64 0, .int .i64 0]) q5 e5 3)) := by
    have h1 := hT5.collect (by have := M.out.2.2.1; omega)
    rw [M.out.2.2.2.2.2.1, M.out.2.1] at h1
    exact h1
  clear CA S4 hS5 hX5 hT5 nc
  go_wp2_with fail
  refine CC.out.mono ?_
  rintro x w6 ⟨rfl, hS6, T6, hX6, hT6⟩
  have c0 := hS6.cell own5.out c0
  have c1 := hS6.cell own5.out c1
  have c2 := hS6.cell own5.out c2
  have c3 := hS6.cell own5.out c3
  have c4 := hS6.cell own5.out c4
  have own6 := Lib.hid (own_ext hX6 (World.block_lt_of_cell? _ _ (by assumption : w5.cell? ⟨w4.heap.size, 0, none⟩ = _)) own5.out : ¬ EpOwn T6 w4.heap.size)
  have S6 := Lib.hid (S5.out.step hS6 hX6)
  have HT6 := Lib.hid hT6
  have CL := Lib.hid (hT6.load n.epoch n.at_.region n.at_.gen n.at_.off n.at_.len wfn.out)
  clear CC S5 hS6 hX6 hT6
  go_wp2_with fail
  refine CL.out.mono ?_
  unfold ELoadPost
  rw [show loaded q5 e5 ⟨n.epoch, ⟨n.at_.region, n.at_.gen, n.at_.off, n.at_.len⟩⟩ = _ from ld5.out]
  rintro x w7 ⟨hB7, v, rfl, ho⟩
  have S7 := Lib.hid (S6.out.next hB7)
  have HT7 := Lib.hid (HT6.out.below hB7)
  obtain ⟨g, cap, rfl⟩ := Joins.ownsRow_form ho (by simp)
  have hcb : (convert 48 9 (.slice (some ⟨g, 0, none⟩) 3 cap)).run Try.prog w7 = .ok (.string ⟨#[97, 98, 99]⟩) w7 := run_convert_bytes_back (P := Try.prog) w7 48 9 5 ⟨g, 0, none⟩ cap [97, 98, 99] Try.underlying48 Try.underlying5 Try.underlying9 (fun j hj => by
    rw [add_mk, Nat.zero_add]
    have := ho.cellAt j (by simpa using hj)
    rw [this]
    match j, hj with
    | 0, _ => rfl
    | 1, _ => rfl
    | 2, _ => rfl)
  have CU : Hid (Calls Try.prog 11 #[.pointer (some ⟨a, 0, none⟩), .int .i64 1] w7 (StaPost w7 T6 a b (.int .i64 0) q5 { e5 with pins := [] } 3)) := HT7.out.unpin 1 1 [] [] M.out.2.2.2.1 (by omega)
  have c0 := below_cell hB7 c0
  have c1 := below_cell hB7 c1
  have c2 := below_cell hB7 c2
  have c3 := below_cell hB7 c3
  have c4 := below_cell hB7 c4
  clear CL S6 hB7 ho
  go_wp2_with fail
  refine CU.out.mono ?_
  rintro x w8 ⟨rfl, hS8, T8, hX8, hT8⟩
  clear hcb
  have c0 := hS8.cell own6.out c0
  have c1 := hS8.cell own6.out c1
  have c2 := hS8.cell own6.out c2
  have c3 := hS8.cell own6.out c3
  have c4 := hS8.cell own6.out c4
  have own8 := Lib.hid (own_ext hX8 (World.block_lt_of_cell? _ _ (by assumption : w7.cell? ⟨w4.heap.size, 0, none⟩ = _)) own6.out : ¬ EpOwn T8 w4.heap.size)
  have S8 := Lib.hid (S7.out.step hS8 hX8)
  have old8 : ({ e5 with pins := [] } : Eps).oldest = 2 := by unfold Eps.oldest minPin; exact M.out.2.2.1
  have CC : Hid (Calls Try.prog 13 #[.pointer (some ⟨a, 0, none⟩)] w8 (StaPost w8 T8 a b (.tuple #[.int .i64 1, .int .i64 0]) (collectN 1 (q5, { e5 with pins := [] })).1 (collectN 1 (q5, { e5 with pins := [] })).2 3)) := by
    have h1 := hT8.collect (by have := M.out.2.2.1; show e5.now < _; omega)
    have hsub : ({ e5 with pins := [] } : Eps).oldest - ({ e5 with pins := [] } : Eps).lo = 1 := by
      rw [old8]; show 2 - e5.lo = 1; rw [M.out.2.1]
    rw [hsub] at h1
    exact h1
  have f9 := collectN_facts hT8.inv 1 (by have h1 := M.out.2.1; have h2 := M.out.2.2.1; show e5.lo + 1 ≤ e5.now; omega)
  have e9 := collectN_eps 1 q5 { e5 with pins := [] }
  obtain ⟨i9, -, l9, -, n9⟩ := f9
  obtain ⟨z9, hz9⟩ : ∃ z, z = collectN 1 (q5, { e5 with pins := [] }) := ⟨_, rfl⟩
  rw [← hz9] at i9 l9 n9 e9
  have CC' : Hid (Calls Try.prog 13 #[.pointer (some ⟨a, 0, none⟩)] w8 (StaPost w8 T8 a b (.tuple #[.int .i64 1, .int .i64 0]) z9.1 z9.2 3)) := by rw [hz9]; exact CC
  have N9 : Hid (z9.1.n = 4 ∧ z9.2.lo = 2 ∧ z9.2.now = 2 ∧ z9.2.era = e5.era ∧ (z9.1.lands (e5.era e5.now).region).slabs = []) := ⟨n9.trans M.out.2.2.2.2.1, by rw [e9]; show e5.lo + 1 = 2; rw [M.out.2.1], by rw [e9]; exact M.out.2.2.1, by rw [e9], by rw [show z9.1.lands (e5.era e5.now).region = _ from l9]; exact M.out.2.2.2.2.2.2.1⟩
  clear CC CU S7 HT7 hS8 hX8 hT8 old8 hz9 e9 l9 n9 i9
  go_wp2_with fail
  refine CC'.out.mono ?_
  rintro x w9 ⟨rfl, hS9, T9, hX9, hT9⟩
  have c0 := hS9.cell own8.out c0
  have c1 := hS9.cell own8.out c1
  have c2 := hS9.cell own8.out c2
  have c3 := hS9.cell own8.out c3
  have c4 := hS9.cell own8.out c4
  have S9 := Lib.hid (S8.out.step hS9 hX9)
  have HT9 := Lib.hid hT9
  have CL := Lib.hid (hT9.load n.epoch n.at_.region n.at_.gen n.at_.off n.at_.len wfn.out)
  have ldl : loaded z9.1 z9.2 ⟨n.epoch, ⟨n.at_.region, n.at_.gen, n.at_.off, n.at_.len⟩⟩ = .error 3 := by
    unfold loaded
    rw [if_neg]
    have h1 := N9.out.2.1
    have h2 := M.out.2.2.2.2.2.2.2.2
    simp only []
    omega
  have LDL := Lib.hid ldl
  clear CC' S8 hS9 hX9 hT9 ldl
  go_wp2_with fail
  refine CL.out.mono ?_
  unfold ELoadPost
  rw [LDL.out]
  rintro x w10 ⟨hB10, rfl⟩
  have S10 := Lib.hid (S9.out.next hB10)
  have HT10 := Lib.hid (HT9.out.below hB10)
  have hid := idle_all HT9.out.inv (by rw [N9.out.2.1, N9.out.2.2.1]) (by rw [N9.out.2.2.2.1, N9.out.2.2.1]; have := N9.out.2.2.2.2; rw [M.out.2.2.1] at this; exact this)
  rw [N9.out.1] at hid
  have hkp := kept_one (e := z9.2) (by rw [N9.out.2.1, N9.out.2.2.1])
  rw [N9.out.2.2.2.1, N9.out.2.2.1] at hkp
  have hb5 := M.out.2.2.2.2.2.2.2.1
  rw [M.out.2.2.1] at hb5
  rw [hb5] at hkp
  have CI := HT10.out.idleIs
  rw [hid] at CI
  have CK := HT10.out.keptIs (by rw [hkp]; omega)
  rw [hkp] at CK
  have CI := Lib.hid CI
  have CK := Lib.hid CK
  clear CL S9 hB10 hid hkp hb5 c0 c1 c2 c3 c4
  go_wp2_with fail
  refine CI.out.mono ?_
  rintro x w11 ⟨rfl, rfl⟩
  go_wp2_with fail
  refine CK.out.mono ?_
  rintro x w11 ⟨rfl, hB11⟩
  have S11 := Lib.hid (S10.out.next hB11)
  clear CI CK S10 hB11
  go_wp2
  go_ret
  exact ⟨rfl, S11.out.below⟩

end Go.Proofs.Ytmnklaphcjchiaa
