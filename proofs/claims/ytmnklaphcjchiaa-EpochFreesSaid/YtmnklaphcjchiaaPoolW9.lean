/-
  Walks of region.Pool: Free.
-/
import Derived.Test.YtmnklaphcjchiaaPoolW8
namespace Go.Proofs.Ytmnklaphcjchiaa
open Go.RowKit

theorem write_snoc (p : Pool) (s j : Nat) (v : Int) : (p.write s 0 (List.replicate j v)).write s j [v] = p.write s 0 (List.replicate (j + 1) v) := by
  simp only [Pool.write, Pool.mk.injEq, true_and, and_true]
  funext k
  by_cases hk : k = s
  · subst hk
    simp only [if_true]
    funext i
    by_cases h1 : j ≤ i ∧ i < j + [v].length
    · obtain rfl : i = j := by simp at h1; omega
      simp [List.getD]
    · rw [if_neg h1]
      simp only [List.length_cons, List.length_nil, Nat.zero_add] at h1
      by_cases h2 : i < j
      · have e1 : 0 ≤ i ∧ i < 0 + (List.replicate j v).length := by simp; omega
        have e2 : 0 ≤ i ∧ i < 0 + (List.replicate (j + 1) v).length := by simp; omega
        rw [if_pos e1, if_pos e2]
        simp [List.getD, h2, show i < j + 1 by omega]
      · rw [if_neg (by simp; omega), if_neg (by simp; omega)]
  · simp [hk]

theorem wipe_size (l : List Nat) : ∀ p : Pool, (p.wipe l).size = p.size ∧ (p.wipe l).n = p.n ∧ (p.wipe l).lands = p.lands := by
  induction l with
  | nil => intro p; exact ⟨rfl, rfl, rfl⟩
  | cons s r ih => intro p; exact ih (p.wipe1 s)

theorem wipe_snoc (p : Pool) (l : List Nat) (s : Nat) : p.wipe (l ++ [s]) = (p.wipe l).wipe1 s := by simp [Pool.wipe, List.foldl_append]

theorem land_cell {w : World} {T : Tags} {b : Nat} {p : Pool} {L : Lay} (h : PoolRep w T b p L) {i : Nat} (hi : i < 256) {va : Option Addr} {vl vc : Nat} (hlv : L.lv i = .slice va vl vc) {k : Nat} (hk : k < (p.lands i).slabs.length) :
    ∃ lb, va = some ⟨lb, 0, none⟩ ∧ lb < w.heap.size ∧ T lb = (5, i) ∧ w.cell? ⟨lb, k, none⟩ = some (.int .i64 ((p.lands i).slabs.getD k 0 : Nat)) := by
  have ho := h.ls i hi
  rcases ho.2 with ⟨_, h0⟩ | ⟨g, cap, cur, hv, _, hg, _⟩
  · omega
  · rw [hlv] at hv
    cases hv
    refine ⟨g, rfl, (Array.getElem?_eq_some_iff.1 hg).1, h.tagl i hi g (by rw [hlv]; rfl), ?_⟩
    rw [hlv] at ho
    rw [ho.cellAt k (by omega), slabInts, List.getElem?_map]
    simp [List.getD, List.getElem?_eq_getElem hk]

def FreePost (w : World) (T : Tags) (b : Nat) (q : Pool) (e : Ending) (w' : World) : Prop :=
  e = .returned (.int .i64 0) ∧ Same (PoolOwn T) w w' ∧ ∃ L', PoolRep w' T b q L'

set_option maxRecDepth 100000 in
set_option maxHeartbeats 1600000 in
theorem free_any {w : World} {T : Tags} {b : Nat} {p : Pool} {L : Lay} (h : PoolRep w T b p L) (wf : p.WF) (i : Nat) (hi : i < 256) (hr : (p.lands i).there = true) :
    Calls Try.prog 25 #[.pointer (some ⟨b, 0, none⟩), .int .i64 i] w (FreePost w T b (p.free i)) := by
  have C := land_any h i
  rw [if_pos (show p.has (i : Int) from ⟨by omega, by omega, by simpa using hr⟩)] at C
  have HC := Lib.hid C
  have hz1 := wf.size1
  have hn1 := wf.n1
  have hl4 : (p.lands i).slabs.length ≤ 4096 := Nat.le_trans (wf.len hi) wf.n1
  have hsl : ∀ s, s ∈ (p.lands i).slabs → s < p.n := fun s hs => (wf.slab i hi s hs).1
  have HSL := Lib.hid hsl
  have c2 := h.l2 i hi
  obtain ⟨va, vc, hlv⟩ := owns_shape (h.ls i hi)
  rw [hlv] at c2
  have H := Lib.hid h
  have HW := Lib.hid wf
  have HLV := Lib.hid hlv
  clear h C hlv wf hsl
  go_enter Try.func25, Try.ntmps25
  go_wp2_with fail
  refine HC.out.mono ?_
  rintro e w' ⟨rfl, rfl⟩
  go_wp2
  obtain ⟨sl, hsl⟩ : ∃ sl, sl = (p.lands i).slabs := ⟨_, rfl⟩
  have HE := Lib.hid hsl
  rw [← hsl] at hl4
  rw [← hsl]
  clear hsl
  go_loopw [21] (fun x wr => ∃ k : Nat, k ≤ sl.length ∧ x = .int .i64 k ∧ PoolRep wr T b (p.wipe (sl.take k)) L ∧ Same (PoolOwn T) w wr) (fun x _ => sl.length - (intOf x).toNat)
  case atStart => exact ⟨0, Nat.zero_le _, rfl, H.out, Same.refl _ _⟩
  case round =>
    obtain ⟨k, hk, rfl, R, S⟩ := hrel
    obtain ⟨q, hq⟩ : ∃ q, q = p.wipe (sl.take k) := ⟨_, rfl⟩
    rw [← hq] at R
    have hqs : q.size = p.size ∧ q.n = p.n ∧ q.lands = p.lands := by rw [hq]; exact wipe_size _ _
    have HQ := Lib.hid hq
    clear hq
    by_cases hlt : k < sl.length
    · obtain ⟨lb, hva, hlb, htlb, cl⟩ := land_cell R hi HLV.out (by rw [hqs.2.2, ← HE.out]; exact hlt)
      rw [hqs.2.2, ← HE.out] at cl
      have hs1 : sl.getD k 0 < p.n := HSL.out _ (by rw [← HE.out]; exact getD_lt hlt)
      have HSD := Lib.hid (show sl.take (k + 1) = sl.take k ++ [sl.getD k 0] by
        rw [List.take_succ_eq_append_getElem hlt]; simp [List.getD, List.getElem?_eq_getElem hlt])
      generalize sl.getD k 0 = s at *
      have d1 := R.c1
      have d2 := R.c2
      have ds := R.s s (by rw [hqs.2.1]; exact hs1)
      rw [hqs.2.1] at d1 d2
      rw [hqs.1] at ds
      unfold slabSlice at ds
      have HR := Lib.hid R
      have HS := Lib.hid S
      have HQS := Lib.hid hqs
      subst hva
      clear R S hqs
      go_wp2
      obtain ⟨wo, hwo⟩ : ∃ wo : World, wo = wr := ⟨_, rfl⟩
      subst hwo
      go_loopw [33] (fun x wi => ∃ j : Nat, j ≤ p.size ∧ x = .int .i64 j ∧ PoolRep wi T b (q.write s 0 (List.replicate j 221)) L ∧ Same (PoolOwn T) w wi) (fun x _ => p.size - (intOf x).toNat)
      case atStart =>
        refine ⟨0, Nat.zero_le _, rfl, ?_, HS.out⟩
        have e : q.write s 0 (List.replicate 0 221) = q := by
          simp only [Pool.write, List.replicate_zero, List.length_nil]
          have : (fun k => if k = s then fun j => if 0 ≤ j ∧ j < 0 + 0 then ([] : List Int).getD (j - 0) 0 else q.bytes k j else q.bytes k) = q.bytes := by
            funext k
            by_cases hk : k = s
            · simp [hk]
            · simp [hk]
          rw [this]
        rw [e]; exact HR.out
      case round =>
        obtain ⟨j, hj, rfl, R2, S2⟩ := hrel
        have HR2 := Lib.hid R2
        have HS2 := Lib.hid S2
        clear R2 S2
        have hsq : s < q.n := by rw [HQS.out.2.1]; exact hs1
        have g1 := HR2.out.c1
        have g2 := HR2.out.s s hsq
        have gt := HR2.out.c2
        have gts := HR2.out.t s hsq
        have gft := HR2.out.ft s
        rw [show (q.write s 0 (List.replicate j 221)).n = q.n from rfl, HQS.out.2.1] at g1 gt
        rw [show (q.write s 0 (List.replicate j 221)).size = q.size from rfl, HQS.out.1] at g2
        unfold slabSlice at g2
        by_cases hjt : j < p.size
        · have g3 := HR2.out.x s hsq j (by show j < q.size; rw [HQS.out.1]; exact hjt)
          have g4 := HR2.out.fx s hsq j
          have HW' := Lib.hid ((HR2.out.write (a := j) hsq [221] (by show j + 1 ≤ q.size; rw [HQS.out.1]; omega)))
          rw [write_snoc] at HW'
          have HP := Lib.hid (show PoolOwn T (L.xb s) by unfold PoolOwn; rw [H.out.tagx s hs1]; simp)
          clear gts gft
          go_wp2
          go_roundw
          case rel => exact ⟨j + 1, by omega, by go_num, HW'.out, HS2.out.then_setCell (p := ⟨L.xb s, j, none⟩) (Or.inl HP.out) _⟩
          case measure => simp [intOf]; omega
        · obtain rfl : j = p.size := by omega
          have HW' := Lib.hid (HR2.out.setTaken hsq false)
          have HP := Lib.hid (show PoolOwn T L.tb by unfold PoolOwn; rw [H.out.tagt]; simp)
          have HWQ := Lib.hid (show (q.write s 0 (List.replicate p.size 221)).setTaken s false = p.wipe (sl.take (k + 1)) by
            rw [HSD.out, wipe_snoc, ← HQ.out, Pool.wipe1, HQS.out.1])
          rw [HWQ.out] at HW'
          go_wp2
          go_roundw
          case rel => exact ⟨k + 1, by omega, by go_num, HW'.out, HS2.out.then_setCell (p := ⟨L.tb, s, none⟩) (Or.inl HP.out) _⟩
          case measure => simp [intOf]; omega
    · obtain rfl : k = sl.length := by omega
      have hql : q.lands i = p.lands i := by rw [hqs.2.2]
      have e0 := R.l0 i hi
      have e1 := R.l1 i hi
      have e2 := R.l2 i hi
      have e3 := R.l3 i hi
      have y0 := R.fb (3 + i * 4)
      have y1 := R.fb (3 + i * 4 + 1)
      have y2 := R.fb (3 + i * 4 + 2)
      have y3 := R.fb (3 + i * 4 + 3)
      have HN := Lib.hid (R.setLand hi { there := false, gen := (p.lands i).gen, slabs := [], fill := 0 } (.slice none 0 0) (by simp [Value.ownBlock]) (World.ownsRow_nil _ _ _ _))
      have HQQ := Lib.hid (show q = p.wipe (p.lands i).slabs by rw [HQ.out, List.take_length, HE.out])
      have HP := Lib.hid (show PoolOwn T b by unfold PoolOwn; rw [H.out.tagb]; simp)
      rw [hql] at e0 e1 e3
      have HS := Lib.hid S
      clear R S hqs hql
      go_wp2
      go_ret
      have HF := HN.out
      rw [HQQ.out] at HF
      exact ⟨rfl, HS.out.trans (same_cells _ _ _ _ HP.out _ _ _ _) (fun _ _ h => h), _, HF⟩

end Go.Proofs.Ytmnklaphcjchiaa
