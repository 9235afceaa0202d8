/-
  Plain facts on the epochs' model: what was retired stays where it is; no program in sight.
-/
import Derived.Test.YtmnklaphcjchiaaEpW11
namespace Go.Proofs.Ytmnklaphcjchiaa
open Go.RowKit

structure EpInv (p : Pool) (e : Eps) (B : Nat) : Prop where
  wf : EpWF p e
  le : e.lo ≤ e.now
  own : ∀ i, i < 256 → (p.lands i).there = true → ∃ k, e.lo ≤ k ∧ k ≤ e.now ∧ (e.era k).region = i
  bytes : ∀ k, e.lo ≤ k → k ≤ e.now → (e.era k).bytes ≤ B

structure Held (p : Pool) (e : Eps) (n : Note) (xs : List Int) : Prop where
  wf : n.WF
  live : ∃ k : Nat, n.epoch = k ∧ e.lo ≤ k ∧ k ≤ e.now ∧ n ∈ (e.era k).notes ∧ n.at_.region = ((e.era k).region : Int)
  piece : ∃ s a m, p.piece n.at_ = .ok (s, a, m) ∧ p.read s a m = xs

theorem Held.loaded {p : Pool} {e : Eps} {n : Note} {xs : List Int} (h : Held p e n xs) : loaded p e n = .ok xs := by
  obtain ⟨k, h1, h2, h3, h4, -⟩ := h.live
  obtain ⟨s, a, m, h5, h6⟩ := h.piece
  unfold Ytmnklaphcjchiaa.loaded
  rw [h1, if_pos (by omega), Int.toNat_natCast, if_pos h4, h5]
  simp only [h6]

/-- A piece stays where it is. -/
theorem piece_keeps {p q : Pool} (wf : p.WF) {h : Hnd} {s a m : Nat} (hp : p.piece h = .ok (s, a, m)) (hz : q.size = p.size) (ht : (q.lands h.region.toNat).there = true) (hg : (q.lands h.region.toNat).gen = (p.lands h.region.toNat).gen)
    (hs : ∃ l, (q.lands h.region.toNat).slabs = (p.lands h.region.toNat).slabs ++ l) (hf : (p.lands h.region.toNat).fill ≤ (q.lands h.region.toNat).fill) : q.piece h = .ok (s, a, m) := by
  obtain ⟨k1, k2, k3, k4, -, -, k5, k6, -, -, ⟨k7, k8, k9, k10⟩, k11⟩ := Pool.piece_ok wf hp
  obtain ⟨l, hl⟩ := hs
  unfold Pool.piece
  rw [hz, if_pos ⟨⟨k1.1, k1.2.1, ht⟩, hg.trans k2⟩, if_pos ⟨k7, k8, by omega, by omega⟩, if_pos k11, hl]
  have : ((p.lands h.region.toNat).slabs ++ l).getD (h.off / p.size).toNat 0 = s := by
    rw [k4]
    simp [List.getD, List.getElem?_append_left k3]
  rw [this, k5, k6]

theorem read_keeps {p q : Pool} {s a m : Nat} (h : ∀ j, j < m → q.bytes s (a + j) = p.bytes s (a + j)) : q.read s a m = p.read s a m := by
  unfold Pool.read
  exact List.map_congr_left (fun j hj => h j (List.mem_range.1 hj))

theorem getD_inj {l : List Nat} (hd : l.Nodup) {i j : Nat} (hi : i < l.length) (hj : j < l.length) (h : l.getD i 0 = l.getD j 0) : i = j := by
  simp only [List.getD, List.getElem?_eq_getElem hi, List.getElem?_eq_getElem hj, Option.getD_some] at h
  exact nodup_place hd (List.getElem?_eq_getElem hi) (by rw [List.getElem?_eq_getElem hj, h])

/-- What Alloc leaves of the pieces that are there. -/
theorem allocIn_facts {p q : Pool} (h : p.WF) {i n : Nat} {hd : Hnd} (hi : i < 256) (hr : (p.lands i).there = true) (hn : 1 ≤ n) (hnz : n ≤ p.size) (ha : p.allocIn i n = some (hd, q)) :
    q.size = p.size ∧ q.n = p.n ∧ (∀ j, j ≠ i → q.lands j = p.lands j) ∧ (q.lands i).there = true ∧ (q.lands i).gen = (p.lands i).gen ∧ (∃ l, (q.lands i).slabs = (p.lands i).slabs ++ l) ∧ (p.lands i).fill ≤ (q.lands i).fill ∧
    ∃ s at_, q.piece hd = .ok (s, at_, n) ∧ ∀ m s' a' n', p.piece m = .ok (s', a', n') → (∀ j, j < n' → q.bytes s' (a' + j) = p.bytes s' (a' + j)) ∧ (s' = s → a' + n' ≤ at_) := by
  unfold Pool.allocIn at ha
  by_cases hc : (p.lands i).slabs.length = 0 ∨ p.size < p.inLast i + n
  · rw [if_pos hc] at ha
    cases hs : p.idleSlab with
    | none => simp [hs] at ha
    | some s =>
      simp only [hs, Option.some.injEq, Prod.mk.injEq] at ha
      obtain ⟨rfl, rfl⟩ := ha
      obtain ⟨hs1, hs2, -⟩ := Pool.idleSlab_some hs
      have h' := h.grow hi hr hs
      have e : ((p.grow i s).lands i).slabs = (p.lands i).slabs ++ [s] := by simp [Pool.grow, Pool.setLand]
      have hr' : ((p.grow i s).lands i).there = true := by simp [Pool.grow, Pool.setLand, hr]
      have hl : ((p.grow i s).lands i).slabs.length ≠ 0 := by rw [e]; simp
      have hz' : (p.grow i s).size = p.size := rfl
      have hpc := Pool.take_piece h' hi hr' hl hn (by rw [hz']; omega : 0 + n ≤ (p.grow i s).size)
      have hf := h.fill i hi
      refine ⟨rfl, rfl, fun j hj => ?_, ?_, ?_, ⟨[s], ?_⟩, ?_, _, _, hpc, ?_⟩
      · simp [Pool.take, Pool.grow, Pool.setLand, hj, Pool.write, Pool.setTaken]
      · simp [Pool.take, Pool.grow, Pool.setLand, hr]
      · simp [Pool.take, Pool.grow, Pool.setLand]
      · simp [Pool.take, Pool.grow, Pool.setLand]
      · rw [show ((p.grow i s).take i n 0).lands i = _ from setLand_same _ _ _]
        show (p.lands i).fill ≤ (((p.grow i s).lands i).slabs.length - 1) * p.size + 0 + n
        rw [e, List.length_append, List.length_singleton, Nat.add_sub_cancel]
        omega
      · intro m s' a' n' hm
        obtain ⟨k1, -, -, -, k5, -, -, -, k9, -, -, -⟩ := Pool.piece_ok h hm
        have hmi : m.region.toNat < 256 := by have := k1.1; have := k1.2.1; omega
        have htk := (h.slab _ hmi s' k5).2
        have hne : s' ≠ s := by rintro rfl; rw [hs2] at htk; cases htk
        refine ⟨fun j hj => ?_, fun hss => ?_⟩
        · simp [Pool.take, Pool.grow, Pool.setLand, Pool.write, Pool.setTaken, hne]
        · rw [e] at hss
          simp at hss
          exact absurd hss hne
  · rw [if_neg hc] at ha
    simp only [Option.some.injEq, Prod.mk.injEq] at ha
    obtain ⟨rfl, rfl⟩ := ha
    have hl : (p.lands i).slabs.length ≠ 0 := by omega
    have hpc := Pool.take_piece h hi hr hl hn (by omega : p.inLast i + n ≤ p.size)
    have hf := h.fill i hi
    have m2 : ((p.lands i).slabs.length - 1) * p.size + p.size = (p.lands i).slabs.length * p.size := by rw [← Nat.succ_mul, Nat.succ_eq_add_one, Nat.sub_add_cancel (by omega)]
    have hin : ((p.lands i).slabs.length - 1) * p.size + p.inLast i = (p.lands i).fill := by unfold Pool.inLast; omega
    refine ⟨rfl, rfl, fun j hj => ?_, ?_, ?_, ⟨[], ?_⟩, ?_, _, _, hpc, ?_⟩
    · simp [Pool.take, Pool.setLand, hj]
    · simp [Pool.take, Pool.setLand, hr]
    · simp [Pool.take, Pool.setLand]
    · simp [Pool.take, Pool.setLand]
    · simp [Pool.take, Pool.setLand]
      omega
    · intro m s' a' n' hm
      obtain ⟨k1, -, k3, k4, k5, -, k6, k7, k9, -, ⟨k10, k11, k12, k13⟩, k14⟩ := Pool.piece_ok h hm
      have hmi : m.region.toNat < 256 := by have := k1.1; have := k1.2.1; omega
      refine ⟨fun j hj => rfl, fun hss => ?_⟩
      have hlast : (p.lands i).slabs.getD ((p.lands i).slabs.length - 1) 0 ∈ (p.lands i).slabs := getD_lt (by omega)
      by_cases hri : m.region.toNat = i
      · rw [hri] at k3 k4 k12 k13
        have hidx := getD_inj (h.nodup i hi) k3 (by omega : (p.lands i).slabs.length - 1 < (p.lands i).slabs.length) (by rw [← k4, hss])
        have hz0 := h.size0
        obtain ⟨o, ho⟩ : ∃ o : Nat, m.off = (o : Int) := ⟨m.off.toNat, by omega⟩
        rw [ho] at hidx k6 k12 k13
        have d1 : ((o : Int) / (p.size : Int)).toNat = o / p.size := by rw [← Int.natCast_ediv, Int.toNat_natCast]
        have d2 : ((o : Int) % (p.size : Int)).toNat = o % p.size := by rw [← Int.natCast_emod, Int.toNat_natCast]
        rw [d1] at hidx
        rw [d2] at k6
        have d3 := Nat.div_add_mod o p.size
        rw [hidx, Nat.mul_comm] at d3
        omega
      · exact absurd hlast (h.apart _ hmi i hi hri _ (hss ▸ k5))

theorem read_write (p : Pool) (s a : Nat) (xs : List Int) : (p.write s a xs).read s a xs.length = xs := by
  unfold Pool.read Pool.write
  refine List.ext_getElem (by simp) (fun j h1 h2 => ?_)
  simp at h1
  simp [List.getD, List.getElem?_eq_getElem h2, h1]

theorem retired_facts {p : Pool} {e : Eps} {B : Nat} (h : EpInv p e B) (hn : e.now < 4611686018427387904) {xs : List Int} (hx0 : 1 ≤ xs.length) (hx1 : xs.length ≤ p.size) {n : Note} {q : Pool} {e' : Eps} (hr : retired p e xs = some (n, q, e')) :
    EpInv q e' (B + xs.length) ∧ Held q e' n xs ∧ (∀ m ys, Held p e m ys → Held q e' m ys) ∧ n.epoch = e.now ∧ e'.lo = e.lo ∧ e'.now = e.now ∧ e'.pins = e.pins ∧ e'.last = e.last ∧ q.size = p.size ∧ q.n = p.n := by
  have hreg := h.wf.reg e.now h.le (Nat.le_refl _)
  unfold retired at hr
  cases ha : p.allocIn (e.era e.now).region xs.length with
  | none => simp [ha] at hr
  | some z =>
    obtain ⟨hd, q0⟩ := z
    obtain ⟨f1, f2, f3, f4, f5, f6, f7, s, at_, f8, f9⟩ := allocIn_facts h.wf.pool hreg.1 hreg.2 hx0 hx1 ha
    obtain ⟨-, hr1, hr2, hr3, hr4, hr5⟩ := Pool.allocIn_piece h.wf.pool hreg.1 hreg.2 hx0 hx1 ha
    have wq := h.wf.pool.allocIn hreg.1 hreg.2 hx1 ha
    simp only [ha, f8, Option.some.injEq, Prod.mk.injEq] at hr
    obtain ⟨rfl, rfl, rfl⟩ := hr
    have hreg' : ∀ k, ((e.setEra e.now { e.era e.now with notes := addNote (e.era e.now).notes ⟨e.now, hd⟩, bytes := (e.era e.now).bytes + xs.length }).era k).region = (e.era k).region := fun k => by
      simp only [Eps.setEra]
      by_cases hk : k = e.now
      · rw [if_pos hk, hk]
      · rw [if_neg hk]
    have hthere : ∀ j, ((q0.write s at_ xs).lands j).there = (p.lands j).there := fun j => by
      show (q0.lands j).there = _
      by_cases hj : j = (e.era e.now).region
      · rw [hj, f4, hreg.2]
      · rw [f3 j hj]
    have hwf : EpWF (q0.write s at_ xs) (e.setEra e.now { e.era e.now with notes := addNote (e.era e.now).notes ⟨e.now, hd⟩, bytes := (e.era e.now).bytes + xs.length }) :=
      { pool := wq.write s at_ xs, lo1 := h.wf.lo1, lon := h.wf.lon, pins := h.wf.pins, pnodup := h.wf.pnodup
        reg := fun k h1 h2 => by rw [hreg', hthere]; exact h.wf.reg k h1 h2
        apart := fun k h1 h2 j h3 h4 hkj => by rw [hreg', hreg']; exact h.wf.apart k h1 h2 j h3 h4 hkj }
    have hz1 := h.wf.pool.size1
    have hmem : ∀ m, m ∈ (e.era e.now).notes → m ∈ addNote (e.era e.now).notes ⟨e.now, hd⟩ := fun m hm => by
      unfold addNote
      split
      · exact hm
      · exact List.mem_append_left _ hm
    refine ⟨⟨hwf, h.le, ?_, ?_⟩, ⟨?_, ⟨e.now, rfl, h.le, Nat.le_refl _, ?_, ?_⟩, s, at_, xs.length, f8, read_write q0 s at_ xs⟩, ?_, rfl, rfl, rfl, rfl, rfl, f1, f2⟩
    · intro i hi ht
      rw [hthere] at ht
      obtain ⟨k, h1, h2, h3⟩ := h.own i hi ht
      exact ⟨k, h1, h2, (hreg' k).trans h3⟩
    · intro k h1 h2
      have hb := h.bytes k h1 h2
      simp only [Eps.setEra]
      by_cases hk : k = e.now
      · rw [if_pos hk]
        subst hk
        show (e.era e.now).bytes + xs.length ≤ _
        omega
      · rw [if_neg hk]; omega
    · exact ⟨int_wf (x := (e.now : Int)) (by omega) (by omega), int_wf (x := hd.region) (by omega) (by omega), by show (Lit.int .i64 hd.gen).wf = true; rw [hr2]; exact h.wf.pool.gens _ hreg.1, int_wf (x := hd.off) (by omega) (by omega), int_wf (x := hd.len) (by omega) (by omega)⟩
    · simp only [Eps.setEra, if_true]
      unfold addNote
      split
      · assumption
      · exact List.mem_append_right _ (List.mem_singleton.2 rfl)
    · rw [hreg']; exact hr1
    · intro m ys hm
      obtain ⟨k, g1, g2, g3, g4, g5⟩ := hm.live
      obtain ⟨s', a', m', g6, g7⟩ := hm.piece
      refine ⟨hm.wf, ⟨k, g1, g2, g3, ?_, by rw [hreg']; exact g5⟩, s', a', m', ?_, ?_⟩
      · simp only [Eps.setEra]
        by_cases hk : k = e.now
        · rw [if_pos hk]; subst hk; exact hmem m g4
        · rw [if_neg hk]; exact g4
      · have : q0.piece m.at_ = .ok (s', a', m') := by
          by_cases hj : m.at_.region.toNat = (e.era e.now).region
          · exact piece_keeps h.wf.pool g6 f1 (by rw [hj]; exact f4) (by rw [hj]; exact f5) (by rw [hj]; exact f6) (by rw [hj]; exact f7)
          · have hk1 := (Pool.piece_ok h.wf.pool g6).1
            exact piece_keeps h.wf.pool g6 f1 (by rw [f3 _ hj]; exact hk1.2.2) (by rw [f3 _ hj]) ⟨[], by rw [f3 _ hj]; simp⟩ (by rw [f3 _ hj]; exact Nat.le_refl _)
        exact this
      · rw [← g7]
        obtain ⟨g8, g9⟩ := f9 m.at_ s' a' m' g6
        refine read_keeps (fun j hj => ?_)
        rw [← g8 j hj]
        unfold Pool.write
        by_cases hs : s' = s
        · simp only [if_pos hs]
          rw [if_neg (by have := g9 hs; omega)]
        · simp only [if_neg hs]

theorem advanced_facts {p : Pool} {e : Eps} {B : Nat} (h : EpInv p e B) {q : Pool} {e' : Eps} (ha : advanced p e = some (q, e')) :
    EpInv q e' B ∧ (∀ m ys, Held p e m ys → Held q e' m ys) ∧ e'.lo = e.lo ∧ e'.now = e.now + 1 ∧ e'.pins = e.pins ∧ e'.last = e.last ∧ q.size = p.size ∧ q.n = p.n ∧ (q.lands (e'.era e'.now).region).slabs = [] ∧ (e'.era e'.now).bytes = 0 ∧ q.taken = p.taken := by
  unfold advanced at ha
  cases hm : p.make with
  | none => simp [hm] at ha
  | some z =>
    obtain ⟨r, q'⟩ := z
    simp only [hm, Option.some.injEq, Prod.mk.injEq] at ha
    obtain ⟨rfl, rfl⟩ := ha
    have hwq := h.wf.pool.make hm
    obtain ⟨m1, m2, rfl, -⟩ := Pool.make_some hm
    have er : ∀ k, k ≤ e.now → ((e.advance r).era k) = e.era k := fun k hk => by simp only [Eps.advance]; rw [if_neg (by omega)]
    have en : (e.advance r).era (e.now + 1) = { region := r, notes := [], bytes := 0 } := by simp only [Eps.advance, if_true]
    have nr : ∀ k, e.lo ≤ k → k ≤ e.now → (e.era k).region ≠ r := fun k h1 h2 hk => by
      have := (h.wf.reg k h1 h2).2
      rw [hk, m2] at this; cases this
    refine ⟨⟨⟨hwq, h.wf.lo1, ?_, ?_, ?_, ?_, h.wf.pnodup⟩, ?_, ?_, ?_⟩, ?_, rfl, rfl, rfl, rfl, rfl, rfl, ?_, ?_, rfl⟩
    · show e.lo ≤ e.now + 1 + 1; have := h.wf.lon; omega
    · intro k h1 h2
      have h2' : k ≤ e.now + 1 := h2
      by_cases hk : k = e.now + 1
      · subst hk; rw [en]; exact ⟨m1, by rw [setLand_same]⟩
      · rw [er k (by omega), setLand_ne _ _ (nr k h1 (by omega))]; exact h.wf.reg k h1 (by omega)
    · intro k h1 h2 j h3 h4 hkj
      have h2' : k ≤ e.now + 1 := h2
      have h4' : j ≤ e.now + 1 := h4
      have h1' : e.lo ≤ k := h1
      have h3' : e.lo ≤ j := h3
      by_cases hk : k = e.now + 1
      · subst hk; rw [en, er j (by omega)]; exact (nr j h3 (by omega)).symm
      · by_cases hj : j = e.now + 1
        · subst hj; rw [en, er k (by omega)]; exact nr k h1 (by omega)
        · rw [er k (by omega), er j (by omega)]; exact h.wf.apart k h1 (by omega) j h3 (by omega) hkj
    · intro x hx; have := h.wf.pins x hx; exact ⟨this.1, by show x.2 ≤ e.now + 1; omega⟩
    · show e.lo ≤ e.now + 1; have := h.le; omega
    · intro i hi ht
      by_cases hir : i = r
      · exact ⟨e.now + 1, by show e.lo ≤ e.now + 1; have := h.le; omega, Nat.le_refl _, by rw [en]; exact hir.symm⟩
      · rw [setLand_ne _ _ hir] at ht
        obtain ⟨k, h1, h2, h3⟩ := h.own i hi ht
        exact ⟨k, h1, by show k ≤ e.now + 1; omega, by rw [er k h2]; exact h3⟩
    · intro k h1 h2
      have h2' : k ≤ e.now + 1 := h2
      by_cases hk : k = e.now + 1
      · subst hk; rw [en]; exact Nat.zero_le _
      · rw [er k (by omega)]; exact h.bytes k h1 (by omega)
    · intro m ys hm'
      obtain ⟨k, g1, g2, g3, g4, g5⟩ := hm'.live
      obtain ⟨s', a', m', g6, g7⟩ := hm'.piece
      have hk1 := (Pool.piece_ok h.wf.pool g6).1
      have hne : m.at_.region.toNat ≠ r := fun hh => by have := hk1.2.2; rw [hh, m2] at this; cases this
      exact ⟨hm'.wf, ⟨k, g1, g2, by show k ≤ e.now + 1; omega, by rw [er k g3]; exact g4, by rw [er k g3]; exact g5⟩, s', a', m', piece_keeps h.wf.pool g6 rfl (by rw [setLand_ne _ _ hne]; exact hk1.2.2) (by rw [setLand_ne _ _ hne]) ⟨[], by rw [setLand_ne _ _ hne]; simp⟩ (by rw [setLand_ne _ _ hne]; exact Nat.le_refl _), g7⟩
    · show ((p.setLand r _).lands ((e.advance r).era (e.now + 1)).region).slabs = []
      rw [en, setLand_same]
    · show ((e.advance r).era (e.now + 1)).bytes = 0
      rw [en]

theorem collect1_facts {p : Pool} {e : Eps} {B : Nat} (h : EpInv p e B) (hl : e.lo < e.now) :
    EpInv (collect1 (p, e)).1 (collect1 (p, e)).2 B ∧ (∀ m ys, Held p e m ys → (e.lo : Int) < m.epoch → Held (collect1 (p, e)).1 (collect1 (p, e)).2 m ys) ∧
      ((collect1 (p, e)).1.lands (e.era e.now).region) = p.lands (e.era e.now).region ∧ (collect1 (p, e)).1.size = p.size ∧ (collect1 (p, e)).1.n = p.n := by
  have hlo := h.wf.reg e.lo (Nat.le_refl _) h.le
  refine ⟨⟨h.wf.collect1 h.le, by show e.lo + 1 ≤ e.now; omega, ?_, ?_⟩, ?_, ?_, (free_size p _).1, (free_size p _).2⟩
  · intro i hi ht
    have hir : i ≠ (e.era e.lo).region := fun hh => by
      subst hh
      change ((p.free _).lands _).there = true at ht
      rw [free_land_same] at ht
      cases ht
    change ((p.free _).lands _).there = true at ht
    rw [free_land_ne p hir] at ht
    obtain ⟨k, h1, h2, h3⟩ := h.own i hi ht
    have hk : k ≠ e.lo := fun hh => by subst hh; exact hir h3.symm
    exact ⟨k, by show e.lo + 1 ≤ k; omega, h2, h3⟩
  · intro k h1 h2
    have h1' : e.lo + 1 ≤ k := h1
    exact h.bytes k (by omega) h2
  · intro m ys hm hlt
    obtain ⟨k, g1, g2, g3, g4, g5⟩ := hm.live
    obtain ⟨s', a', m', g6, g7⟩ := hm.piece
    obtain ⟨hk1, -, -, -, hk5, -⟩ := Pool.piece_ok h.wf.pool g6
    have hmi : m.at_.region.toNat < 256 := by have := hk1.1; have := hk1.2.1; omega
    have hne : m.at_.region.toNat ≠ (e.era e.lo).region := by
      rw [g5, Int.toNat_natCast]
      exact h.wf.apart k g2 g3 e.lo (Nat.le_refl _) h.le (by omega)
    have hns : ¬ s' ∈ (p.lands (e.era e.lo).region).slabs := fun hh => h.wf.pool.apart _ hmi _ hlo.1 hne s' hk5 hh
    refine ⟨hm.wf, ⟨k, g1, by show e.lo + 1 ≤ k; omega, g3, g4, g5⟩, s', a', m', ?_, ?_⟩
    · show (p.free _).piece _ = _
      exact piece_keeps h.wf.pool g6 (free_size p _).1 (by rw [free_land_ne p hne]; exact hk1.2.2) (by rw [free_land_ne p hne]) ⟨[], by rw [free_land_ne p hne]; simp⟩ (by rw [free_land_ne p hne]; exact Nat.le_refl _)
    · rw [← g7]
      refine read_keeps (fun j _ => ?_)
      show (p.free _).bytes s' _ = _
      rw [show (p.free (e.era e.lo).region).bytes s' = p.bytes s' from wipe_bytes _ p s' hns]
  · show (p.free _).lands _ = _
    exact free_land_ne p (h.wf.apart e.now h.le (Nat.le_refl _) e.lo (Nat.le_refl _) h.le (by omega))

theorem collectN_facts {p : Pool} {e : Eps} {B : Nat} (h : EpInv p e B) : ∀ n, e.lo + n ≤ e.now →
    EpInv (collectN n (p, e)).1 (collectN n (p, e)).2 B ∧ (∀ m ys, Held p e m ys → ((e.lo + n : Nat) : Int) ≤ m.epoch → Held (collectN n (p, e)).1 (collectN n (p, e)).2 m ys) ∧
      ((collectN n (p, e)).1.lands (e.era e.now).region) = p.lands (e.era e.now).region ∧ (collectN n (p, e)).1.size = p.size ∧ (collectN n (p, e)).1.n = p.n
  | 0, _ => ⟨h, fun _ _ hm _ => hm, rfl, rfl, rfl⟩
  | n + 1, hn => by
    obtain ⟨h1, h2, h3, h4, h5⟩ := collectN_facts h n (by omega)
    have he := collectN_eps n p e
    obtain ⟨g1, g2, g3, g4, g5⟩ := collect1_facts h1 (by rw [he]; show e.lo + n < e.now; omega)
    refine ⟨g1, fun m ys hm hk => ?_, ?_, g4.trans h4, g5.trans h5⟩
    · refine g2 m ys (h2 m ys hm (by omega)) ?_
      rw [he]
      show ((e.lo + n : Nat) : Int) < m.epoch
      omega
    · rw [he] at g3
      have e2 : collectN n (p, e) = ((collectN n (p, e)).1, { e with lo := e.lo + n }) := Prod.ext rfl he
      show (collect1 (collectN n (p, e))).1.lands _ = _
      rw [e2]
      exact g3.trans h3

theorem nodup_sub : ∀ (l m : List Nat), l.Nodup → (∀ x ∈ l, x ∈ m) → l.length ≤ m.length
  | [], m, _, _ => Nat.zero_le _
  | a :: l, m, hd, h => by
    obtain ⟨h1, h2⟩ := List.nodup_cons.1 hd
    have ha := h a (by simp)
    have := nodup_sub l (m.erase a) h2 (fun x hx => by
      have hne : x ≠ a := fun e => h1 (e ▸ hx)
      exact (List.mem_erase_of_ne hne).2 (h x (List.mem_cons_of_mem _ hx)))
    have h3 := List.length_erase_of_mem ha
    have h4 : 0 < m.length := List.length_pos_of_mem ha
    simp only [List.length_cons]
    omega

theorem advance_there {p : Pool} {e : Eps} {B : Nat} (h : EpInv p e B) (hc : e.cnt < 256) : ∃ q e', advanced p e = some (q, e') := by
  unfold advanced
  cases hm : p.make with
  | some z => exact ⟨_, _, rfl⟩
  | none =>
    exfalso
    have hall := Pool.make_none hm
    have := nodup_sub (List.range 256) ((List.range' e.lo e.cnt).map fun k => (e.era k).region) List.nodup_range (fun x hx => by
      obtain ⟨k, h1, h2, h3⟩ := h.own x (List.mem_range.1 hx) (hall x (List.mem_range.1 hx))
      exact List.mem_map.2 ⟨k, List.mem_range'_1.2 ⟨h1, by simp only [Eps.cnt]; omega⟩, h3⟩)
    simp at this
    omega

theorem advance_none {p : Pool} {e : Eps} {B : Nat} (h : EpInv p e B) (hc : e.cnt = 256) : advanced p e = none := by
  cases ha : advanced p e with
  | none => rfl
  | some z =>
    obtain ⟨q, e'⟩ := z
    obtain ⟨h1, -, h3, h4, -⟩ := advanced_facts h ha
    have := h1.wf.cnt
    have hle := h.le
    simp only [Eps.cnt, h3, h4] at this hc
    omega

theorem retire_there {p : Pool} {e : Eps} {B : Nat} (h : EpInv p e B) {xs : List Int} (hx0 : 1 ≤ xs.length) (hx1 : xs.length ≤ p.size) {s : Nat} (hs : p.idleSlab = some s) : ∃ n q e', retired p e xs = some (n, q, e') := by
  have hreg := h.wf.reg e.now h.le (Nat.le_refl _)
  have : ∃ z, p.allocIn (e.era e.now).region xs.length = some z := by
    unfold Pool.allocIn
    split
    · rw [hs]; exact ⟨_, rfl⟩
    · exact ⟨_, rfl⟩
  obtain ⟨⟨hd, q⟩, ha⟩ := this
  obtain ⟨⟨s, a, hpc⟩, -⟩ := Pool.allocIn_piece h.wf.pool hreg.1 hreg.2 hx0 hx1 ha
  unfold retired
  rw [ha]
  simp only [hpc]
  exact ⟨_, _, _, rfl⟩

/-- One empty epoch is left: all slabs are idle. -/
theorem idle_all {p : Pool} {e : Eps} {B : Nat} (h : EpInv p e B) (hlo : e.lo = e.now) (hs : (p.lands (e.era e.now).region).slabs = []) : p.idle = p.n := by
  unfold Pool.idle
  rw [List.filter_eq_self.2]
  · simp
  · intro s hs'
    have hsn := List.mem_range.1 hs'
    cases ht : p.taken s with
    | false => rfl
    | true =>
      exfalso
      obtain ⟨i, hi, hm⟩ := h.wf.pool.used s hsn ht
      cases hti : (p.lands i).there with
      | false => rw [(h.wf.pool.gone i hi hti).1] at hm; cases hm
      | true =>
        obtain ⟨k, h1, h2, h3⟩ := h.own i hi hti
        have hk : k = e.now := by omega
        rw [← h3, hk, hs] at hm
        cases hm

theorem kept_one {e : Eps} (hlo : e.lo = e.now) : e.kept = (e.era e.now).bytes := by
  unfold Eps.kept Eps.cnt
  rw [hlo, show e.now + 1 - e.now = 1 by omega]
  simp [sumBytes]

end Go.Proofs.Ytmnklaphcjchiaa
