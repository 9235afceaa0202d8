/-
  Walks of epoch: Collect, Close.
-/
import Derived.Test.YtmnklaphcjchiaaEpW6
import Derived.Test.YtmnklaphcjchiaaPoolP
namespace Go.Proofs.Ytmnklaphcjchiaa
open Go.RowKit
open Go.Maps (Keyed int_keyed keyOf_int_mk)

structure EpWF (p : Pool) (e : Eps) : Prop where
  pool : p.WF
  lo1 : 1 ≤ e.lo
  lon : e.lo ≤ e.now + 1
  reg : ∀ k, e.lo ≤ k → k ≤ e.now → (e.era k).region < 256 ∧ (p.lands (e.era k).region).there = true
  apart : ∀ k, e.lo ≤ k → k ≤ e.now → ∀ j, e.lo ≤ j → j ≤ e.now → k ≠ j → (e.era k).region ≠ (e.era j).region
  pins : ∀ x ∈ e.pins, x.1 ≤ e.last ∧ x.2 ≤ e.now
  pnodup : (e.pins.map (·.1)).Nodup

theorem EpWF.cnt {p : Pool} {e : Eps} (h : EpWF p e) : e.cnt ≤ 256 := by
  have h1 := nodup_bound 256 ((List.range' e.lo e.cnt).map fun k => (e.era k).region) (by
    rw [List.nodup_iff_pairwise_ne, List.pairwise_map]
    refine (List.pairwise_lt_range' (s := e.lo) (n := e.cnt)).imp_of_mem (fun {a b} ha hb hab => ?_)
    have h2 := List.mem_range'_1.1 ha
    have h3 := List.mem_range'_1.1 hb
    simp only [Eps.cnt] at h2 h3
    exact h.apart a (by omega) (by omega) b (by omega) (by omega) (by omega)) (fun x hx => by
    obtain ⟨k, hk, rfl⟩ := List.mem_map.1 hx
    have h2 := List.mem_range'_1.1 hk
    simp only [Eps.cnt] at h2
    exact (h.reg k (by omega) (by omega)).1)
  simpa using h1

/-- The first epoch is freed. -/
def collect1 (x : Pool × Eps) : Pool × Eps := (x.1.free (x.2.era x.2.lo).region, { x.2 with lo := x.2.lo + 1 })

def collectN (n : Nat) (x : Pool × Eps) : Pool × Eps := match n with
  | 0 => x
  | n + 1 => collect1 (collectN n x)

theorem collectN_eps (n : Nat) (p : Pool) (e : Eps) : (collectN n (p, e)).2 = { e with lo := e.lo + n } := by
  induction n with
  | zero => rfl
  | succ n ih => simp only [collectN, collect1, ih]; simp; omega

theorem EpWF.collect1 {p : Pool} {e : Eps} (h : EpWF p e) (hl : e.lo ≤ e.now) : EpWF (collect1 (p, e)).1 (collect1 (p, e)).2 where
  pool := h.pool.free (h.reg e.lo (Nat.le_refl _) hl).1
  lo1 := by show 1 ≤ e.lo + 1; omega
  lon := by show e.lo + 1 ≤ e.now + 1; omega
  reg := fun k h1 h2 => by
    have h1' : e.lo + 1 ≤ k := h1
    have h3 := h.reg k (by omega) h2
    refine ⟨h3.1, ?_⟩
    show ((p.free (e.era e.lo).region).lands (e.era k).region).there = true
    rw [free_land_ne p (h.apart k (by omega) h2 e.lo (Nat.le_refl _) hl (by omega))]
    exact h3.2
  apart := fun k h1 h2 j h3 h4 => h.apart k (by have h1' : e.lo + 1 ≤ k := h1; omega) h2 j (by have h1' : e.lo + 1 ≤ j := h3; omega) h4
  pins := h.pins
  pnodup := h.pnodup

theorem EpWF.collectN {p : Pool} {e : Eps} (h : EpWF p e) : ∀ n, e.lo + n ≤ e.now + 1 → EpWF (collectN n (p, e)).1 (collectN n (p, e)).2
  | 0, _ => h
  | n + 1, hn => by
    have h1 := EpWF.collectN h n (by omega)
    have h2 := EpWF.collect1 h1 (by rw [collectN_eps]; show e.lo + n ≤ e.now; omega)
    exact h2

theorem liveList_cons (lo cnt : Nat) (eb : Nat → Nat) : liveList lo (cnt + 1) eb = (.int .i64 (lo : Int), .pointer (some ⟨eb lo, 0, none⟩)) :: liveList (lo + 1) cnt eb := by
  simp [liveList, List.range'_succ]

/-- The first epoch's entry is gone. -/
theorem EpRep.dropFirst {w w' : World} {T : Tags} {a : Nat} {p : Pool} {e : Eps} {E : EpLay} (h : EpRep w T a p e E) (hg : w.grownBy w' (some E.lm))
    (hm : MapIs w' Try.prog 3 E.lm (liveList (e.lo + 1) (e.cnt - 1) E.eb)) : EpRep w' T a p { e with lo := e.lo + 1 } E := by
  have S : Same (fun k => k = E.lm) w w' := (Same.refl _ w).then_grown hg (fun k hk => Or.inl (Option.some.inj hk).symm)
  have nn : ∀ {k c i}, T k = (c, i) → c ≠ 7 → ¬ k = E.lm := fun h1 h7 h3 => by
    subst h3; rw [h.tagl] at h1; simp at h1; omega
  have lt := S.size
  have hcnt : ({ e with lo := e.lo + 1 } : Eps).cnt = e.cnt - 1 := by simp only [Eps.cnt]; omega
  exact {
    pool := h.pool.same S (fun k hk ho => by
      unfold PoolOwn at ho
      exact nn (Prod.eta (T k)).symm (by omega)) (Ext.refl _ _)
    taga := h.taga, tagl := h.tagl, tagp := h.tagp
    tage := fun k h1 h2 => h.tage k (by have h1' : e.lo + 1 ≤ k := h1; omega) h2
    tagn := fun k h1 h2 => h.tagn k (by have h1' : e.lo + 1 ≤ k := h1; omega) h2
    lta := by have := h.lta; omega
    lte := fun k h1 h2 => by have := h.lte k (by have h1' : e.lo + 1 ≤ k := h1; omega) h2; omega
    fa := h.fa.same S h.lta (nn h.taga (by omega))
    fe := fun k h1 h2 => by
      have h1' : e.lo + 1 ≤ k := h1
      exact (h.fe k (by omega) h2).same S (h.lte k (by omega) h2) (nn (h.tage k (by omega) h2) (by omega))
    c0 := S.cell (nn h.taga (by omega)) h.c0, c1 := S.cell (nn h.taga (by omega)) h.c1, c2 := S.cell (nn h.taga (by omega)) h.c2
    c3 := S.cell (nn h.taga (by omega)) h.c3, c4 := S.cell (nn h.taga (by omega)) h.c4, c5 := S.cell (nn h.taga (by omega)) h.c5
    live := by rw [hcnt]; exact hm
    pins := h.pins.same S (nn h.tagp (by omega))
    e0 := fun k h1 h2 => by have h1' : e.lo + 1 ≤ k := h1; exact S.cell (nn (h.tage k (by omega) h2) (by omega)) (h.e0 k (by omega) h2)
    e1 := fun k h1 h2 => by have h1' : e.lo + 1 ≤ k := h1; exact S.cell (nn (h.tage k (by omega) h2) (by omega)) (h.e1 k (by omega) h2)
    e2 := fun k h1 h2 => by have h1' : e.lo + 1 ≤ k := h1; exact S.cell (nn (h.tage k (by omega) h2) (by omega)) (h.e2 k (by omega) h2)
    notes := fun k h1 h2 => by have h1' : e.lo + 1 ≤ k := h1; exact (h.notes k (by omega) h2).same S (nn (h.tagn k (by omega) h2) (by omega)) }

end Go.Proofs.Ytmnklaphcjchiaa
