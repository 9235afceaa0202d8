/-
  Plain facts on the pool's model: what its calls keep. No program in sight.
-/
import Derived.Test.YtmnklaphcjchiaaPoolM
namespace Go.Proofs.Ytmnklaphcjchiaa
open Go.RowKit

@[simp] theorem setLand_size (p : Pool) (i : Nat) (l : Land) : (p.setLand i l).size = p.size := rfl
@[simp] theorem setLand_n (p : Pool) (i : Nat) (l : Land) : (p.setLand i l).n = p.n := rfl
@[simp] theorem setLand_taken (p : Pool) (i : Nat) (l : Land) : (p.setLand i l).taken = p.taken := rfl
@[simp] theorem setLand_bytes (p : Pool) (i : Nat) (l : Land) : (p.setLand i l).bytes = p.bytes := rfl
@[simp] theorem setLand_same (p : Pool) (i : Nat) (l : Land) : (p.setLand i l).lands i = l := by simp [Pool.setLand]
theorem setLand_ne (p : Pool) {i j : Nat} (l : Land) (h : j ≠ i) : (p.setLand i l).lands j = p.lands j := by simp [Pool.setLand, h]

theorem Pool.WF.new {size n : Nat} (h0 : 64 ≤ size) (h1 : size ≤ 65536) (h2 : 1 ≤ n) (h3 : n ≤ 4096) (h4 : size * n ≤ 4194304) : (Pool.new size n).WF where
  size0 := h0
  size1 := h1
  n0 := h2
  n1 := h3
  all := h4
  slab := fun _ _ s hs => by simp [Pool.new] at hs
  nodup := fun _ _ => by simp [Pool.new]
  apart := fun _ _ _ _ _ s hs => by simp [Pool.new] at hs
  used := fun _ _ ht => by simp [Pool.new] at ht
  fill := fun _ _ => by simp [Pool.new]
  empty := fun _ _ _ => rfl
  gone := fun _ _ _ => ⟨rfl, rfl⟩
  gens := fun _ _ => by show (Lit.int .i64 0).wf = true; decide

theorem Pool.WF.write {p : Pool} (h : p.WF) (s a : Nat) (xs : List Int) : (p.write s a xs).WF :=
  ⟨h.size0, h.size1, h.n0, h.n1, h.all, h.slab, h.nodup, h.apart, h.used, h.fill, h.empty, h.gone, h.gens⟩

/-- Another land for region i, with the same slabs. -/
theorem Pool.WF.setLand {p : Pool} (h : p.WF) {i : Nat} (_hi : i < 256) (l : Land) (hs : l.slabs = (p.lands i).slabs) (hf : l.fill ≤ l.slabs.length * p.size ∧ l.slabs.length * p.size ≤ l.fill + p.size)
    (he : l.slabs = [] → l.fill = 0) (hg : l.there = false → l.slabs = [] ∧ l.fill = 0) (hw : (Lit.int .i64 l.gen).wf = true) : (p.setLand i l).WF := by
  have hsl : ∀ j, ((p.setLand i l).lands j).slabs = (p.lands j).slabs := fun j => by
    by_cases e : j = i
    · subst e; rw [setLand_same, hs]
    · rw [setLand_ne _ _ e]
  exact {
    size0 := h.size0, size1 := h.size1, n0 := h.n0, n1 := h.n1, all := h.all
    slab := fun j hj s hs' => h.slab j hj s (by rw [hsl] at hs'; exact hs')
    nodup := fun j hj => by rw [hsl]; exact h.nodup j hj
    apart := fun j hj k hk hjk s hs' => by rw [hsl] at hs' ⊢; exact h.apart j hj k hk hjk s hs'
    used := fun s hs' ht => by
      obtain ⟨j, hj, hm⟩ := h.used s hs' ht
      exact ⟨j, hj, by rw [hsl]; exact hm⟩
    fill := fun j hj => by
      by_cases e : j = i
      · subst e; rw [setLand_same]; exact hf
      · rw [setLand_ne _ _ e]; exact h.fill j hj
    empty := fun j hj => by
      by_cases e : j = i
      · subst e; rw [setLand_same]; exact he
      · rw [setLand_ne _ _ e]; exact h.empty j hj
    gone := fun j hj => by
      by_cases e : j = i
      · subst e; rw [setLand_same]; exact hg
      · rw [setLand_ne _ _ e]; exact h.gone j hj
    gens := fun j hj => by
      by_cases e : j = i
      · subst e; rw [setLand_same]; exact hw
      · rw [setLand_ne _ _ e]; exact h.gens j hj }

theorem Pool.make_some {p q : Pool} {i : Nat} (h : p.make = some (i, q)) : i < 256 ∧ (p.lands i).there = false ∧ q = p.setLand i { there := true, gen := wrap64 ((p.lands i).gen + 1), slabs := [], fill := 0 } ∧ ∀ j, j < i → (p.lands j).there = true := by
  unfold Pool.make at h
  cases hm : p.idleLand with
  | none => simp [hm] at h
  | some k =>
    simp only [hm, Option.some.injEq, Prod.mk.injEq] at h
    obtain ⟨rfl, rfl⟩ := h
    obtain ⟨h1, h2, h3⟩ := Pool.idleLand_some hm
    exact ⟨h1, h2, rfl, h3⟩

theorem Pool.make_none {p : Pool} (h : p.make = none) : ∀ j, j < 256 → (p.lands j).there = true := by
  unfold Pool.make at h
  cases hm : p.idleLand with
  | none => exact Pool.idleLand_none hm
  | some k => simp [hm] at h

theorem Pool.WF.make {p q : Pool} (h : p.WF) {i : Nat} (hm : p.make = some (i, q)) : q.WF := by
  obtain ⟨h1, h2, rfl, _⟩ := Pool.make_some hm
  obtain ⟨h3, h4⟩ := h.gone i h1 h2
  exact h.setLand h1 _ h3.symm (by simp) (fun _ => rfl) (fun h => by cases h) (RowKit.wrap64_wf _)

theorem Pool.WF.grow {p : Pool} (h : p.WF) {i : Nat} (hi : i < 256) (hr : (p.lands i).there = true) {s : Nat} (hs : p.idleSlab = some s) : (p.grow i s).WF := by
  obtain ⟨h1, h2, _⟩ := Pool.idleSlab_some hs
  have hsl : ∀ j, ((p.grow i s).lands j).slabs = if j = i then (p.lands i).slabs ++ [s] else (p.lands j).slabs := fun j => by
    by_cases e : j = i
    · subst e; simp [Pool.grow, Pool.setLand]
    · simp [Pool.grow, Pool.setLand, Pool.write, Pool.setTaken, e]
  have hfree : ∀ j, j < 256 → ¬ s ∈ (p.lands j).slabs := fun j hj hm => by
    have := (h.slab j hj s hm).2
    rw [h2] at this; cases this
  have htk : ∀ x, (p.grow i s).taken x = if x = s then true else p.taken x := fun x => rfl
  have hother : ∀ j, j ≠ i → (p.grow i s).lands j = p.lands j := fun j e => by simp [Pool.grow, Pool.setLand, Pool.write, Pool.setTaken, e]
  have hsame : (p.grow i s).lands i = { p.lands i with slabs := (p.lands i).slabs ++ [s], fill := (p.lands i).slabs.length * p.size } := by simp [Pool.grow, Pool.setLand]
  exact {
    size0 := h.size0, size1 := h.size1, n0 := h.n0, n1 := h.n1, all := h.all
    slab := fun j hj x hx => by
      rw [hsl] at hx
      rw [htk]
      by_cases e : j = i
      · rw [if_pos e] at hx
        rcases List.mem_append.1 hx with hx | hx
        · have := h.slab i hi x hx
          exact ⟨this.1, by by_cases hxs : x = s <;> simp [hxs, this.2]⟩
        · simp only [List.mem_singleton] at hx
          subst hx
          exact ⟨h1, by simp⟩
      · rw [if_neg e] at hx
        have := h.slab j hj x hx
        exact ⟨this.1, by by_cases hxs : x = s <;> simp [hxs, this.2]⟩
    nodup := fun j hj => by
      rw [hsl]
      by_cases e : j = i
      · rw [if_pos e]
        exact List.nodup_append.2 ⟨h.nodup i hi, by simp, fun a ha b hb => by
          simp only [List.mem_singleton] at hb
          subst hb
          rintro rfl
          exact hfree i hi ha⟩
      · rw [if_neg e]; exact h.nodup j hj
    apart := fun j hj k hk hjk x hx hx' => by
      rw [hsl] at hx hx'
      by_cases e : j = i
      · rw [if_pos e] at hx
        rw [if_neg (fun e' => hjk (e.trans e'.symm))] at hx'
        rcases List.mem_append.1 hx with hx | hx
        · subst e; exact h.apart j hj k hk hjk x hx hx'
        · simp only [List.mem_singleton] at hx
          subst hx
          exact hfree k hk hx'
      · rw [if_neg e] at hx
        by_cases e' : k = i
        · rw [if_pos e'] at hx'
          rcases List.mem_append.1 hx' with hx' | hx'
          · subst e'; exact h.apart j hj k hk hjk x hx hx'
          · simp only [List.mem_singleton] at hx'
            subst hx'
            exact hfree j hj hx
        · rw [if_neg e'] at hx'
          exact h.apart j hj k hk hjk x hx hx'
    used := fun x hx ht => by
      rw [htk] at ht
      by_cases hxs : x = s
      · exact ⟨i, hi, by rw [hsl, if_pos rfl, hxs]; simp⟩
      · rw [if_neg hxs] at ht
        obtain ⟨j, hj, hm⟩ := h.used x hx ht
        refine ⟨j, hj, ?_⟩
        rw [hsl]
        by_cases e : j = i
        · rw [if_pos e, ← e]; exact List.mem_append_left _ hm
        · rw [if_neg e]; exact hm
    fill := fun j hj => by
      by_cases e : j = i
      · subst e
        rw [hsame]
        simp only [List.length_append, List.length_singleton]
        rw [Nat.add_mul]
        constructor
        · show (p.lands j).slabs.length * p.size ≤ (p.lands j).slabs.length * p.size + 1 * p.size; omega
        · show (p.lands j).slabs.length * p.size + 1 * p.size ≤ (p.lands j).slabs.length * p.size + p.size; omega
      · rw [hother j e]; exact h.fill j hj
    empty := fun j hj hx => by
      rw [hsl] at hx
      by_cases e : j = i
      · rw [if_pos e] at hx; simp at hx
      · rw [if_neg e] at hx; rw [hother j e]; exact h.empty j hj hx
    gone := fun j hj hx => by
      by_cases e : j = i
      · subst e; rw [hsame] at hx; rw [hr] at hx; cases hx
      · rw [hother j e] at hx ⊢; exact h.gone j hj hx
    gens := fun j hj => by
      by_cases e : j = i
      · subst e; rw [hsame]; exact h.gens j hj
      · rw [hother j e]; exact h.gens j hj }

theorem Pool.WF.take {p : Pool} (h : p.WF) {i : Nat} (hi : i < 256) (hr : (p.lands i).there = true) (n inn : Nat) (hl : (p.lands i).slabs.length ≠ 0) (hn : inn + n ≤ p.size) : (p.take i n inn).WF := by
  have m2 : ((p.lands i).slabs.length - 1) * p.size + p.size = (p.lands i).slabs.length * p.size := by
    rw [← Nat.succ_mul]; congr 1; omega
  refine h.setLand hi _ rfl ?_ (fun e => absurd (by rw [e]; rfl) hl) (fun e => by rw [hr] at e; cases e) (h.gens i hi)
  show ((p.lands i).slabs.length - 1) * p.size + inn + n ≤ (p.lands i).slabs.length * p.size ∧ (p.lands i).slabs.length * p.size ≤ ((p.lands i).slabs.length - 1) * p.size + inn + n + p.size
  omega

theorem Pool.WF.allocIn {p q : Pool} (h : p.WF) {i n : Nat} {hd : Hnd} (hi : i < 256) (hr : (p.lands i).there = true) (hnz : n ≤ p.size) (ha : p.allocIn i n = some (hd, q)) : q.WF := by
  unfold Pool.allocIn at ha
  by_cases hc : (p.lands i).slabs.length = 0 ∨ p.size < p.inLast i + n
  · rw [if_pos hc] at ha
    cases hs : p.idleSlab with
    | none => simp [hs] at ha
    | some s =>
      simp only [hs, Option.some.injEq, Prod.mk.injEq] at ha
      obtain ⟨-, rfl⟩ := ha
      have h' := h.grow hi hr hs
      have e : ((p.grow i s).lands i).slabs = (p.lands i).slabs ++ [s] := by simp [Pool.grow, Pool.setLand]
      exact h'.take hi (by simp [Pool.grow, Pool.setLand, hr]) n 0 (by rw [e]; simp) (by show 0 + n ≤ p.size; omega)
  · rw [if_neg hc] at ha
    simp only [Option.some.injEq, Prod.mk.injEq] at ha
    obtain ⟨-, rfl⟩ := ha
    exact h.take hi hr n _ (by omega) (by omega)

theorem wipe_taken (l : List Nat) : ∀ (p : Pool) (x : Nat), (p.wipe l).taken x = if x ∈ l then false else p.taken x := by
  induction l with
  | nil => intro p x; simp [Pool.wipe]
  | cons s l ih =>
    intro p x
    show ((p.wipe1 s).wipe l).taken x = _
    rw [ih]
    by_cases h1 : x ∈ l
    · simp [h1]
    · by_cases h2 : x = s
      · subst h2; simp [h1, Pool.wipe1, Pool.setTaken]
      · simp [h1, h2, Pool.wipe1, Pool.setTaken, Pool.write]

theorem wipe_bytes (l : List Nat) : ∀ (p : Pool) (x : Nat), ¬ x ∈ l → (p.wipe l).bytes x = p.bytes x := by
  induction l with
  | nil => intro p x _; rfl
  | cons s l ih =>
    intro p x hx
    show ((p.wipe1 s).wipe l).bytes x = _
    rw [ih _ _ (fun h => hx (List.mem_cons_of_mem _ h))]
    have h2 : x ≠ s := fun e => hx (by rw [e]; exact List.mem_cons_self)
    simp [Pool.wipe1, Pool.setTaken, Pool.write, h2]

theorem wipe_rest (l : List Nat) : ∀ p : Pool, (p.wipe l).size = p.size ∧ (p.wipe l).n = p.n ∧ (p.wipe l).lands = p.lands := by
  induction l with
  | nil => intro p; exact ⟨rfl, rfl, rfl⟩
  | cons s r ih => intro p; exact ih (p.wipe1 s)

theorem free_land_same (p : Pool) (i : Nat) : (p.free i).lands i = { there := false, gen := (p.lands i).gen, slabs := [], fill := 0 } := by simp [Pool.free, Pool.setLand]
theorem free_land_ne (p : Pool) {i j : Nat} (h : j ≠ i) : (p.free i).lands j = p.lands j := by
  simp [Pool.free, Pool.setLand, h, (wipe_rest _ p).2.2]
theorem free_size (p : Pool) (i : Nat) : (p.free i).size = p.size ∧ (p.free i).n = p.n := ⟨(wipe_rest _ p).1, (wipe_rest _ p).2.1⟩
theorem free_taken (p : Pool) (i x : Nat) : (p.free i).taken x = if x ∈ (p.lands i).slabs then false else p.taken x := wipe_taken _ p x

theorem Pool.WF.free {p : Pool} (h : p.WF) {i : Nat} (hi : i < 256) : (p.free i).WF := by
  obtain ⟨z1, z2⟩ := free_size p i
  have hsl : ∀ j, ((p.free i).lands j).slabs = if j = i then [] else (p.lands j).slabs := fun j => by
    by_cases e : j = i
    · subst e; rw [free_land_same, if_pos rfl]
    · rw [free_land_ne p e, if_neg e]
  exact {
    size0 := by rw [z1]; exact h.size0
    size1 := by rw [z1]; exact h.size1
    n0 := by rw [z2]; exact h.n0
    n1 := by rw [z2]; exact h.n1
    all := by rw [z1, z2]; exact h.all
    slab := fun j hj s hs => by
      rw [hsl] at hs
      by_cases e : j = i
      · rw [if_pos e] at hs; cases hs
      · rw [if_neg e] at hs
        have := h.slab j hj s hs
        rw [z2, free_taken, if_neg (fun hm => h.apart j hj i hi e s hs hm)]
        exact this
    nodup := fun j hj => by
      rw [hsl]
      by_cases e : j = i
      · rw [if_pos e]; exact List.nodup_nil
      · rw [if_neg e]; exact h.nodup j hj
    apart := fun j hj k hk hjk s hs hs' => by
      rw [hsl] at hs hs'
      by_cases e : j = i
      · rw [if_pos e] at hs; cases hs
      · rw [if_neg e] at hs
        by_cases e' : k = i
        · rw [if_pos e'] at hs'; cases hs'
        · rw [if_neg e'] at hs'
          exact h.apart j hj k hk hjk s hs hs'
    used := fun s hs ht => by
      rw [free_taken] at ht
      by_cases hm : s ∈ (p.lands i).slabs
      · rw [if_pos hm] at ht; cases ht
      · rw [if_neg hm] at ht
        obtain ⟨j, hj, hjm⟩ := h.used s (by rw [z2] at hs; exact hs) ht
        refine ⟨j, hj, ?_⟩
        rw [hsl, if_neg (by rintro rfl; exact hm hjm)]
        exact hjm
    fill := fun j hj => by
      rw [z1]
      by_cases e : j = i
      · subst e; rw [free_land_same]; simp
      · rw [free_land_ne p e]; exact h.fill j hj
    empty := fun j hj hx => by
      by_cases e : j = i
      · subst e; rw [free_land_same]
      · rw [free_land_ne p e] at hx ⊢; exact h.empty j hj hx
    gone := fun j hj hx => by
      by_cases e : j = i
      · subst e; rw [free_land_same]; exact ⟨rfl, rfl⟩
      · rw [free_land_ne p e] at hx ⊢; exact h.gone j hj hx
    gens := fun j hj => by
      by_cases e : j = i
      · subst e; rw [free_land_same]; exact h.gens j hj
      · rw [free_land_ne p e]; exact h.gens j hj }

/-- Where a piece lies that was handed out just now. -/
theorem Pool.take_piece {p : Pool} (h : p.WF) {i n inn : Nat} (hi : i < 256) (hr : (p.lands i).there = true) (hl : (p.lands i).slabs.length ≠ 0) (hn : 1 ≤ n) (hin : inn + n ≤ p.size) :
    (p.take i n inn).piece (p.hand i n inn) = .ok ((p.lands i).slabs.getD ((p.lands i).slabs.length - 1) 0, inn, n) := by
  have hz := h.size0
  have e1 : (p.hand i n inn).off = ((((p.lands i).slabs.length - 1) * p.size + inn : Nat) : Int) := by
    show (((p.lands i).slabs.length - 1 : Nat) : Int) * (p.size : Int) + (inn : Int) = _
    rw [Int.natCast_add, Int.natCast_mul]
  have e2 : (((p.lands i).slabs.length - 1) * p.size + inn) / p.size = (p.lands i).slabs.length - 1 := by
    rw [Nat.mul_comm, Nat.mul_add_div (by omega), Nat.div_eq_of_lt (by omega), Nat.add_zero]
  have e3 : (((p.lands i).slabs.length - 1) * p.size + inn) % p.size = inn := by
    rw [Nat.mul_comm, Nat.mul_add_mod, Nat.mod_eq_of_lt (by omega)]
  have hland : (p.take i n inn).lands i = { p.lands i with fill := ((p.lands i).slabs.length - 1) * p.size + inn + n } := setLand_same _ _ _
  have hreg : (p.hand i n inn).region = (i : Int) := rfl
  have hgen : (p.hand i n inn).gen = (p.lands i).gen := rfl
  have hlen : (p.hand i n inn).len = (n : Int) := rfl
  unfold Pool.piece
  rw [hreg, hgen, hlen, e1, Int.toNat_natCast, hland]
  have hsz : (p.take i n inn).size = p.size := rfl
  rw [if_pos ⟨⟨by omega, by omega, by rw [Int.toNat_natCast, hland]; exact hr⟩, rfl⟩, if_pos ⟨by omega, by omega, by show ((((p.lands i).slabs.length - 1) * p.size + inn : Nat) : Int) ≤ ((((p.lands i).slabs.length - 1) * p.size + inn + n : Nat) : Int); omega, by
    show (n : Int) ≤ ((((p.lands i).slabs.length - 1) * p.size + inn + n : Nat) : Int) - ((((p.lands i).slabs.length - 1) * p.size + inn : Nat) : Int); omega⟩, hsz]
  have e4 : ((((p.lands i).slabs.length - 1) * p.size + inn : Nat) : Int) % (p.size : Int) = (inn : Int) := by rw [← Int.natCast_emod, e3]
  have e5 : ((((p.lands i).slabs.length - 1) * p.size + inn : Nat) : Int) / (p.size : Int) = (((p.lands i).slabs.length - 1 : Nat) : Int) := by rw [← Int.natCast_ediv, e2]
  rw [e4, e5, if_pos (by omega)]
  simp

theorem Pool.allocIn_piece {p q : Pool} (h : p.WF) {i n : Nat} {hd : Hnd} (hi : i < 256) (hr : (p.lands i).there = true) (hn : 1 ≤ n) (hnz : n ≤ p.size) (ha : p.allocIn i n = some (hd, q)) :
    (∃ s a, q.piece hd = .ok (s, a, n)) ∧ hd.region = i ∧ hd.gen = (p.lands i).gen ∧ hd.len = n ∧ 0 ≤ hd.off ∧ hd.off ≤ 4194304 := by
  have hof : ∀ (p' : Pool) (inn : Nat), p'.WF → (p'.lands i).slabs.length ≠ 0 → inn + n ≤ p'.size → 0 ≤ (p'.hand i n inn).off ∧ (p'.hand i n inn).off ≤ 4194304 := fun p' inn h' hl hin => by
    have h1 := h'.len hi
    have h2 := h'.all
    have h3 : ((p'.lands i).slabs.length - 1) * p'.size + p'.size = (p'.lands i).slabs.length * p'.size := by rw [← Nat.succ_mul]; congr 1; omega
    have h4 : (p'.lands i).slabs.length * p'.size ≤ p'.n * p'.size := Nat.mul_le_mul_right _ h1
    rw [Nat.mul_comm p'.n] at h4
    have e1 : (p'.hand i n inn).off = ((((p'.lands i).slabs.length - 1) * p'.size + inn : Nat) : Int) := by
      show (((p'.lands i).slabs.length - 1 : Nat) : Int) * (p'.size : Int) + (inn : Int) = _
      rw [Int.natCast_add, Int.natCast_mul]
    rw [e1]
    omega
  unfold Pool.allocIn at ha
  by_cases hc : (p.lands i).slabs.length = 0 ∨ p.size < p.inLast i + n
  · rw [if_pos hc] at ha
    cases hs : p.idleSlab with
    | none => simp [hs] at ha
    | some s =>
      simp only [hs, Option.some.injEq, Prod.mk.injEq] at ha
      obtain ⟨rfl, rfl⟩ := ha
      have h' := h.grow hi hr hs
      have e : ((p.grow i s).lands i).slabs = (p.lands i).slabs ++ [s] := by simp [Pool.grow, Pool.setLand]
      have eg : ((p.grow i s).lands i).gen = (p.lands i).gen := by simp [Pool.grow, Pool.setLand]
      have hl : ((p.grow i s).lands i).slabs.length ≠ 0 := by rw [e]; simp
      have hr' : ((p.grow i s).lands i).there = true := by simp [Pool.grow, Pool.setLand, hr]
      have hz' : (p.grow i s).size = p.size := rfl
      exact ⟨⟨_, _, Pool.take_piece h' hi hr' hl hn (by rw [hz']; omega)⟩, rfl, eg, rfl, hof _ 0 h' hl (by rw [hz']; omega)⟩
  · rw [if_neg hc] at ha
    simp only [Option.some.injEq, Prod.mk.injEq] at ha
    obtain ⟨rfl, rfl⟩ := ha
    exact ⟨⟨_, _, Pool.take_piece h hi hr (by omega) hn (by omega)⟩, rfl, rfl, rfl, hof _ _ h (by omega) (by omega)⟩

end Go.Proofs.Ytmnklaphcjchiaa
