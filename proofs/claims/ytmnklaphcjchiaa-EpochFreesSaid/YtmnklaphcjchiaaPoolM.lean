/-
  The plain model of region.Pool: what its calls compute (with pieces aligned to 1). No program in sight.
-/
import Derived.Test.YtmnklaphcjchiaaFrame
namespace Go.Proofs.Ytmnklaphcjchiaa
open Go.RowKit

structure Land where
  there : Bool
  gen : Int
  slabs : List Nat
  fill : Nat

structure Pool where
  size : Nat
  n : Nat
  bytes : Nat → Nat → Int
  taken : Nat → Bool
  lands : Nat → Land

def Pool.setLand (p : Pool) (i : Nat) (l : Land) : Pool := { p with lands := fun j => if j = i then l else p.lands j }

structure Pool.WF (p : Pool) : Prop where
  size0 : 64 ≤ p.size
  size1 : p.size ≤ 65536
  n0 : 1 ≤ p.n
  n1 : p.n ≤ 4096
  all : p.size * p.n ≤ 4194304
  slab : ∀ i, i < 256 → ∀ s, s ∈ (p.lands i).slabs → s < p.n ∧ p.taken s = true
  nodup : ∀ i, i < 256 → (p.lands i).slabs.Nodup
  apart : ∀ i, i < 256 → ∀ j, j < 256 → i ≠ j → ∀ s, s ∈ (p.lands i).slabs → ¬ s ∈ (p.lands j).slabs
  used : ∀ s, s < p.n → p.taken s = true → ∃ i, i < 256 ∧ s ∈ (p.lands i).slabs
  fill : ∀ i, i < 256 → (p.lands i).fill ≤ (p.lands i).slabs.length * p.size ∧ (p.lands i).slabs.length * p.size ≤ (p.lands i).fill + p.size
  empty : ∀ i, i < 256 → (p.lands i).slabs = [] → (p.lands i).fill = 0
  gone : ∀ i, i < 256 → (p.lands i).there = false → (p.lands i).slabs = [] ∧ (p.lands i).fill = 0
  gens : ∀ i, i < 256 → (Lit.int .i64 (p.lands i).gen).wf = true

theorem nodup_bound : ∀ (n : Nat) (l : List Nat), l.Nodup → (∀ x ∈ l, x < n) → l.length ≤ n
  | 0, l, _, h => by
    cases l with
    | nil => simp
    | cons a l => exact absurd (h a (by simp)) (by omega)
  | n + 1, l, hd, h => by
    by_cases hn : n ∈ l
    · have h1 := List.length_erase_of_mem hn
      have h2 := nodup_bound n (l.erase n) (hd.erase n) (fun x hx => by
        have h3 := h x (List.mem_of_mem_erase hx)
        have h4 : x ≠ n := fun e => by subst e; exact (List.Nodup.mem_erase_iff hd).1 hx |>.1 rfl
        omega)
      have h5 : 0 < l.length := List.length_pos_of_mem hn
      omega
    · have h2 := nodup_bound n l hd (fun x hx => by
        have h3 := h x hx
        have h4 : x ≠ n := fun e => by subst e; exact hn hx
        omega)
      omega

theorem Pool.WF.len {p : Pool} (h : p.WF) {i : Nat} (hi : i < 256) : (p.lands i).slabs.length ≤ p.n :=
  nodup_bound _ _ (h.nodup i hi) (fun x hx => (h.slab i hi x hx).1)

/-- The first number below n at which f answers yes. -/
def firstOf (f : Nat → Bool) : Nat → Option Nat
  | 0 => none
  | n + 1 => match firstOf f n with
    | some k => some k
    | none => if f n then some n else none

theorem firstOf_some {f : Nat → Bool} : ∀ {n k : Nat}, firstOf f n = some k → k < n ∧ f k = true ∧ ∀ j, j < k → f j = false
  | 0, k, h => by simp [firstOf] at h
  | n + 1, k, h => by
    unfold firstOf at h
    cases hf : firstOf f n with
    | some k' =>
      rw [hf] at h
      simp only [Option.some.injEq] at h
      subst h
      obtain ⟨h1, h2, h3⟩ := firstOf_some hf
      exact ⟨by omega, h2, h3⟩
    | none =>
      rw [hf] at h
      by_cases hn : f n = true
      · simp [hn] at h
        subst h
        refine ⟨by omega, hn, fun j hj => ?_⟩
        exact firstOf_none hf j hj
      · simp [hn] at h
where
  firstOf_none {f : Nat → Bool} : ∀ {n : Nat}, firstOf f n = none → ∀ j, j < n → f j = false
    | 0, _, j, hj => by omega
    | n + 1, h, j, hj => by
      unfold firstOf at h
      cases hf : firstOf f n with
      | some k' => rw [hf] at h; simp at h
      | none =>
        rw [hf] at h
        by_cases hn : f n = true
        · simp [hn] at h
        · by_cases e : j = n
          · subst e; simpa using hn
          · exact firstOf_none hf j (by omega)

theorem firstOf_none {f : Nat → Bool} {n : Nat} (h : firstOf f n = none) : ∀ j, j < n → f j = false := firstOf_some.firstOf_none h

theorem firstOf_eq {f : Nat → Bool} {n k : Nat} (hk : k < n) (h : f k = true) (hl : ∀ j, j < k → f j = false) : firstOf f n = some k := by
  cases hf : firstOf f n with
  | some k' =>
    obtain ⟨h1, h2, h3⟩ := firstOf_some hf
    have : k' = k := by
      rcases Nat.lt_trichotomy k' k with h' | h' | h'
      · rw [hl k' h'] at h2; cases h2
      · exact h'
      · rw [h3 k h'] at h; cases h
    rw [this]
  | none => rw [firstOf_none hf k hk] at h; cases h

theorem firstOf_eq_none {f : Nat → Bool} {n : Nat} (hl : ∀ j, j < n → f j = false) : firstOf f n = none := by
  cases hf : firstOf f n with
  | some k' =>
    obtain ⟨h1, h2, _⟩ := firstOf_some hf
    rw [hl k' h1] at h2; cases h2
  | none => rfl

/-- Is there such a region? -/
def Pool.has (p : Pool) (r : Int) : Prop := 0 ≤ r ∧ r < 256 ∧ (p.lands r.toNat).there = true

instance (p : Pool) (r : Int) : Decidable (p.has r) := by unfold Pool.has; exact inferInstance

@[irreducible] def Pool.idleLand (p : Pool) : Option Nat := firstOf (fun i => !(p.lands i).there) 256

def Pool.make (p : Pool) : Option (Nat × Pool) :=
  match p.idleLand with
  | some i => some (i, p.setLand i { there := true, gen := wrap64 ((p.lands i).gen + 1), slabs := [], fill := 0 })
  | none => none

@[irreducible] def Pool.idleSlab (p : Pool) : Option Nat := firstOf (fun s => !(p.taken s)) p.n

theorem Pool.idleLand_some {p : Pool} {i : Nat} (h : p.idleLand = some i) : i < 256 ∧ (p.lands i).there = false ∧ ∀ j, j < i → (p.lands j).there = true := by
  unfold Pool.idleLand at h
  obtain ⟨h1, h2, h3⟩ := firstOf_some h
  exact ⟨h1, by simpa using h2, fun j hj => by simpa using h3 j hj⟩

theorem Pool.idleLand_none {p : Pool} (h : p.idleLand = none) : ∀ j, j < 256 → (p.lands j).there = true := fun j hj => by
  unfold Pool.idleLand at h
  simpa using firstOf_none h j hj

theorem Pool.idleSlab_some {p : Pool} {i : Nat} (h : p.idleSlab = some i) : i < p.n ∧ p.taken i = false ∧ ∀ j, j < i → p.taken j = true := by
  unfold Pool.idleSlab at h
  obtain ⟨h1, h2, h3⟩ := firstOf_some h
  exact ⟨h1, by simpa using h2, fun j hj => by simpa using h3 j hj⟩

theorem Pool.idleSlab_none {p : Pool} (h : p.idleSlab = none) : ∀ j, j < p.n → p.taken j = true := fun j hj => by
  unfold Pool.idleSlab at h
  simpa using firstOf_none h j hj

/-- Some bytes of a slab are others. -/
def Pool.write (p : Pool) (s at_ : Nat) (xs : List Int) : Pool :=
  { p with bytes := fun k => if k = s then fun j => if at_ ≤ j ∧ j < at_ + xs.length then xs.getD (j - at_) 0 else p.bytes k j else p.bytes k }

def Pool.setTaken (p : Pool) (s : Nat) (v : Bool) : Pool := { p with taken := fun k => if k = s then v else p.taken k }

def Pool.grow (p : Pool) (i s : Nat) : Pool :=
  ((p.setTaken s true).write s 0 (List.replicate p.size 0)).setLand i { p.lands i with slabs := (p.lands i).slabs ++ [s], fill := (p.lands i).slabs.length * p.size }

/-- How much of the last slab is handed out. -/
def Pool.inLast (p : Pool) (i : Nat) : Nat := p.size + (p.lands i).fill - (p.lands i).slabs.length * p.size

structure Hnd where
  region : Int
  gen : Int
  off : Int
  len : Int
  deriving DecidableEq

def Hnd.zero : Hnd := ⟨0, 0, 0, 0⟩

def Hnd.val (h : Hnd) : Array Value := #[.int .i64 h.region, .int .i64 h.gen, .int .i64 h.off, .int .i64 h.len]

/-- A piece at the end of region i: the pool behind it. -/
def Pool.take (p : Pool) (i n inn : Nat) : Pool :=
  p.setLand i { p.lands i with fill := ((p.lands i).slabs.length - 1) * p.size + inn + n }

def Pool.hand (p : Pool) (i n inn : Nat) : Hnd := ⟨i, (p.lands i).gen, ((p.lands i).slabs.length - 1 : Nat) * p.size + inn, n⟩

/-- Alloc at an alignment of 1, in a region that is there, of so many bytes as a slab may have. -/
def Pool.allocIn (p : Pool) (i n : Nat) : Option (Hnd × Pool) :=
  if (p.lands i).slabs.length = 0 ∨ p.size < p.inLast i + n then
    match p.idleSlab with
    | none => none
    | some s => some ((p.grow i s).hand i n 0, (p.grow i s).take i n 0)
  else some (p.hand i n (p.inLast i), p.take i n (p.inLast i))

def Pool.alloc (p : Pool) (r n : Int) : Hnd × Int × Pool :=
  if p.has r then
    if 1 ≤ n ∧ n ≤ p.size then
      match p.allocIn r.toNat n.toNat with
      | some (h, q) => (h, 0, q)
      | none => (.zero, 5, p)
    else (.zero, 1, p)
  else (.zero, 7, p)

/-- Where a piece lies: its slab, and where in it; or the error. -/
def Pool.piece (p : Pool) (h : Hnd) : Except Int (Nat × Nat × Nat) :=
  if p.has h.region ∧ (p.lands h.region.toNat).gen = h.gen then
    if 1 ≤ h.len ∧ 0 ≤ h.off ∧ h.off ≤ (p.lands h.region.toNat).fill ∧ h.len ≤ (p.lands h.region.toNat).fill - h.off then
      if h.off % p.size + h.len ≤ p.size then .ok ((p.lands h.region.toNat).slabs.getD (h.off / p.size).toNat 0, (h.off % p.size).toNat, h.len.toNat)
      else .error 1
    else .error 1
  else .error 3

def Pool.read (p : Pool) (s at_ n : Nat) : List Int := (List.range n).map fun j => p.bytes s (at_ + j)

def Pool.wipe1 (p : Pool) (s : Nat) : Pool := (p.write s 0 (List.replicate p.size 221)).setTaken s false

def Pool.wipe (p : Pool) (l : List Nat) : Pool := l.foldl Pool.wipe1 p

def Pool.free (p : Pool) (i : Nat) : Pool := (p.wipe (p.lands i).slabs).setLand i { there := false, gen := (p.lands i).gen, slabs := [], fill := 0 }

def Pool.idle (p : Pool) : Nat := ((List.range p.n).filter fun s => !(p.taken s)).length

def Pool.new (size n : Nat) : Pool := { size := size, n := n, bytes := fun _ _ => 0, taken := fun _ => false, lands := fun _ => { there := false, gen := 0, slabs := [], fill := 0 } }

end Go.Proofs.Ytmnklaphcjchiaa
