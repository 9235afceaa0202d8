/-
  Plain facts for EpochFrees.
-/
import Derived.Test.YtmnklaphcjchiaaKeepR
import Derived.Test.YtmnklaphcjchiaaEpW12
import Derived.Test.YtmnklaphcjchiaaInts
namespace Go.Proofs.Ytmnklaphcjchiaa
open Go.RowKit

/-- The law's own list beside the model: n pins were answered; those up to c are gone; D says of each whether it was let go. -/
structure FreeInv (p : Pool) (e : Eps) (n c : Nat) (D : List Bool) (N : List Note) (i : Nat) : Prop where
  last : e.last = n
  len : n ≤ i
  pl : e.pins.length ≤ i
  now : e.now ≤ i + 1
  dl : D.length = 200
  in1 : ∀ x ∈ e.pins, c < x.1 ∧ x.1 ≤ n
  gone : ∀ k, c < k → k ≤ n → (D.getD k false = false ↔ ∃ t, (k, t) ∈ e.pins)
  fresh : ∀ k, n < k → D.getD k false = false
  nle : ∀ m ∈ N, m.epoch ≤ e.now
  nwf : ∀ m ∈ N, m.WF
  nlen : N.length ≤ i
  size : p.size = 256
  pn : p.n = 100

theorem getD_setB {D : List Bool} {q k : Nat} {v : Bool} : (D.set q v).getD k false = if q = k ∧ k < D.length then v else D.getD k false := by
  simp only [List.getD, List.getElem?_set]
  by_cases h : q = k
  · subst h
    by_cases hl : q < D.length
    · simp [hl]
    · simp [hl]
  · simp [h]

theorem rep_getD (n k : Nat) : (List.replicate n false).getD k false = false := by
  unfold List.getD
  rw [List.getElem?_replicate]
  split <;> rfl

section
variable {p q : Pool} {e e' : Eps} {n c : Nat} {D : List Bool} {N : List Note} {i B : Nat}

theorem FreeInv.mono (h : FreeInv p e n c D N i) : FreeInv p e n c D N (i + 1) :=
  ⟨h.last, by have := h.len; omega, by have := h.pl; omega, by have := h.now; omega, h.dl, h.in1, h.gone, h.fresh, h.nle, h.nwf, by have := h.nlen; omega, h.size, h.pn⟩

theorem FreeInv.start : FreeInv (pool1 256 100) eps1 0 0 (List.replicate 200 false) [] 0 where
  last := rfl
  len := Nat.le_refl _
  pl := Nat.le_refl _
  now := Nat.le_refl _
  dl := List.length_replicate ..
  in1 := fun x hx => by cases hx
  gone := fun k h1 h2 => by omega
  fresh := fun k hk => rep_getD 200 k
  nle := fun m hm => by cases hm
  nwf := fun m hm => by cases hm
  nlen := Nat.le_refl _
  size := rfl
  pn := rfl

theorem FreeInv.pin (h : FreeInv p e n 0 D N i) : FreeInv p (pin1 e) (n + 1) 0 D N (i + 1) where
  last := by show e.last + 1 = _; rw [h.last]
  len := by have := h.len; omega
  pl := by have := h.pl; show (e.pins ++ [_]).length ≤ _; simp; omega
  now := by have := h.now; show e.now ≤ _; omega
  dl := h.dl
  in1 := fun x hx => by
    rcases List.mem_append.1 (show x ∈ e.pins ++ [(e.last + 1, e.now)] from hx) with hx | hx
    · have := h.in1 x hx; omega
    · simp only [List.mem_singleton] at hx
      subst hx
      have := h.last
      exact ⟨by show 0 < e.last + 1; omega, by show e.last + 1 ≤ n + 1; omega⟩
  gone := fun k h1 h2 => by
    show _ ↔ ∃ t, (k, t) ∈ e.pins ++ [(e.last + 1, e.now)]
    by_cases hk : k = n + 1
    · subst hk
      refine ⟨fun _ => ⟨e.now, List.mem_append_right _ (by rw [h.last]; simp)⟩, fun _ => h.fresh _ (by omega)⟩
    · rw [h.gone k h1 (by omega)]
      constructor
      · rintro ⟨t, ht⟩; exact ⟨t, List.mem_append_left _ ht⟩
      · rintro ⟨t, ht⟩
        rcases List.mem_append.1 ht with ht | ht
        · exact ⟨t, ht⟩
        · simp only [List.mem_singleton, Prod.mk.injEq] at ht
          have := h.last
          omega
  fresh := fun k hk => h.fresh k (by omega)
  nle := h.nle
  nwf := h.nwf
  nlen := by have := h.nlen; omega
  size := h.size
  pn := h.pn

theorem pins_sub {k t : Nat} {l1 l2 : List (Nat × Nat)} (hd : (e.pins.map (·.1)).Nodup) (hl : e.pins = l1 ++ (k, t) :: l2) : ∀ x ∈ l1 ++ l2, x ∈ e.pins ∧ x.1 ≠ k := fun x hx => by
  rw [hl] at hd ⊢
  rw [List.map_append, List.map_cons] at hd
  obtain ⟨d1, d2, d3⟩ := List.nodup_append.1 hd
  rcases List.mem_append.1 hx with hx | hx
  · exact ⟨List.mem_append_left _ hx, fun e1 => d3 x.1 (List.mem_map.2 ⟨x, hx, rfl⟩) k (by simp) e1⟩
  · exact ⟨List.mem_append_right _ (List.mem_cons_of_mem _ hx), fun e1 => (List.nodup_cons.1 d2).1 (e1 ▸ List.mem_map.2 ⟨x, hx, rfl⟩)⟩

theorem pins_back {k t : Nat} {l1 l2 : List (Nat × Nat)} (hl : e.pins = l1 ++ (k, t) :: l2) {x : Nat × Nat} (hx : x ∈ e.pins) (hne : x.1 ≠ k) : x ∈ l1 ++ l2 := by
  rw [hl] at hx
  rcases List.mem_append.1 hx with hx | hx
  · exact List.mem_append_left _ hx
  · rcases List.mem_cons.1 hx with hx | hx
    · subst hx; exact absurd rfl hne
    · exact List.mem_append_right _ hx

/-- A pin that was there is let go. -/
theorem FreeInv.unpin {k t : Nat} {l1 l2 : List (Nat × Nat)} (h : FreeInv p e n 0 D N i) (hd : (e.pins.map (·.1)).Nodup) (hk1 : k < 200) (hl : e.pins = l1 ++ (k, t) :: l2) :
    FreeInv p { e with pins := l1 ++ l2 } n 0 (D.set k true) N (i + 1) := by
  have hsub := pins_sub hd hl
  have hlen : (l1 ++ l2).length ≤ e.pins.length := by rw [hl]; simp
  have hkn := h.in1 (k, t) (by rw [hl]; simp)
  exact {
    last := h.last
    len := by have := h.len; omega
    pl := by have := h.pl; show (l1 ++ l2).length ≤ _; omega
    now := by have := h.now; show e.now ≤ _; omega
    dl := by rw [List.length_set]; exact h.dl
    in1 := fun x hx => h.in1 x (hsub x hx).1
    gone := fun j h1 h2 => by
      rw [getD_setB]
      by_cases hj : k = j
      · subst hj
        rw [if_pos ⟨rfl, by rw [h.dl]; omega⟩]
        constructor
        · intro hh; cases hh
        · rintro ⟨t', ht'⟩; exact absurd rfl (hsub _ ht').2
      · rw [if_neg (by omega), h.gone j h1 h2]
        constructor
        · rintro ⟨t', ht'⟩; exact ⟨t', pins_back hl ht' (fun hh => hj hh.symm)⟩
        · rintro ⟨t', ht'⟩; exact ⟨t', (hsub _ ht').1⟩
    fresh := fun j hj => by
      rw [getD_setB, if_neg (by have := hkn.2; simp only at this; omega)]
      exact h.fresh j hj
    nle := h.nle
    nwf := h.nwf
    nlen := by have := h.nlen; omega
    size := h.size
    pn := h.pn }

/-- One that was let go before is let go again. -/
theorem FreeInv.unpinMiss {k : Nat} (h : FreeInv p e n 0 D N i) (hk0 : 0 < k) (hk1 : k ≤ n) (hk2 : k < 200) (hm : ∀ x ∈ e.pins, x.1 ≠ k) : FreeInv p e n 0 (D.set k true) N (i + 1) where
  last := h.last
  len := by have := h.len; omega
  pl := by have := h.pl; omega
  now := by have := h.now; omega
  dl := by rw [List.length_set]; exact h.dl
  in1 := h.in1
  gone := fun j h1 h2 => by
    rw [getD_setB]
    by_cases hj : k = j
    · subst hj
      rw [if_pos ⟨rfl, by rw [h.dl]; omega⟩]
      constructor
      · intro hh; cases hh
      · rintro ⟨t', ht'⟩; exact absurd rfl (hm _ ht')
    · rw [if_neg (by omega), h.gone j h1 h2]
  fresh := fun j hj => by
    rw [getD_setB, if_neg (by omega)]
    exact h.fresh j hj
  nle := h.nle
  nwf := h.nwf
  nlen := by have := h.nlen; omega
  size := h.size
  pn := h.pn

theorem FreeInv.advance (h : FreeInv p e n c D N i) (hi : EpInv p e B) (ha : advanced p e = some (q, e')) : FreeInv q e' n c D N (i + 1) := by
  obtain ⟨-, -, h1, h2, h3, h4, hz, hn, -⟩ := advanced_facts hi ha
  exact ⟨by rw [h4]; exact h.last, by have := h.len; omega, by rw [h3]; have := h.pl; omega, by have := h.now; omega, h.dl, by rw [h3]; exact h.in1, by rw [h3]; exact h.gone, h.fresh,
    fun m hm => by have := h.nle m hm; omega, h.nwf, by have := h.nlen; omega, hz.trans h.size, hn.trans h.pn⟩

theorem FreeInv.collect (h : FreeInv p e n c D N i) (hi : EpInv p e B) : FreeInv (collectN (e.oldest - e.lo) (p, e)).1 (collectN (e.oldest - e.lo) (p, e)).2 n c D N (i + 1) := by
  have hle := hi.le
  have hol := oldest_le e
  obtain ⟨-, -, -, hz, hn⟩ := collectN_facts hi (e.oldest - e.lo) (by omega)
  have he := collectN_eps (e.oldest - e.lo) p e
  refine ⟨by rw [he]; exact h.last, by have := h.len; omega, by rw [he]; have := h.pl; show e.pins.length ≤ _; omega, by rw [he]; have := h.now; show e.now ≤ _; omega, h.dl, by rw [he]; exact h.in1, by rw [he]; exact h.gone, h.fresh,
    fun m hm => by rw [he]; exact h.nle m hm, h.nwf, by have := h.nlen; omega, hz.trans h.size, hn.trans h.pn⟩

theorem FreeInv.retire (h : FreeInv p e n c D N i) (hi : EpInv p e B) (hn : e.now < 4611686018427387904) {s : ByteArray} (hx0 : 1 ≤ s.size) (hx1 : s.size ≤ p.size) {m : Note} (hr : retired p e (bytesOf s) = some (m, q, e')) :
    FreeInv q e' n c D (N ++ [m]) (i + 1) := by
  obtain ⟨-, hh, -, hne, -, hnow, hpins, hlast, hz, hpn⟩ := retired_facts hi hn (by rw [bytesOf_length]; exact hx0) (by rw [bytesOf_length]; exact hx1) hr
  exact ⟨by rw [hlast]; exact h.last, by have := h.len; omega, by rw [hpins]; have := h.pl; omega, by rw [hnow]; have := h.now; omega, h.dl, by rw [hpins]; exact h.in1, by rw [hpins]; exact h.gone, h.fresh,
    fun m' hm' => by
      rw [hnow]
      rcases List.mem_append.1 hm' with hm' | hm'
      · exact h.nle m' hm'
      · simp only [List.mem_singleton] at hm'
        subst hm'
        omega,
    fun m' hm' => by
      rcases List.mem_append.1 hm' with hm' | hm'
      · exact h.nwf m' hm'
      · simp only [List.mem_singleton] at hm'
        subst hm'
        exact hh.wf, by have := h.nlen; simp; omega, hz.trans h.size, hpn.trans h.pn⟩

/-- The pin behind the last one that is gone is let go. -/
theorem FreeInv.last_there {t : Nat} {l1 l2 : List (Nat × Nat)} (h : FreeInv p e n c D N i) (hd : (e.pins.map (·.1)).Nodup) (hl : e.pins = l1 ++ (c + 1, t) :: l2) : FreeInv p { e with pins := l1 ++ l2 } n (c + 1) D N i := by
  have hsub := pins_sub hd hl
  have hlen : (l1 ++ l2).length ≤ e.pins.length := by rw [hl]; simp
  exact ⟨h.last, h.len, by have := h.pl; show (l1 ++ l2).length ≤ _; omega, h.now, h.dl, fun x hx => by
      have h1 := h.in1 x (hsub x hx).1
      have h2 := (hsub x hx).2
      omega, fun j h1 h2 => by
      rw [h.gone j (by omega) h2]
      constructor
      · rintro ⟨t', ht'⟩; exact ⟨t', pins_back hl ht' (by simp only; omega)⟩
      · rintro ⟨t', ht'⟩; exact ⟨t', (hsub _ ht').1⟩, h.fresh, h.nle, h.nwf, h.nlen, h.size, h.pn⟩

theorem FreeInv.last_gone (h : FreeInv p e n c D N i) (hm : ∀ x ∈ e.pins, x.1 ≠ c + 1) : FreeInv p e n (c + 1) D N i :=
  ⟨h.last, h.len, h.pl, h.now, h.dl, fun x hx => by have h1 := h.in1 x hx; have h2 := hm x hx; omega, fun j h1 h2 => h.gone j (by omega) h2, h.fresh, h.nle, h.nwf, h.nlen, h.size, h.pn⟩

theorem FreeInv.no_pins (h : FreeInv p e n n D N i) : e.pins = [] := by
  cases hp : e.pins with
  | nil => rfl
  | cons x l => have := h.in1 x (by rw [hp]; simp); omega

/-- All regions are gone: the first one is made. -/
theorem make_first {q : Pool} (hl : ∀ i, i < 256 → (q.lands i).there = false) : ∃ q', q.make = some (0, q') := by
  have h : q.idleLand = some 0 := by
    unfold Pool.idleLand
    exact firstOf_eq (by omega) (by rw [hl 0 (by omega)]; rfl) (fun j hj => absurd hj (Nat.not_lt_zero j))
  exact ⟨_, by unfold Pool.make; rw [h]⟩

theorem close_lands (h : EpInv p e B) (hlo : e.lo = e.now) : ∀ i, i < 256 → ((collectN e.cnt (p, e)).1.lands i).there = false := fun i hi => by
  have hc : e.cnt = 1 := by simp only [Eps.cnt]; omega
  rw [hc]
  show ((p.free (e.era e.lo).region).lands i).there = false
  by_cases hir : i = (e.era e.lo).region
  · rw [hir, free_land_same]
  · rw [free_land_ne p hir]
    cases ht : (p.lands i).there with
    | false => rfl
    | true =>
      obtain ⟨k, h1, h2, h3⟩ := h.own i hi ht
      have : k = e.lo := by omega
      subst this
      exact absurd h3.symm hir

end

end Go.Proofs.Ytmnklaphcjchiaa
