/-
  Plain facts for EpochOldest: the law's own list of pins beside the model's.
-/
import Derived.Test.YtmnklaphcjchiaaAges
namespace Go.Proofs.Ytmnklaphcjchiaa
open Go.RowKit

theorem minPin_mem {l : List (Nat × Nat)} : ∀ {m : Nat} {x : Nat × Nat}, x ∈ l → minPin m l ≤ x.2 := by
  induction l with
  | nil => intro m x hx; cases hx
  | cons y l ih =>
    intro m x hx
    rcases List.mem_cons.1 hx with rfl | hx
    · show minPin (min m x.2) l ≤ x.2
      have := minPin_le l (min m x.2)
      omega
    · exact ih hx

theorem minPin_snoc (l : List (Nat × Nat)) (x : Nat × Nat) (m : Nat) : minPin m (l ++ [x]) = min (minPin m l) x.2 := by
  unfold minPin
  rw [List.foldl_append]
  rfl

/-- The least epoch among the law's pins (0: gone), from m on. -/
def leastN (m : Nat) (P : List Nat) : Nat := P.foldl (fun m x => if 0 < x then min m x else m) m

theorem leastN_snoc (m : Nat) (P : List Nat) (x : Nat) : leastN m (P ++ [x]) = if 0 < x then min (leastN m P) x else leastN m P := by
  unfold leastN
  rw [List.foldl_append]
  rfl

theorem leastN_le (P : List Nat) : ∀ m, leastN m P ≤ m := by
  induction P with
  | nil => intro m; exact Nat.le_refl _
  | cons x P ih =>
    intro m
    show leastN (if 0 < x then min m x else m) P ≤ m
    by_cases h0 : 0 < x
    · rw [if_pos h0]
      have := ih (min m x)
      omega
    · rw [if_neg h0]
      exact ih m

theorem leastN_mem {P : List Nat} : ∀ {m x : Nat}, x ∈ P → 0 < x → leastN m P ≤ x := by
  induction P with
  | nil => intro m x hx; cases hx
  | cons y P ih =>
    intro m x hx h0
    rcases List.mem_cons.1 hx with rfl | hx
    · show leastN (if 0 < x then min m x else m) P ≤ x
      rw [if_pos h0]
      have := leastN_le P (min m x)
      omega
    · exact ih hx h0

theorem leastN_ge {P : List Nat} {t : Nat} (h : ∀ x ∈ P, 0 < x → t ≤ x) : ∀ m, t ≤ m → t ≤ leastN m P := by
  induction P with
  | nil => intro m hm; exact hm
  | cons x P ih =>
    intro m hm
    refine ih (fun y hy => h y (List.mem_cons_of_mem _ hy)) (if 0 < x then min m x else m) ?_
    have := h x (by simp)
    split <;> omega

structure OldInv (e : Eps) (P : List Nat) (i : Nat) : Prop where
  last : e.last = P.length
  len : P.length ≤ i
  pl : e.pins.length ≤ i
  now : e.now ≤ i + 1
  lo : e.lo ≤ e.oldest
  in1 : ∀ x ∈ e.pins, 1 ≤ x.1 ∧ x.1 ≤ P.length ∧ P.getD (x.1 - 1) 0 = x.2 ∧ 0 < x.2
  in2 : ∀ k, k < P.length → 0 < P.getD k 0 → (k + 1, P.getD k 0) ∈ e.pins

theorem getD_at {P : List Nat} {k : Nat} (h : k < P.length) : P.getD k 0 ∈ P := getD_lt h

theorem OldInv.least {e : Eps} {P : List Nat} {i : Nat} (h : OldInv e P i) : leastN e.now P = e.oldest := by
  refine Nat.le_antisymm ?_ ?_
  · refine minPin_ge (fun x hx => ?_) _ (leastN_le _ _)
    obtain ⟨h1, h2, h3, h4⟩ := h.in1 x hx
    rw [← h3]
    exact leastN_mem (getD_at (by omega)) (by omega)
  · refine leastN_ge (fun x hx h0 => ?_) _ (minPin_le _ _)
    obtain ⟨k, hk, rfl⟩ := List.getElem_of_mem hx
    have hg : P.getD k 0 = P[k] := by simp [List.getD, List.getElem?_eq_getElem hk]
    have := minPin_mem (m := e.now) (h.in2 k hk (by rw [hg]; exact h0))
    rw [← hg]
    exact this

theorem OldInv.mono {e : Eps} {P : List Nat} {i : Nat} (h : OldInv e P i) : OldInv e P (i + 1) :=
  ⟨h.last, by have := h.len; omega, by have := h.pl; omega, by have := h.now; omega, h.lo, h.in1, h.in2⟩

theorem OldInv.start : OldInv eps1 [] 0 where
  last := rfl
  len := Nat.le_refl _
  pl := Nat.le_refl _
  now := Nat.le_refl _
  lo := Nat.le_refl _
  in1 := fun x hx => by cases hx
  in2 := fun k hk => by cases hk

theorem getD_snoc_lt {P : List Nat} {x k : Nat} (h : k < P.length) : (P ++ [x]).getD k 0 = P.getD k 0 := by
  simp [List.getD, List.getElem?_append_left h]

theorem getD_snoc_eq (P : List Nat) (x : Nat) : (P ++ [x]).getD P.length 0 = x := by
  simp [List.getD]

theorem OldInv.pin {e : Eps} {P : List Nat} {i : Nat} (h : OldInv e P i) (h1 : 1 ≤ e.now) : OldInv (pin1 e) (P ++ [e.now]) (i + 1) ∧ (pin1 e).oldest = e.oldest := by
  have ho : (pin1 e).oldest = e.oldest := by
    show minPin e.now (e.pins ++ [(e.last + 1, e.now)]) = _
    rw [minPin_snoc]
    have := oldest_le e
    unfold Eps.oldest at this ⊢
    omega
  refine ⟨⟨?_, ?_, ?_, ?_, ?_, ?_, ?_⟩, ho⟩
  · show e.last + 1 = _; rw [h.last]; simp
  · have := h.len; simp; omega
  · have := h.pl; show (e.pins ++ [_]).length ≤ _; simp; omega
  · have := h.now; show e.now ≤ _; omega
  · rw [ho]; exact h.lo
  · intro x hx
    rcases List.mem_append.1 (show x ∈ e.pins ++ [(e.last + 1, e.now)] from hx) with hx | hx
    · obtain ⟨g1, g2, g3, g4⟩ := h.in1 x hx
      exact ⟨g1, by simp; omega, by rw [getD_snoc_lt (by omega)]; exact g3, g4⟩
    · simp only [List.mem_singleton] at hx
      subst hx
      refine ⟨by simp, by simp [h.last], ?_, h1⟩
      simp only [h.last, Nat.add_sub_cancel]
      exact getD_snoc_eq _ _
  · intro k hk hp
    show (k + 1, (P ++ [e.now]).getD k 0) ∈ e.pins ++ [(e.last + 1, e.now)]
    by_cases hkl : k < P.length
    · rw [getD_snoc_lt hkl] at hp ⊢
      exact List.mem_append_left _ (h.in2 k hkl hp)
    · have hk' : k = P.length := by simp at hk; omega
      subst hk'
      rw [getD_snoc_eq, h.last]
      exact List.mem_append_right _ (by simp)

theorem getD_set {P : List Nat} {q k v : Nat} : (P.set q v).getD k 0 = if q = k ∧ k < P.length then v else P.getD k 0 := by
  simp only [List.getD, List.getElem?_set]
  by_cases h : q = k
  · subst h
    by_cases hl : q < P.length
    · simp [hl]
    · simp [hl]
  · simp [h]

theorem OldInv.unpin {e : Eps} {P : List Nat} {i q k : Nat} {l1 l2 : List (Nat × Nat)} (h : OldInv e P i) (hd : (e.pins.map (·.1)).Nodup) (hl : e.pins = l1 ++ (q, k) :: l2) (_hq : 1 ≤ q) :
    OldInv { e with pins := l1 ++ l2 } (P.set (q - 1) 0) (i + 1) ∧ e.oldest ≤ ({ e with pins := l1 ++ l2 } : Eps).oldest := by
  have hsub : ∀ x ∈ l1 ++ l2, x ∈ e.pins ∧ x.1 ≠ q := fun x hx => by
    rw [hl] at hd ⊢
    rw [List.map_append, List.map_cons] at hd
    obtain ⟨d1, d2, d3⟩ := List.nodup_append.1 hd
    rcases List.mem_append.1 hx with hx | hx
    · exact ⟨List.mem_append_left _ hx, fun e1 => d3 x.1 (List.mem_map.2 ⟨x, hx, rfl⟩) q (by simp) e1⟩
    · exact ⟨List.mem_append_right _ (List.mem_cons_of_mem _ hx), fun e1 => (List.nodup_cons.1 d2).1 (e1 ▸ List.mem_map.2 ⟨x, hx, rfl⟩)⟩
  have ho : e.oldest ≤ ({ e with pins := l1 ++ l2 } : Eps).oldest := minPin_ge (fun x hx => minPin_mem (hsub x hx).1) _ (oldest_le e)
  have hlen : (l1 ++ l2).length ≤ e.pins.length := by rw [hl]; simp
  refine ⟨⟨?_, ?_, ?_, ?_, Nat.le_trans h.lo ho, ?_, ?_⟩, ho⟩
  · show e.last = _; rw [h.last]; simp
  · have := h.len; simp; omega
  · have := h.pl; show (l1 ++ l2).length ≤ _; omega
  · have := h.now; show e.now ≤ _; omega
  · intro x hx
    obtain ⟨h1, h2⟩ := hsub x hx
    obtain ⟨g1, g2, g3, g4⟩ := h.in1 x h1
    refine ⟨g1, by simpa using g2, ?_, g4⟩
    rw [getD_set, if_neg (by omega)]
    exact g3
  · intro j hj hp
    simp only [List.length_set] at hj
    rw [getD_set] at hp ⊢
    by_cases hjq : q - 1 = j ∧ j < P.length
    · rw [if_pos hjq] at hp; omega
    · rw [if_neg hjq] at hp ⊢
      have h1 := h.in2 j hj hp
      rw [hl] at h1
      rcases List.mem_append.1 h1 with h1 | h1
      · exact List.mem_append_left _ h1
      · rcases List.mem_cons.1 h1 with h1 | h1
        · exfalso
          have := congrArg Prod.fst h1
          simp only at this
          omega
        · exact List.mem_append_right _ h1

theorem OldInv.unpinMiss {e : Eps} {P : List Nat} {i q : Nat} (h : OldInv e P i) (hm : ∀ x ∈ e.pins, x.1 ≠ q) (hq : 1 ≤ q) : OldInv e (P.set (q - 1) 0) (i + 1) := by
  refine ⟨?_, ?_, ?_, ?_, h.lo, ?_, ?_⟩
  · rw [h.last]; simp
  · have := h.len; simp; omega
  · have := h.pl; omega
  · have := h.now; omega
  · intro x hx
    obtain ⟨g1, g2, g3, g4⟩ := h.in1 x hx
    have := hm x hx
    refine ⟨g1, by simpa using g2, ?_, g4⟩
    rw [getD_set, if_neg (by omega)]
    exact g3
  · intro j hj hp
    simp only [List.length_set] at hj
    rw [getD_set] at hp ⊢
    by_cases hjq : q - 1 = j ∧ j < P.length
    · rw [if_pos hjq] at hp; omega
    · rw [if_neg hjq] at hp ⊢
      exact h.in2 j hj hp

theorem OldInv.advance {p q : Pool} {e e' : Eps} {P : List Nat} {i B : Nat} (h : OldInv e P i) (hi : EpInv p e B) (ha : advanced p e = some (q, e')) : OldInv e' P (i + 1) ∧ e.oldest ≤ e'.oldest := by
  obtain ⟨-, -, h1, h2, h3, h4, -⟩ := advanced_facts hi ha
  have ho : e.oldest ≤ e'.oldest := by
    unfold Eps.oldest
    rw [h2, h3]
    exact minPin_ge (fun x hx => minPin_mem hx) _ (by have := minPin_le e.pins e.now; omega)
  refine ⟨⟨by rw [h4]; exact h.last, by have := h.len; omega, by rw [h3]; have := h.pl; omega, by have := h.now; omega, by rw [h1]; exact Nat.le_trans h.lo ho, by rw [h3]; exact h.in1, by rw [h3]; exact h.in2⟩, ho⟩

theorem OldInv.collect {p : Pool} {e : Eps} {P : List Nat} {i : Nat} (h : OldInv e P i) : OldInv (collectN (e.oldest - e.lo) (p, e)).2 P (i + 1) ∧ (collectN (e.oldest - e.lo) (p, e)).2.oldest = e.oldest := by
  rw [collectN_eps]
  have hlo := h.lo
  refine ⟨⟨h.last, by have := h.len; omega, by have := h.pl; show e.pins.length ≤ _; omega, by have := h.now; show e.now ≤ _; omega, ?_, h.in1, h.in2⟩, rfl⟩
  show e.lo + (e.oldest - e.lo) ≤ e.oldest
  omega

end Go.Proofs.Ytmnklaphcjchiaa
