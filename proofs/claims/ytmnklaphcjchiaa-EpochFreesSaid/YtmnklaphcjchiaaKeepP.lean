/-
  Plain facts for EpochKeeps: the law's own gazes, notes and texts beside the model.
-/
import Derived.Test.YtmnklaphcjchiaaDays
import Derived.Test.YtmnklaphcjchiaaOldP
namespace Go.Proofs.Ytmnklaphcjchiaa
open Go.RowKit

/-- A gaze: the first note that it may look at, and whether it is there. Its pin is its place, from 1 on. -/
structure Gz where
  frm : Nat
  there : Bool

/-- A text's bytes. -/
def bytesOf (s : ByteArray) : List Int := s.data.toList.map fun b => (b.toNat : Int)

theorem bytesOf_length (s : ByteArray) : (bytesOf s).length = s.size := by simp [bytesOf]

structure KeepInv (p : Pool) (e : Eps) (G : List Gz) (N : List Note) (X : List ByteArray) (i : Nat) : Prop where
  last : e.last = G.length
  len : G.length ≤ i
  nlen : N.length ≤ i
  pl : e.pins.length ≤ i
  now : e.now ≤ i + 1
  xl : X.length = N.length
  in1 : ∀ x ∈ e.pins, ∃ k f, x.1 = k + 1 ∧ G[k]? = some ⟨f, true⟩
  in2 : ∀ (k : Nat) f, G[k]? = some ⟨f, true⟩ → ∃ t, (k + 1, t) ∈ e.pins ∧ ∀ (j : Nat) n, N[j]? = some n → f ≤ j → (t : Int) ≤ n.epoch
  held : ∀ (k : Nat) f, G[k]? = some ⟨f, true⟩ → ∀ (j : Nat) n x, f ≤ j → N[j]? = some n → X[j]? = some x → Held p e n (bytesOf x)
  frm : ∀ (k : Nat) g, G[k]? = some g → g.frm ≤ N.length
  nwf : ∀ n ∈ N, n.WF
  size : p.size = 512

section
variable {p q : Pool} {e e' : Eps} {G : List Gz} {N : List Note} {X : List ByteArray} {i B : Nat}

theorem KeepInv.mono (h : KeepInv p e G N X i) : KeepInv p e G N X (i + 1) :=
  ⟨h.last, by have := h.len; omega, by have := h.nlen; omega, by have := h.pl; omega, by have := h.now; omega, h.xl, h.in1, h.in2, h.held, h.frm, h.nwf, h.size⟩

theorem KeepInv.start : KeepInv (pool1 512 200) eps1 [] [] [] 0 where
  last := rfl
  len := Nat.le_refl _
  nlen := Nat.le_refl _
  pl := Nat.le_refl _
  now := Nat.le_refl _
  xl := rfl
  in1 := fun x hx => by cases hx
  in2 := fun k f h => by simp at h
  held := fun k f h => by simp at h
  frm := fun k f h => by simp at h
  nwf := fun n hn => by cases hn
  size := rfl

theorem get?_snoc {α : Type} {l : List α} {a b : α} {k : Nat} (h : (l ++ [a])[k]? = some b) : (k < l.length ∧ l[k]? = some b) ∨ (k = l.length ∧ b = a) := by
  by_cases hk : k < l.length
  · rw [List.getElem?_append_left hk] at h; exact .inl ⟨hk, h⟩
  · rw [List.getElem?_append_right (by omega)] at h
    have h1 := (List.getElem?_eq_some_iff.1 h).1
    simp at h1
    have hk' : k = l.length := by omega
    subst hk'
    simp at h
    exact .inr ⟨rfl, h.symm⟩

theorem KeepInv.pin (h : KeepInv p e G N X i) : KeepInv p (pin1 e) (G ++ [⟨N.length, true⟩]) N X (i + 1) where
  last := by show e.last + 1 = _; rw [h.last]; simp
  len := by have := h.len; simp; omega
  nlen := by have := h.nlen; omega
  pl := by have := h.pl; show (e.pins ++ [_]).length ≤ _; simp; omega
  now := by have := h.now; show e.now ≤ _; omega
  xl := h.xl
  in1 := fun x hx => by
    rcases List.mem_append.1 (show x ∈ e.pins ++ [(e.last + 1, e.now)] from hx) with hx | hx
    · obtain ⟨k, f, h1, h2⟩ := h.in1 x hx
      have := (List.getElem?_eq_some_iff.1 h2).1
      exact ⟨k, f, h1, by rw [List.getElem?_append_left this]; exact h2⟩
    · simp only [List.mem_singleton] at hx
      subst hx
      exact ⟨G.length, N.length, by show e.last + 1 = _; rw [h.last], by simp⟩
  in2 := fun k f hk => by
    rcases get?_snoc hk with ⟨-, hk⟩ | ⟨rfl, hk2⟩
    · obtain ⟨t, h1, h2⟩ := h.in2 k f hk
      exact ⟨t, List.mem_append_left _ h1, h2⟩
    · obtain rfl : f = N.length := congrArg Gz.frm hk2
      refine ⟨e.now, List.mem_append_right _ (by rw [h.last]; simp), fun j n hj hle => ?_⟩
      have := (List.getElem?_eq_some_iff.1 hj).1
      omega
  held := fun k f hk j n x hj hn hx => by
    rcases get?_snoc hk with ⟨-, hk⟩ | ⟨rfl, hk2⟩
    · have := h.held k f hk j n x hj hn hx
      exact ⟨this.wf, this.live, this.piece⟩
    · obtain rfl : f = N.length := congrArg Gz.frm hk2
      have := (List.getElem?_eq_some_iff.1 hn).1
      omega
  frm := fun k g hk => by
    rcases get?_snoc hk with ⟨-, hk⟩ | ⟨rfl, rfl⟩
    · exact h.frm k g hk
    · exact Nat.le_refl _
  nwf := h.nwf
  size := h.size

theorem get?_set2 {α : Type} {l : List α} {a b : α} {q k : Nat} (h : (l.set q a)[k]? = some b) : (q = k ∧ b = a) ∨ (q ≠ k ∧ l[k]? = some b) := by
  rw [List.getElem?_set] at h
  by_cases hq : q = k
  · subst hq
    simp only [if_true] at h
    split at h
    · exact .inl ⟨rfl, (Option.some.inj h).symm⟩
    · cases h
  · rw [if_neg hq] at h
    exact .inr ⟨hq, h⟩

theorem KeepInv.unpin {k f t : Nat} {l1 l2 : List (Nat × Nat)} (h : KeepInv p e G N X i) (hd : (e.pins.map (·.1)).Nodup) (hk : G[k]? = some ⟨f, true⟩) (hl : e.pins = l1 ++ (k + 1, t) :: l2) :
    KeepInv p { e with pins := l1 ++ l2 } (G.set k ⟨f, false⟩) N X (i + 1) := by
  have hsub : ∀ x ∈ l1 ++ l2, x ∈ e.pins ∧ x.1 ≠ k + 1 := fun x hx => by
    rw [hl] at hd ⊢
    rw [List.map_append, List.map_cons] at hd
    obtain ⟨d1, d2, d3⟩ := List.nodup_append.1 hd
    rcases List.mem_append.1 hx with hx | hx
    · exact ⟨List.mem_append_left _ hx, fun e1 => d3 x.1 (List.mem_map.2 ⟨x, hx, rfl⟩) (k + 1) (by simp) e1⟩
    · exact ⟨List.mem_append_right _ (List.mem_cons_of_mem _ hx), fun e1 => (List.nodup_cons.1 d2).1 (e1 ▸ List.mem_map.2 ⟨x, hx, rfl⟩)⟩
  have hlen : (l1 ++ l2).length ≤ e.pins.length := by rw [hl]; simp
  exact {
    last := by show e.last = _; rw [h.last]; simp
    len := by have := h.len; simp; omega
    nlen := by have := h.nlen; omega
    pl := by have := h.pl; show (l1 ++ l2).length ≤ _; omega
    now := by have := h.now; show e.now ≤ _; omega
    xl := h.xl
    in1 := fun x hx => by
      obtain ⟨h1, h2⟩ := hsub x hx
      obtain ⟨k', f', g1, g2⟩ := h.in1 x h1
      exact ⟨k', f', g1, by rw [List.getElem?_set, if_neg (by omega)]; exact g2⟩
    in2 := fun k' f' hk' => by
      rcases get?_set2 hk' with ⟨rfl, h1⟩ | ⟨h1, h2⟩
      · simp at h1
      · obtain ⟨t', g1, g2⟩ := h.in2 k' f' h2
        refine ⟨t', ?_, g2⟩
        rw [hl] at g1
        rcases List.mem_append.1 g1 with g1 | g1
        · exact List.mem_append_left _ g1
        · rcases List.mem_cons.1 g1 with g1 | g1
          · have := congrArg Prod.fst g1
            simp only at this
            omega
          · exact List.mem_append_right _ g1
    held := fun k' f' hk' j n x hj hn hx => by
      rcases get?_set2 hk' with ⟨rfl, h1⟩ | ⟨h1, h2⟩
      · simp at h1
      · have := h.held k' f' h2 j n x hj hn hx
        exact ⟨this.wf, this.live, this.piece⟩
    frm := fun k' g hk' => by
      rcases get?_set2 hk' with ⟨rfl, h1⟩ | ⟨h1, h2⟩
      · subst h1; exact h.frm k ⟨f, true⟩ hk
      · exact h.frm k' g h2
    nwf := h.nwf
    size := h.size }

theorem KeepInv.advance (h : KeepInv p e G N X i) (hi : EpInv p e B) (ha : advanced p e = some (q, e')) : KeepInv q e' G N X (i + 1) := by
  obtain ⟨-, hk, h1, h2, h3, h4, hz, -⟩ := advanced_facts hi ha
  exact {
    last := by rw [h4]; exact h.last
    len := by have := h.len; omega
    nlen := by have := h.nlen; omega
    pl := by rw [h3]; have := h.pl; omega
    now := by have := h.now; omega
    xl := h.xl
    in1 := by rw [h3]; exact h.in1
    in2 := by rw [h3]; exact h.in2
    held := fun k f hk' j n x hj hn hx => hk _ _ (h.held k f hk' j n x hj hn hx)
    frm := h.frm
    nwf := h.nwf
    size := hz.trans h.size }

theorem KeepInv.collect (h : KeepInv p e G N X i) (hi : EpInv p e B) : KeepInv (collectN (e.oldest - e.lo) (p, e)).1 (collectN (e.oldest - e.lo) (p, e)).2 G N X (i + 1) := by
  have hle := hi.le
  have hol := oldest_le e
  obtain ⟨-, hk, -, hz, -⟩ := collectN_facts hi (e.oldest - e.lo) (by omega)
  have he := collectN_eps (e.oldest - e.lo) p e
  exact {
    last := by rw [he]; exact h.last
    len := by have := h.len; omega
    nlen := by have := h.nlen; omega
    pl := by rw [he]; have := h.pl; show e.pins.length ≤ _; omega
    now := by rw [he]; have := h.now; show e.now ≤ _; omega
    xl := h.xl
    in1 := by rw [he]; exact h.in1
    in2 := by rw [he]; exact h.in2
    held := fun k f hk' j n x hj hn hx => by
      have hh := h.held k f hk' j n x hj hn hx
      refine hk _ _ hh ?_
      obtain ⟨t, g1, g2⟩ := h.in2 k f hk'
      have g3 := g2 j n hn hj
      have g4 := minPin_mem (m := e.now) g1
      have g5 : e.oldest ≤ t := g4
      obtain ⟨k', l1, l2, -⟩ := hh.live
      omega
    frm := h.frm
    nwf := h.nwf
    size := hz.trans h.size }

theorem KeepInv.retire (h : KeepInv p e G N X i) (hi : EpInv p e B) (hn : e.now < 4611686018427387904) {s : ByteArray} (hx0 : 1 ≤ s.size) (hx1 : s.size ≤ p.size) {n : Note} (hr : retired p e (bytesOf s) = some (n, q, e')) :
    KeepInv q e' G (N ++ [n]) (X ++ [s]) (i + 1) := by
  obtain ⟨-, hh, hk, hne, hlo, hnow, hpins, hlast, hz, -⟩ := retired_facts hi hn (by rw [bytesOf_length]; exact hx0) (by rw [bytesOf_length]; exact hx1) hr
  exact {
    last := by rw [hlast]; exact h.last
    len := by have := h.len; omega
    nlen := by have := h.nlen; simp; omega
    pl := by rw [hpins]; have := h.pl; omega
    now := by rw [hnow]; have := h.now; omega
    xl := by simp [h.xl]
    in1 := by rw [hpins]; exact h.in1
    in2 := fun k f hk' => by
      obtain ⟨t, g1, g2⟩ := h.in2 k f hk'
      refine ⟨t, by rw [hpins]; exact g1, fun j m hj hle => ?_⟩
      rcases get?_snoc hj with ⟨-, hj⟩ | ⟨-, rfl⟩
      · exact g2 j m hj hle
      · rw [hne]
        have := (hi.wf.pins _ g1).2
        simp only at this
        omega
    held := fun k f hk' j m x hj hm hx => by
      rcases get?_snoc hm with ⟨hl, hm⟩ | ⟨hl, rfl⟩
      · rw [List.getElem?_append_left (by rw [h.xl]; exact hl)] at hx
        exact hk _ _ (h.held k f hk' j m x hj hm hx)
      · rcases get?_snoc hx with ⟨hl', -⟩ | ⟨-, rfl⟩
        · rw [h.xl] at hl'; omega
        · exact hh
    frm := fun k g hk' => by have := h.frm k g hk'; simp; omega
    nwf := fun m hm => by
      rcases List.mem_append.1 hm with hm | hm
      · exact h.nwf m hm
      · simp only [List.mem_singleton] at hm
        subst hm
        exact hh.wf
    size := hz.trans h.size }

end

end Go.Proofs.Ytmnklaphcjchiaa
