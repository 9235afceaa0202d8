/-
  Walks of region.Pool: land, Make, Idle.
-/
import Derived.Test.YtmnklaphcjchiaaPoolRep
namespace Go.Proofs.Ytmnklaphcjchiaa
open Go.RowKit

theorem land_yes (b : Nat) (r : Int) (w : World) (h0 : 0 ≤ r) (h1 : r < 256) (h : w.cell? ⟨b, 3 + r.toNat * 4, none⟩ = some (.bool true)) :
    Calls Try.prog 31 #[.pointer (some ⟨b, 0, none⟩), .int .i64 r] w fun e w' => e = .returned (.pointer (some ⟨b, 3 + r.toNat * 4, none⟩)) ∧ w = w' := by
  go_enter Try.func31, Try.ntmps31
  go_wp2
  go_ret
  exact ⟨rfl, rfl⟩

theorem land_no1 (b : Nat) (r : Int) (w : World) (h0 : 0 ≤ r) (h1 : r < 256) (h : w.cell? ⟨b, 3 + r.toNat * 4, none⟩ = some (.bool false)) :
    Calls Try.prog 31 #[.pointer (some ⟨b, 0, none⟩), .int .i64 r] w fun e w' => e = .returned (.pointer none) ∧ w = w' := by
  go_enter Try.func31, Try.ntmps31
  go_wp2
  go_ret
  exact ⟨rfl, rfl⟩

theorem land_no2 (b : Nat) (r : Int) (w : World) (h0 : r < 0 ∨ 256 ≤ r) :
    Calls Try.prog 31 #[.pointer (some ⟨b, 0, none⟩), .int .i64 r] w fun e w' => e = .returned (.pointer none) ∧ w = w' := by
  rcases h0 with h0 | h0
  · go_enter Try.func31, Try.ntmps31
    go_wp2
    go_ret
    exact ⟨rfl, rfl⟩
  · have h1 : ¬ r < 0 := by omega
    go_enter Try.func31, Try.ntmps31
    go_wp2
    go_ret
    exact ⟨rfl, rfl⟩

/-- land, told by the model. -/
theorem land_any {w : World} {T : Tags} {b : Nat} {p : Pool} {L : Lay} (h : PoolRep w T b p L) (r : Int) :
    Calls Try.prog 31 #[.pointer (some ⟨b, 0, none⟩), .int .i64 r] w fun e w' => e = .returned (.pointer (if p.has r then some ⟨b, 3 + r.toNat * 4, none⟩ else none)) ∧ w = w' := by
  by_cases hr : 0 ≤ r ∧ r < 256
  · have hc := h.l0 r.toNat (by omega)
    by_cases ht : (p.lands r.toNat).there = true
    · rw [ht] at hc
      rw [if_pos ⟨hr.1, hr.2, ht⟩]
      exact land_yes b r w hr.1 hr.2 hc
    · rw [show (p.lands r.toNat).there = false by simpa using ht] at hc
      rw [if_neg (fun hh => ht hh.2.2)]
      exact land_no1 b r w hr.1 hr.2 hc
  · rw [if_neg (fun hh => hr ⟨hh.1, hh.2.1⟩)]
    exact land_no2 b r w (by omega)

set_option maxRecDepth 100000 in
set_option maxHeartbeats 400000 in
theorem make_yes (b i : Nat) (g : Int) (w : World) (hi : i < 256) (hn : ∀ j, j < i → w.cell? ⟨b, 3 + j * 4, none⟩ = some (.bool true))
    (c0 : w.cell? ⟨b, 3 + i * 4, none⟩ = some (.bool false)) (c1 : w.cell? ⟨b, 3 + i * 4 + 1, none⟩ = some (.int .i64 g)) (v2 v3 : Value)
    (c2 : w.cell? ⟨b, 3 + i * 4 + 2, none⟩ = some v2) (c3 : w.cell? ⟨b, 3 + i * 4 + 3, none⟩ = some v3) (hf : Free w b) :
    Calls Try.prog 23 #[.pointer (some ⟨b, 0, none⟩)] w fun e w' => e = .returned (.tuple #[.int .i64 i, .int .i64 0]) ∧
      w' = (((w.setCell ⟨b, 3 + i * 4, none⟩ (.bool true)).setCell ⟨b, 3 + i * 4 + 1, none⟩ (.int .i64 (wrap64 (g + 1)))).setCell ⟨b, 3 + i * 4 + 2, none⟩ (.slice none 0 0)).setCell ⟨b, 3 + i * 4 + 3, none⟩ (.int .i64 0) := by
  have f0 := hf (3 + i * 4)
  have f1 := hf (3 + i * 4 + 1)
  have f2 := hf (3 + i * 4 + 2)
  have f3 := hf (3 + i * 4 + 3)
  clear hf
  go_enter Try.func23, Try.ntmps23
  go_wp2
  go_loop [8] (fun s => ∃ k : Nat, k ≤ i ∧ s = .int .i64 k) (fun s => i + 1 - (intOf s).toNat)
  case atStart => exact ⟨0, Nat.zero_le _, rfl⟩
  case round =>
    obtain ⟨k, hk, rfl⟩ := hrel
    by_cases hlt : k < i
    · have ck := hn k hlt
      clear hn
      go_wp2
      go_round
      case rel => exact ⟨k + 1, by omega, by go_num⟩
      case measure => simp [intOf]; omega
    · obtain rfl : k = i := by omega
      clear hn
      go_wp2
      go_ret2
      exact ⟨rfl, rfl⟩

set_option maxRecDepth 100000 in
set_option maxHeartbeats 400000 in
theorem make_no (b : Nat) (w : World) (hn : ∀ j, j < 256 → w.cell? ⟨b, 3 + j * 4, none⟩ = some (.bool true)) :
    Calls Try.prog 23 #[.pointer (some ⟨b, 0, none⟩)] w fun e w' => e = .returned (.tuple #[.int .i64 0, .int .i64 5]) ∧ w = w' := by
  go_enter Try.func23, Try.ntmps23
  go_wp2
  go_loop [8] (fun s => ∃ k : Nat, k ≤ 256 ∧ s = .int .i64 k) (fun s => 256 - (intOf s).toNat)
  case atStart => exact ⟨0, Nat.zero_le _, rfl⟩
  case round =>
    obtain ⟨k, hk, rfl⟩ := hrel
    by_cases hlt : k < 256
    · have ck := hn k hlt
      clear hn
      go_wp2
      go_round
      case rel => exact ⟨k + 1, by omega, by go_num⟩
      case measure => simp [intOf]; omega
    · obtain rfl : k = 256 := by omega
      clear hn
      go_wp2
      go_ret2
      exact ⟨rfl, rfl⟩

theorem ownsRow_setCell {w : World} {base : Nat} {e : TypeId} {size : Nat} {v : Value} {n : Nat} {xs : List Value} (h : w.ownsRow base e size v n xs) {a : Addr} (ha : ∀ k, v.ownBlock = some k → k ≠ a.block) (u : Value) : (w.setCell a u).ownsRow base e size v n xs :=
  (Same.owns (S := fun k => k = a.block) ((Same.refl (fun k => k = a.block) w).then_setCell (Or.inl rfl) u) (fun k hk => ha k hk) h)

/-- One region is another: four cells of the pool's block. -/
theorem PoolRep.setLand {w : World} {T : Tags} {b : Nat} {p : Pool} {L : Lay} (h : PoolRep w T b p L) {i : Nat} (hi : i < 256) (l : Land) (v : Value)
    (hv : ∀ k, v.ownBlock = some k → T k = (5, i)) (ho : w.ownsRow 0 3 1 v l.slabs.length (slabInts l.slabs)) :
    PoolRep ((((w.setCell ⟨b, 3 + i * 4, none⟩ (.bool l.there)).setCell ⟨b, 3 + i * 4 + 1, none⟩ (.int .i64 l.gen)).setCell ⟨b, 3 + i * 4 + 2, none⟩ v).setCell ⟨b, 3 + i * 4 + 3, none⟩ (.int .i64 l.fill)) T b (p.setLand i l)
      { L with lv := fun j => if j = i then v else L.lv j } := by
  have ne5 : ∀ {k j}, T k = (5, j) → k ≠ b := fun hk => tag_ne hk h.tagb (by simp)
  have hne : ∀ {b' o : Nat} {u : Value}, (b' ≠ b ∨ (o ≠ 3 + i * 4 ∧ o ≠ 3 + i * 4 + 1 ∧ o ≠ 3 + i * 4 + 2 ∧ o ≠ 3 + i * 4 + 3)) → w.cell? ⟨b', o, none⟩ = some u →
      ((((w.setCell ⟨b, 3 + i * 4, none⟩ (.bool l.there)).setCell ⟨b, 3 + i * 4 + 1, none⟩ (.int .i64 l.gen)).setCell ⟨b, 3 + i * 4 + 2, none⟩ v).setCell ⟨b, 3 + i * 4 + 3, none⟩ (.int .i64 l.fill)).cell? ⟨b', o, none⟩ = some u := by
    intro b' o u hh hc
    refine cell_ne (cell_ne (cell_ne (cell_ne hc ?_) ?_) ?_) ?_ <;> omega
  have own : ∀ {v' : Value} {m : Nat} {xs : List Value}, (∀ k, v'.ownBlock = some k → k ≠ b) → w.ownsRow 0 3 1 v' m xs → 
      ((((w.setCell ⟨b, 3 + i * 4, none⟩ (.bool l.there)).setCell ⟨b, 3 + i * 4 + 1, none⟩ (.int .i64 l.gen)).setCell ⟨b, 3 + i * 4 + 2, none⟩ v).setCell ⟨b, 3 + i * 4 + 3, none⟩ (.int .i64 l.fill)).ownsRow 0 3 1 v' m xs := by
    intro v' m xs hk ho
    exact ownsRow_setCell (ownsRow_setCell (ownsRow_setCell (ownsRow_setCell ho hk _) hk _) hk _) hk _
  exact {
    tagb := h.tagb, tags := h.tags, tagt := h.tagt, tagx := h.tagx
    tagl := fun j hj k hk => by
      dsimp only at hk
      split at hk
      · rename_i e; subst e; exact hv k hk
      · exact h.tagl j hj k hk
    ltb := by simpa using h.ltb
    lts := by simpa using h.lts
    ltt := by simpa using h.ltt
    ltx := fun s hs => by simpa using h.ltx s hs
    fb := (((h.fb.setCell _ _).setCell _ _).setCell _ _).setCell _ _
    fs := (((h.fs.setCell _ _).setCell _ _).setCell _ _).setCell _ _
    ft := (((h.ft.setCell _ _).setCell _ _).setCell _ _).setCell _ _
    fx := fun s hs => ((((h.fx s hs).setCell _ _).setCell _ _).setCell _ _).setCell _ _
    c0 := hne (by omega) h.c0
    c1 := hne (by omega) h.c1
    c2 := hne (by omega) h.c2
    l0 := fun j hj => by
      by_cases e : j = i
      · subst e
        simp only [Pool.setLand, if_true]
        exact cell_ne (cell_ne (cell_ne (cell_eq (h.l0 j hj)) (by omega)) (by omega)) (by omega)
      · simp only [Pool.setLand, if_neg e]
        exact hne (by omega) (h.l0 j hj)
    l1 := fun j hj => by
      by_cases e : j = i
      · subst e
        simp only [Pool.setLand, if_true]
        exact cell_ne (cell_ne (cell_eq (cell_ne (h.l1 j hj) (by omega))) (by omega)) (by omega)
      · simp only [Pool.setLand, if_neg e]
        exact hne (by omega) (h.l1 j hj)
    l2 := fun j hj => by
      by_cases e : j = i
      · subst e
        simp only [if_true]
        exact cell_ne (cell_eq (cell_ne (cell_ne (h.l2 j hj) (by omega)) (by omega))) (by omega)
      · simp only [if_neg e]
        exact hne (by omega) (h.l2 j hj)
    l3 := fun j hj => by
      by_cases e : j = i
      · subst e
        simp only [Pool.setLand, if_true]
        exact cell_eq (cell_ne (cell_ne (cell_ne (h.l3 j hj) (by omega)) (by omega)) (by omega))
      · simp only [Pool.setLand, if_neg e]
        exact hne (by omega) (h.l3 j hj)
    s := fun s hs => hne (Or.inl (tag_ne h.tags h.tagb (by simp))) (h.s s hs)
    t := fun s hs => hne (Or.inl (tag_ne h.tagt h.tagb (by simp))) (h.t s hs)
    x := fun s hs j hj => hne (Or.inl (tag_ne (h.tagx s hs) h.tagb (by simp))) (h.x s hs j hj)
    ls := fun j hj => by
      by_cases e : j = i
      · subst e
        simp only [Pool.setLand, if_true]
        exact own (fun k hk => ne5 (hv k hk)) ho
      · simp only [Pool.setLand, if_neg e]
        exact own (fun k hk => ne5 (h.tagl j hj k hk)) (h.ls j hj) }

theorem same_cells (S : Nat → Prop) (w : World) (b o : Nat) (hb : S b) (v0 v1 v2 v3 : Value) :
    Same S w ((((w.setCell ⟨b, o, none⟩ v0).setCell ⟨b, o + 1, none⟩ v1).setCell ⟨b, o + 2, none⟩ v2).setCell ⟨b, o + 3, none⟩ v3) :=
  ((((Same.refl S w).then_setCell (Or.inl hb) _).then_setCell (Or.inl hb) _).then_setCell (Or.inl hb) _).then_setCell (Or.inl hb) _

/-- Make. -/
def MakePost (w : World) (T : Tags) (b : Nat) (p : Pool) (e : Ending) (w' : World) : Prop :=
  match p.make with
  | some (i, q) => e = .returned (.tuple #[.int .i64 i, .int .i64 0]) ∧ Same (PoolOwn T) w w' ∧ ∃ L', PoolRep w' T b q L'
  | none => e = .returned (.tuple #[.int .i64 0, .int .i64 5]) ∧ w = w'

theorem make_any {w : World} {T : Tags} {b : Nat} {p : Pool} {L : Lay} (h : PoolRep w T b p L) :
    Calls Try.prog 23 #[.pointer (some ⟨b, 0, none⟩)] w (MakePost w T b p) := by
  cases hm : p.idleLand with
  | some i =>
    obtain ⟨h1, h2, h3⟩ := Pool.idleLand_some hm
    refine (make_yes b i (p.lands i).gen w h1 (fun j hj => h3 j hj ▸ h.l0 j (by omega)) (h2 ▸ h.l0 i h1) (h.l1 i h1) _ _ (h.l2 i h1) (h.l3 i h1) h.fb).mono ?_
    rintro e w' ⟨rfl, rfl⟩
    unfold MakePost Pool.make
    simp only [hm]
    refine ⟨trivial, same_cells _ _ _ _ (by unfold PoolOwn; rw [h.tagb]; simp) _ _ _ _, _, h.setLand h1 { there := true, gen := wrap64 ((p.lands i).gen + 1), slabs := [], fill := 0 } (.slice none 0 0) (by simp [Value.ownBlock]) (World.ownsRow_nil _ _ _ _)⟩
  | none =>
    refine (make_no b w (fun j hj => Pool.idleLand_none hm j hj ▸ h.l0 j hj)).mono ?_
    rintro e w' ⟨rfl, rfl⟩
    unfold MakePost Pool.make
    simp only [hm]
    exact ⟨trivial, trivial⟩

set_option maxRecDepth 100000 in
set_option maxHeartbeats 400000 in
/-- Idle. -/
theorem idle_any {w : World} {T : Tags} {b : Nat} {p : Pool} {L : Lay} (h : PoolRep w T b p L) (hn : p.n ≤ 4096) :
    Calls Try.prog 20 #[.pointer (some ⟨b, 0, none⟩)] w fun e w' => e = .returned (.int .i64 p.idle) ∧ w = w' := by
  have c2 := h.c2
  have ht := h.t
  have hlen : ∀ k, ((List.range k).filter fun s => !(p.taken s)).length ≤ k := fun k => by
    have := List.length_filter_le (fun s => !(p.taken s)) (List.range k); simpa using this
  have hsnoc : ∀ k, ((List.range (k + 1)).filter fun s => !(p.taken s)).length = ((List.range k).filter fun s => !(p.taken s)).length + if p.taken k then 0 else 1 := fun k => by
    rw [List.range_succ, List.filter_append]
    cases hk : p.taken k <;> simp [hk]
  clear h
  unfold Pool.idle
  generalize hC : (fun k => ((List.range k).filter fun s => !(p.taken s)).length) = C at *
  have hC' : ∀ k, ((List.range k).filter fun s => !(p.taken s)).length = C k := fun k => by rw [← hC]
  simp only [hC'] at hlen hsnoc ⊢
  have h0 : C 0 = 0 := by rw [← hC]; simp
  clear hC hC'
  have H0 := Lib.hid h0
  have HS := Lib.hid hsnoc
  have HL := Lib.hid hlen
  have HT := Lib.hid ht
  clear h0 hsnoc hlen ht
  go_enter Try.func20, Try.ntmps20
  go_wp2
  go_loop [3, 13] (fun c s => ∃ k : Nat, k ≤ p.n ∧ s = .int .i64 k ∧ c = .int .i64 (C k)) (fun _ s => p.n - (intOf s).toNat)
  case atStart => exact ⟨0, Nat.zero_le _, rfl, by rw [H0.out]; rfl⟩
  case round =>
    obtain ⟨k, hk, rfl, rfl⟩ := hrel
    have hl := HL.out k
    by_cases hlt : k < p.n
    · have ck := HT.out k hlt
      have hs := HS.out k
      cases htk : p.taken k
      all_goals
        rw [htk] at ck hs
        have HS' := Lib.hid hs
        clear htk hs
        go_wp2
        go_round
        case rel => exact ⟨k + 1, by omega, by go_num, by rw [HS'.out]; simp⟩
        case measure => simp [intOf]; omega
    · obtain rfl : k = p.n := by omega
      go_wp2
      go_ret
      exact ⟨rfl, rfl⟩

end Go.Proofs.Ytmnklaphcjchiaa
