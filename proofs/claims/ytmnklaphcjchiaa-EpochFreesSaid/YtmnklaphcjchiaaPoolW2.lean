/-
  Walks of region.Pool: piece, Load, Store.
-/
import Derived.Test.YtmnklaphcjchiaaPoolW1
namespace Go.Proofs.Ytmnklaphcjchiaa
open Go.RowKit

def PieceIs (e : Ending) (w w' : World) (v : Value) (c : Int) : Prop := e = .returned (.tuple #[v, .int .i64 c]) ∧ Below w.heap.size w w'

def hval (h : Hnd) : Value := .agg #[.int .i64 h.region, .int .i64 h.gen, .int .i64 h.off, .int .i64 h.len]

set_option maxRecDepth 100000 in
set_option maxHeartbeats 400000 in
theorem piece_stale1 {w : World} {T : Tags} {b : Nat} {p : Pool} {L : Lay} (h : PoolRep w T b p L) (r g off n : Int) (hr : ¬ p.has r) :
    Calls Try.prog 33 #[.pointer (some ⟨b, 0, none⟩), .agg #[.int .i64 r, .int .i64 g, .int .i64 off, .int .i64 n]] w fun e w' => PieceIs e w w' (.slice none 0 0) 3 := by
  have h' := h.alloc (.cells #[.int .i64 r, .int .i64 g, .int .i64 off, .int .i64 n] 43)
  have c := land_any h' r
  rw [if_neg hr] at c
  have C := Lib.hid c
  have hlt := h.ltb
  clear h h' c hr
  go_enter Try.func33, Try.ntmps33
  go_wp2_with (go_at_call 31; refine C.out.mono ?_; rintro e w' ⟨rfl, rfl⟩)
  go_quiet (fail)
  go_wp2
  go_ret2
  exact ⟨rfl, below_drewN ((Below.refl _ _).alloc (Nat.le_refl _) _) _⟩

set_option maxRecDepth 100000 in
set_option maxHeartbeats 400000 in
theorem piece_stale2 {w : World} {T : Tags} {b : Nat} {p : Pool} {L : Lay} (h : PoolRep w T b p L) (r g off n : Int) (hr : p.has r) (hg : (p.lands r.toNat).gen ≠ g) :
    Calls Try.prog 33 #[.pointer (some ⟨b, 0, none⟩), .agg #[.int .i64 r, .int .i64 g, .int .i64 off, .int .i64 n]] w fun e w' => PieceIs e w w' (.slice none 0 0) 3 := by
  have h' := h.alloc (.cells #[.int .i64 r, .int .i64 g, .int .i64 off, .int .i64 n] 43)
  have c := land_any h' r
  rw [if_pos hr] at c
  have C := Lib.hid c
  have hlt := h.ltb
  have c1 := h.l1 r.toNat (by have := hr.1; have := hr.2.1; omega)
  have hg' : ((p.lands r.toNat).gen != g) = true := by simpa using hg
  generalize (p.lands r.toNat).gen = g0 at *
  clear h h' c hr hg
  go_enter Try.func33, Try.ntmps33
  go_wp2_with (go_at_call 31; refine C.out.mono ?_; rintro e w' ⟨rfl, rfl⟩)
  go_quiet (fail)
  go_wp2
  go_ret2
  exact ⟨rfl, below_drewN ((Below.refl _ _).alloc (Nat.le_refl _) _) _⟩

set_option maxRecDepth 100000 in
set_option maxHeartbeats 400000 in
/-- Beyond what is handed out. -/
theorem piece_arg1 {w : World} {T : Tags} {b : Nat} {p : Pool} {L : Lay} (h : PoolRep w T b p L) (r g off n : Int) (hr : p.has r) (hg : (p.lands r.toNat).gen = g) (hfm : (p.lands r.toNat).fill ≤ 4194304)
    (hn : ¬ (1 ≤ n ∧ 0 ≤ off ∧ off ≤ (p.lands r.toNat).fill ∧ n ≤ (p.lands r.toNat).fill - off)) :
    Calls Try.prog 33 #[.pointer (some ⟨b, 0, none⟩), .agg #[.int .i64 r, .int .i64 g, .int .i64 off, .int .i64 n]] w fun e w' => PieceIs e w w' (.slice none 0 0) 1 := by
  have h' := h.alloc (.cells #[.int .i64 r, .int .i64 g, .int .i64 off, .int .i64 n] 43)
  have c := land_any h' r
  rw [if_pos hr] at c
  have C := Lib.hid c
  have hlt := h.ltb
  have c1 := h.l1 r.toNat (by have := hr.1; have := hr.2.1; omega)
  have c3 := h.l3 r.toNat (by have := hr.1; have := hr.2.1; omega)
  have hg' : ((p.lands r.toNat).gen != g) = false := by simpa using hg
  rw [hg] at c1
  generalize (p.lands r.toNat).fill = fl at *
  clear h h' c hr hg hg'
  by_cases h1 : n < 1
  · have d1 : decide (n < 1) = true := by simpa using h1
    clear hn h1
    go_enter Try.func33, Try.ntmps33
    go_wp2_with (go_at_call 31; refine C.out.mono ?_; rintro e w' ⟨rfl, rfl⟩)
    go_quiet (fail)
    go_wp2
    go_quiet (fail)
    go_wp2
    go_ret2
    exact ⟨rfl, below_drewN (below_drewN ((Below.refl _ _).alloc (Nat.le_refl _) _) _) _⟩
  have d1 : decide (n < 1) = false := by simpa using h1
  by_cases h2 : off < 0
  · have d2 : decide (off < 0) = true := by simpa using h2
    clear hn h1 h2
    go_enter Try.func33, Try.ntmps33
    go_wp2_with (go_at_call 31; refine C.out.mono ?_; rintro e w' ⟨rfl, rfl⟩)
    go_quiet (fail)
    go_wp2
    go_quiet (fail)
    go_wp2
    go_ret2
    exact ⟨rfl, below_drewN (below_drewN ((Below.refl _ _).alloc (Nat.le_refl _) _) _) _⟩
  have d2 : decide (off < 0) = false := by simpa using h2
  by_cases h3 : (fl : Int) < off
  · have d3 : decide ((fl : Int) < off) = true := by simpa using h3
    clear hn h1 h2 h3
    go_enter Try.func33, Try.ntmps33
    go_wp2_with (go_at_call 31; refine C.out.mono ?_; rintro e w' ⟨rfl, rfl⟩)
    go_quiet (fail)
    go_wp2
    go_quiet (fail)
    go_wp2
    go_ret2
    exact ⟨rfl, below_drewN (below_drewN ((Below.refl _ _).alloc (Nat.le_refl _) _) _) _⟩
  have d3 : decide ((fl : Int) < off) = false := by simpa using h3
  have e4 : IntKind.i64.wrap ((fl : Int) - off) = (fl : Int) - off := IntWalk.i64_in _ (by omega)
  have d4 : decide ((fl : Int) - off < n) = true := by simp; omega
  clear hn h1 h2 h3
  go_enter Try.func33, Try.ntmps33
  go_wp2_with (go_at_call 31; refine C.out.mono ?_; rintro e w' ⟨rfl, rfl⟩)
  go_quiet (fail)
  go_wp2
  go_quiet (fail)
  go_wp2
  go_ret2
  exact ⟨rfl, below_drewN (below_drewN ((Below.refl _ _).alloc (Nat.le_refl _) _) _) _⟩

theorem emod_facts {off size : Int} (h0 : 0 ≤ off) (hs : 0 < size) : 0 ≤ off % size ∧ off % size < size ∧ 0 ≤ off / size ∧ off.tmod size = off % size ∧ off.tdiv size = off / size :=
  ⟨Int.emod_nonneg _ (by omega), Int.emod_lt_of_pos _ hs, Int.ediv_nonneg h0 (by omega), Int.tmod_eq_emod_of_nonneg h0, Int.tdiv_eq_ediv_of_nonneg h0⟩

set_option maxRecDepth 100000 in
set_option maxHeartbeats 400000 in
/-- Over a slab's end. -/
theorem piece_arg2 {w : World} {T : Tags} {b : Nat} {p : Pool} {L : Lay} (h : PoolRep w T b p L) (r g off n : Int) (hr : p.has r) (hg : (p.lands r.toNat).gen = g) (hfm : (p.lands r.toNat).fill ≤ 4194304)
    (hs0 : 0 < p.size) (hs1 : p.size ≤ 65536)
    (hn : 1 ≤ n ∧ 0 ≤ off ∧ off ≤ (p.lands r.toNat).fill ∧ n ≤ (p.lands r.toNat).fill - off) (hin : (p.size : Int) < off % p.size + n) :
    Calls Try.prog 33 #[.pointer (some ⟨b, 0, none⟩), .agg #[.int .i64 r, .int .i64 g, .int .i64 off, .int .i64 n]] w fun e w' => PieceIs e w w' (.slice none 0 0) 1 := by
  have h' := h.alloc (.cells #[.int .i64 r, .int .i64 g, .int .i64 off, .int .i64 n] 43)
  have c := land_any h' r
  rw [if_pos hr] at c
  have C := Lib.hid c
  have hlt := h.ltb
  have c0 := h.c0
  have c1 := h.l1 r.toNat (by have := hr.1; have := hr.2.1; omega)
  have c3 := h.l3 r.toNat (by have := hr.1; have := hr.2.1; omega)
  have hg' : ((p.lands r.toNat).gen != g) = false := by simpa using hg
  rw [hg] at c1
  generalize (p.lands r.toNat).fill = fl at *
  generalize p.size = size at *
  obtain ⟨h1, h2, h3, h4⟩ := hn
  have d1 : decide (n < 1) = false := by simp; omega
  have d2 : decide (off < 0) = false := by simp; omega
  have d3 : decide ((fl : Int) < off) = false := by simp; omega
  have e4 : IntKind.i64.wrap ((fl : Int) - off) = (fl : Int) - off := IntWalk.i64_in _ (by omega)
  have d4 : decide ((fl : Int) - off < n) = false := by simp; omega
  obtain ⟨m0, m1, m2, m3, m4⟩ := emod_facts (size := (size : Int)) h2 (by omega)
  have e5 : IntKind.i64.wrap (off % size + n) = off % size + n := IntWalk.i64_in _ (by omega)
  have d5 : decide ((size : Int) < off % size + n) = true := by simp; omega
  have dz : ((size : Int) == 0) = false := by simp; omega
  have dz' : ¬ ((size : Int) = 0) := by omega
  clear h h' c hr hg hg'
  go_enter Try.func33, Try.ntmps33
  go_wp2_with (go_at_call 31; refine C.out.mono ?_; rintro e w' ⟨rfl, rfl⟩)
  go_quiet (fail)
  go_wp2
  go_quiet (fail)
  go_wp2
  go_quiet (fail)
  go_wp2
  go_quiet (fail)
  go_wp2
  go_ret2
  exact ⟨rfl, below_drewN (below_drewN (below_drewN (below_drewN ((Below.refl _ _).alloc (Nat.le_refl _) _) _) _) _) _⟩

set_option maxRecDepth 100000 in
set_option maxHeartbeats 400000 in
/-- In one slab. -/
theorem piece_ok {w : World} {T : Tags} {b : Nat} {p : Pool} {L : Lay} (h : PoolRep w T b p L) (r g off n : Int) (hr : p.has r) (hg : (p.lands r.toNat).gen = g) (hfm : (p.lands r.toNat).fill ≤ 4194304)
    (hs0 : 0 < p.size) (hs1 : p.size ≤ 65536)
    (hn : 1 ≤ n ∧ 0 ≤ off ∧ off ≤ (p.lands r.toNat).fill ∧ n ≤ (p.lands r.toNat).fill - off) (hin : off % p.size + n ≤ (p.size : Int))
    (hl : (off / p.size).toNat < (p.lands r.toNat).slabs.length) (si : Nat) (hsi : (p.lands r.toNat).slabs.getD (off / p.size).toNat 0 = si) (hsn : si < p.n) :
    Calls Try.prog 33 #[.pointer (some ⟨b, 0, none⟩), .agg #[.int .i64 r, .int .i64 g, .int .i64 off, .int .i64 n]] w fun e w' =>
      PieceIs e w w' (.slice (some ⟨L.xb si, (off % p.size).toNat, none⟩) n.toNat (p.size - (off % p.size).toNat)) 0 := by
  have h' := h.alloc (.cells #[.int .i64 r, .int .i64 g, .int .i64 off, .int .i64 n] 43)
  have c := land_any h' r
  rw [if_pos hr] at c
  have C := Lib.hid c
  have hlt := h.ltb
  have hlts := h.lts
  have c0 := h.c0
  have cs := h.c1
  have csi := h.s si hsn
  unfold slabSlice at csi
  have hri : r.toNat < 256 := by have := hr.1; have := hr.2.1; omega
  have c1 := h.l1 r.toNat hri
  have c2 := h.l2 r.toNat hri
  have c3 := h.l3 r.toNat hri
  have ho := h.ls r.toNat hri
  obtain ⟨lb, lc, hlv⟩ : ∃ lb lc, L.lv r.toNat = .slice (some ⟨lb, 0, none⟩) (p.lands r.toNat).slabs.length lc := by
    rcases ho.2 with ⟨_, h0⟩ | ⟨g, cap, _, hv, _⟩
    · omega
    · exact ⟨g, cap, hv⟩
  rw [hlv] at ho c2
  have hltl : lb < w.heap.size := (ho.lt lb (by simp [Value.ownBlock])).2
  have csl : w.cell? ⟨lb, (off / p.size).toNat, none⟩ = some (.int .i64 si) := by
    rw [ho.cellAt _ (by omega), slabInts, List.getElem?_map, ← hsi]
    simp [List.getD, List.getElem?_eq_getElem hl]
  have hg' : ((p.lands r.toNat).gen != g) = false := by simpa using hg
  rw [hg] at c1
  generalize (p.lands r.toNat).fill = fl at *
  generalize p.size = size at *
  generalize (p.lands r.toNat).slabs.length = ll at *
  obtain ⟨h1, h2, h3, h4⟩ := hn
  have d1 : decide (n < 1) = false := by simp; omega
  have d2 : decide (off < 0) = false := by simp; omega
  have d3 : decide ((fl : Int) < off) = false := by simp; omega
  have e4 : IntKind.i64.wrap ((fl : Int) - off) = (fl : Int) - off := IntWalk.i64_in _ (by omega)
  have d4 : decide ((fl : Int) - off < n) = false := by simp; omega
  obtain ⟨m0, m1, m2, m3, m4⟩ := emod_facts (size := (size : Int)) h2 (by omega)
  have e5 : IntKind.i64.wrap (off % size + n) = off % size + n := IntWalk.i64_in _ (by omega)
  have d5 : decide ((size : Int) < off % size + n) = false := by simp; omega
  have m5 : off / size ≤ off := Int.ediv_le_self _ h2
  have e6 : IntKind.i64.wrap (off / size) = off / size := IntWalk.i64_in _ (by omega)
  have e7 : off / size < ll := by omega
  have dz : ((size : Int) == 0) = false := by simp; omega
  have dz' : ¬ ((size : Int) = 0) := by omega
  have el : n.toNat = (off % size + n).toNat - (off % size).toNat := by omega
  rw [el]
  clear h h' c hr hg hg' ho hsi hlv el
  go_enter Try.func33, Try.ntmps33
  go_wp2_with (go_at_call 31; refine C.out.mono ?_; rintro e w' ⟨rfl, rfl⟩)
  go_quiet (fail)
  go_wp2
  go_quiet (fail)
  go_wp2
  go_quiet (fail)
  go_wp2
  go_quiet (fail)
  go_wp2
  go_quiet (fail)
  go_wp2
  go_ret2
  exact ⟨rfl, below_drewN (below_drewN (below_drewN (below_drewN (below_drewN ((Below.refl _ _).alloc (Nat.le_refl _) _) _) _) _) _) _⟩

end Go.Proofs.Ytmnklaphcjchiaa
