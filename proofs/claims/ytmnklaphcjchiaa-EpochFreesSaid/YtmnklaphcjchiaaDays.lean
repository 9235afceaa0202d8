/-
  A row of days that came in: how it lies, and that its reading stays.
-/
import Derived.Test.YtmnklaphcjchiaaAges
import Derived.ChangeSame
import Derived.Deep.Slices
import Derived.Deep.Fields
import Derived.ChangeArms
import Derived.WideShapes
namespace Go.Proofs.Ytmnklaphcjchiaa
open Go.RowKit Go.ChangeShapes Go.WideShapes Go.Deep

/-- A row of days, as it lies. -/
def DaysAt (w : World) (ad : Option Addr) (len : Nat) : Prop :=
  ∀ i, i < len → ∃ b off, ad = some ⟨b, off, none⟩ ∧ b < w.heap.size ∧ ∃ c n y s, w.cell? ⟨b, off + i * 4, none⟩ = some (.int .i64 c) ∧ w.cell? ⟨b, off + i * 4 + 1, none⟩ = some (.int .i64 n) ∧
    w.cell? ⟨b, off + i * 4 + 2, none⟩ = some (.int .i64 y) ∧ w.cell? ⟨b, off + i * 4 + 3, none⟩ = some (.string s) ∧ s.size ≤ maxLen

theorem DaysAt.below {w w' : World} {ad : Option Addr} {len : Nat} (h : DaysAt w ad len) (hb : Below w.heap.size w w') : DaysAt w' ad len := fun i hi => by
  obtain ⟨b, off, h1, h2, c, n, y, s, h3, h4, h5, h6, h7⟩ := h i hi
  exact ⟨b, off, h1, Nat.lt_of_lt_of_le h2 hb.size, c, n, y, s, below_cell hb h3, below_cell hb h4, below_cell hb h5, below_cell hb h6, h7⟩

theorem Try.dayCells : Try.prog.cellsOf 35 = 4 := by kernel_rfl
theorem Try.stringCells : Try.prog.cellsOf 9 = 1 := by kernel_rfl
theorem Try.intCells1 : Try.prog.cellsOf 3 = 1 := by kernel_rfl

section
variable {H : Type} {enc : TypeId × Value → H} {w : World} {spare : Nat → Bool} {held : Bool}

set_option maxRecDepth 100000 in
/-- A day's four cells. -/
theorem day_of_trod {a : Addr} {n i : Nat} {cs : List Value} {x : DataW H × List MemPlace} (hsp : a.spot = none) (hc : w.cells? 0 (a.add (i * 4)) 4 = some cs) (h : DataW.trod enc Try.prog w 0 spare held n 35 cs = some x) :
    ∃ b off, some a = some ⟨b, off, none⟩ ∧ b < w.heap.size ∧ ∃ c n y s, w.cell? ⟨b, off + i * 4, none⟩ = some (.int .i64 c) ∧ w.cell? ⟨b, off + i * 4 + 1, none⟩ = some (.int .i64 n) ∧
      w.cell? ⟨b, off + i * 4 + 2, none⟩ = some (.int .i64 y) ∧ w.cell? ⟨b, off + i * 4 + 3, none⟩ = some (.string s) ∧ s.size ≤ maxLen := by
  obtain ⟨ys, m, rfl, rfl, hl, hyl, hf⟩ := DataW.trod_struct Try.underlying35 h
  obtain ⟨_, hcl, hat⟩ := World.cells?_some hc
  rw [Try.dayCells] at hl
  match cs, hl with
  | [v0, v1, v2, v3], _ =>
    have f0 : DataW.trod enc Try.prog w 0 spare held m 3 (([v0, v1, v2, v3].drop 0).take (Try.prog.cellsOf 3)) = ys[0]? := hf 0 _ rfl
    rw [Try.intCells1] at f0
    have f0 : DataW.trod enc Try.prog w 0 spare held m 3 [v0] = ys[0]? := f0
    have f1 : DataW.trod enc Try.prog w 0 spare held m 3 (([v0, v1, v2, v3].drop 1).take (Try.prog.cellsOf 3)) = ys[1]? := hf 1 _ rfl
    rw [Try.intCells1] at f1
    have f1 : DataW.trod enc Try.prog w 0 spare held m 3 [v1] = ys[1]? := f1
    have f2 : DataW.trod enc Try.prog w 0 spare held m 3 (([v0, v1, v2, v3].drop 2).take (Try.prog.cellsOf 3)) = ys[2]? := hf 2 _ rfl
    rw [Try.intCells1] at f2
    have f2 : DataW.trod enc Try.prog w 0 spare held m 3 [v2] = ys[2]? := f2
    have f3 : DataW.trod enc Try.prog w 0 spare held m 9 (([v0, v1, v2, v3].drop 3).take (Try.prog.cellsOf 9)) = ys[3]? := hf 3 _ rfl
    rw [Try.stringCells] at f3
    have f3 : DataW.trod enc Try.prog w 0 spare held m 9 [v3] = ys[3]? := f3
    have hy : ys.length = 4 := hyl
    rw [List.getElem?_eq_getElem (by omega)] at f0 f1 f2 f3
    obtain ⟨c, h0, -, -⟩ := DataW.trod_int Try.underlying3 f0
    obtain ⟨n, h1, -, -⟩ := DataW.trod_int Try.underlying3 f1
    obtain ⟨y, h2, -, -⟩ := DataW.trod_int Try.underlying3 f2
    obtain ⟨s, h3, -, hs⟩ := DataW.trod_string Try.underlying9 f3
    simp only [List.cons.injEq, and_true] at h0 h1 h2 h3
    subst h0 h1 h2 h3
    have c0 := hat 0 (by omega)
    have c1 := hat 1 (by omega)
    have c2 := hat 2 (by omega)
    have c3 := hat 3 (by omega)
    obtain ⟨b, off, spot⟩ := a
    have hspot : spot = none := hsp
    subst hspot
    rw [add_mk, add_mk] at c0 c1 c2 c3
    exact ⟨b, off, rfl, World.block_lt_of_cell? _ _ c0, c, n, y, s, by simpa using c0, c1, c2, c3, hs⟩

set_option maxRecDepth 100000 in
/-- A row of days that came in, opened. -/
theorem days_of_trod {r : Reach} {b0 : Nat} {v : Value} {d : DataW H} {ps : List MemPlace} (hv : Value.okWide Try.prog w r b0 22 v) (h : DataW.Trod enc Try.prog w 0 spare held 22 v d ps) :
    ∃ ad len cap, v = .slice ad len cap ∧ len ≤ maxLen ∧ DaysAt w ad len := by
  obtain ⟨a0, len, cap, rfl⟩ := okWide_slice Try.underlying22 hv
  obtain ⟨fuel, hf⟩ := h
  refine ⟨a0, len, cap, rfl, ?_⟩
  rcases open_slice Try.underlying22 hf with ⟨h0, -⟩ | ⟨a, len', cap', m, n, D, Pl, h0, -, hle, hm, hmm, -, hx⟩
  · simp [Value.cells] at h0
    obtain ⟨rfl, rfl, rfl⟩ := h0
    exact ⟨Nat.zero_le _, fun i hi => absurd hi (Nat.not_lt_zero i)⟩
  · simp [Value.cells] at h0
    obtain ⟨rfl, rfl, rfl⟩ := h0
    refine ⟨by omega, fun i hi => ?_⟩
    obtain ⟨cs, h1, h2⟩ := hx i (by rw [hmm]; split <;> omega)
    rw [Try.dayCells] at h1
    obtain ⟨cs0, h3, -⟩ := hx 0 (by rw [hmm]; split <;> omega)
    rw [Try.dayCells] at h3
    obtain ⟨_, hcl, hat⟩ := World.cells?_some h3
    have c0 := hat 0 (by omega)
    rw [List.getElem?_eq_getElem (by omega)] at c0
    have hsp : a.spot = none := by simpa [Addr.add] using World.cell?_spot c0
    exact day_of_trod hsp h1 h2

end

end Go.Proofs.Ytmnklaphcjchiaa
