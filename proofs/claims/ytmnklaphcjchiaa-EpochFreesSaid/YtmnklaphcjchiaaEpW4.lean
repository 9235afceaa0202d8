/-
  Walks of epoch.Epochs: Live.
-/
import Derived.Test.YtmnklaphcjchiaaEpW3
import Derived.Test.YtmnklaphcjchiaaShelf
namespace Go.Proofs.Ytmnklaphcjchiaa
open Go.RowKit
open Go.Maps (Keyed int_keyed keyOf_int_mk)

def anyElem (_ : Value) : Option (DataW Unit × List MemPlace) := some (.nil, [])

/-- The kit's word for a map, out of ours. -/
theorem MapIs.owns {w : World} {P : Program} {k : TypeId} {b : Nat} (hk : P.underlying k = some (.int .i64)) {xs : List Int} {f : Int → Value} (h : MapIs w P k b (xs.map fun x => (.int .i64 x, f x))) (hl : xs.length ≤ maxLen) :
    ∃ D : DataW Unit, w.ownsMap P k anyElem b xs.length D ∧ (intKeys D).Perm xs ∧ Maps.size D = xs.length := by
  obtain ⟨es, clock, hb, hst, he, hks⟩ := h
  have hsz : es.size = xs.length := by have := congrArg List.length he; simpa using this
  have hrd : ∀ x ∈ es.toList, ∃ i : Int, x.key = .int .i64 i ∧ Go.WideElems.rd P k anyElem x = some (.int .i64 i, .nil) := by
    intro x hx
    have hx' : pairOf x ∈ xs.map fun x => (Value.int .i64 x, f x) := he ▸ List.mem_map.2 ⟨x, hx, rfl⟩
    obtain ⟨i, _, hi⟩ := List.mem_map.1 hx'
    have hkey : x.key = .int .i64 i := (congrArg Prod.fst hi).symm
    obtain ⟨kl, hkl⟩ := hks _ hx'
    have hkl' : keyOf P k x.key = some kl := hkl
    rw [hkey] at hkl'
    obtain ⟨j, e1, e2, _⟩ := Maps.keyOf_i64 hk hkl'
    cases e1
    subst e2
    refine ⟨i, hkey, ?_⟩
    simp [Go.WideElems.rd, hkey, hkl', anyElem]
  refine ⟨.map ((es.toList.map (Go.WideElems.rg P k anyElem)).foldr DataW.insert []), ⟨es, clock, hb, ⟨by omega, hst, fun x hx => ?_⟩, by omega, rfl⟩, ?_, ?_⟩
  · obtain ⟨i, _, h2⟩ := hrd x hx; exact ⟨_, h2⟩
  · have h1 : (intKeys (DataW.map ((es.toList.map (Go.WideElems.rg P k anyElem)).foldr DataW.insert []))).Perm ((es.toList.map (Go.WideElems.rg P k anyElem)).map fun p => Go.intOf p.1) := (Go.WideShapes.sorted_perm _).map _
    refine h1.trans (List.Perm.of_eq ?_)
    have h2 : xs = (es.toList.map pairOf).map fun p => RowKit.intOf p.1 := by rw [he, List.map_map]; exact (List.map_id xs).symm
    rw [h2, List.map_map, List.map_map]
    refine List.map_congr_left (fun x hx => ?_)
    obtain ⟨i, h3, h4⟩ := hrd x hx
    simp [Go.WideElems.rg_of h4, Go.intOf, RowKit.intOf, pairOf, h3]
  · simp [Maps.size, length_sorted, hsz]

/-- slices.Sort's two contracts at this dump. -/
theorem Try.sortsA (m : Nat) : AnyZI.SortsIn Try.prog Try.sortedA_ren Fence.wide m :=
  ⟨fun blk off cap ss W hH hblk hsz => callsIn_wide.2 (AnyM.slices_Sort_int Try.sortA blk off cap ss W hH hblk hsz),
   fun p cap W => callsIn_wide.2 (AnyM.slices_Sort_int_none Try.sortA p cap W)⟩

theorem keys_call (mb : Option Nat) (w : World) : Calls Try.prog 30 #[.map mb] w fun e w' =>
    e = .returned (.func (.func 37) #[] #[.pointer (some ⟨w.heap.size, 0, none⟩)]) ∧ w' = w.alloc (.cells #[.map mb] 65) :=
  (callsIn_wide (n := 5)).1 (AnyZI.keys_in Try.keysA Fence.wide 5 trivial rfl mb w)

theorem sort_range (lo cnt : Nat) (ss : List Int) (h : ss.Perm ((List.range' lo cnt).map fun (k : Nat) => (k : Int))) : ss.mergeSort (fun x y => decide (x ≤ y)) = (List.range' lo cnt).map fun (k : Nat) => (k : Int) := by
  have tr : ∀ a b c : Int, decide (a ≤ b) = true → decide (b ≤ c) = true → decide (a ≤ c) = true := fun a b c h1 h2 => by simp only [decide_eq_true_eq] at *; omega
  have to : ∀ a b : Int, (decide (a ≤ b) || decide (b ≤ a)) = true := fun a b => by simp only [Bool.or_eq_true, decide_eq_true_eq]; omega
  refine List.Perm.eq_of_pairwise (le := fun a b => decide (a ≤ b) = true) (fun a b _ _ h1 h2 => ?_) (List.pairwise_mergeSort tr to ss) ?_ ((List.mergeSort_perm ss _).trans h)
  · simp only [decide_eq_true_eq] at h1 h2; omega
  · rw [List.pairwise_map]
    refine (List.pairwise_lt_range' (s := lo) (n := cnt)).imp (fun h1 => ?_)
    simp only [decide_eq_true_eq]; omega

def SortedPost (w : World) (lo cnt : Nat) (e : Ending) (w' : World) : Prop :=
  ∃ v, e = .returned v ∧ w'.ownsRow w.heap.size 3 1 v cnt ((List.range' lo cnt).map fun (k : Nat) => Value.int .i64 (k : Int)) ∧ (v = .slice none 0 0 ↔ cnt = 0) ∧ Below w.heap.size w w'

set_option maxHeartbeats 1000000 in
theorem sorted_call {w : World} {lm lo cnt : Nat} {eb : Nat → Nat} (h : MapIs w Try.prog 3 lm (liveList lo cnt eb)) (hc : cnt ≤ 65536) :
    Calls Try.prog 29 #[.func (.func 37) #[] #[.pointer (some ⟨w.heap.size, 0, none⟩)]] (w.alloc (.cells #[.map (some lm)] 65)) (SortedPost w lo cnt) := by
  refine (callsIn_wide (n := 5)).1 ?_
  have hlt := h.lt
  have hx : liveList lo cnt eb = ((List.range' lo cnt).map fun (k : Nat) => (k : Int)).map fun x => (.int .i64 x, .pointer (some ⟨eb x.toNat, 0, none⟩)) := by
    rw [liveList, List.map_map]; rfl
  rw [hx] at h
  obtain ⟨D, hown, hperm, hsize⟩ := h.owns Try.underlying3 (by simp [maxLen]; omega)
  simp only [List.length_map, List.length_range'] at hsize hown
  have hseq : SeqGives Fence.wide 2 Try.prog 37 #[.pointer (some ⟨w.heap.size, 0, none⟩)] encZ (fun ss => ss.Perm (intKeys D)) (Maps.size D) (w.alloc (.cells #[.map (some lm)] 65)) :=
    AnyZI.keys_gives (ρ := Try.keysA_ren) { Try.keysA with } Fence.wide _ trivial rfl (by omega) w.heap.size lm cnt D _ (by simp) (by simp) (by
      obtain ⟨es, clock, hb, Ft, hs, hD⟩ := hown
      exact ⟨es, clock, (Below.heap_alloc _ _ lm hlt).trans hb, Ft, hs, hD⟩)
  have c := AnyZI.sorted_in Try.sortedA Fence.wide 5 trivial trivial trivial trivial rfl (by omega) (Try.sortsA _) (enters_of Try.func36 (by kernel_rfl) rfl) 37 #[.pointer (some ⟨w.heap.size, 0, none⟩)] trivial (enters_of Try.func37 (by kernel_rfl) rfl) _ _ (by rw [hsize]; simp [maxLen]; omega) (by rw [hsize]; omega) _ hseq
  refine c.mono ?_
  rintro e w' ⟨v, ss, rfl, hS, hrow, hnil, hb⟩
  have hp := hS.trans hperm
  have hlen : ss.length = cnt := by have := hp.length_eq; simpa using this
  rw [sort_range lo cnt ss hp, hlen, List.map_map] at hrow
  refine ⟨v, rfl, ?_, ?_, ((Below.refl _ w).alloc (Nat.le_refl _) _).trans (hb.mono (by simp))⟩
  · obtain ⟨q1, q2⟩ := hrow
    refine ⟨q1, ?_⟩
    rcases q2 with q2 | ⟨g, cap, cur, e1, e2, e3⟩
    · exact .inl q2
    · exact .inr ⟨g, cap, cur, e1, by simp at e2; omega, e3⟩
  · rw [hnil, ← hlen]
    exact List.length_eq_zero_iff.symm

def LivePost (w : World) (e : Eps) (x : Ending) (w' : World) : Prop :=
  ∃ v, x = .returned v ∧ w'.ownsRow w.heap.size 3 1 v e.cnt ((List.range' e.lo e.cnt).map fun (k : Nat) => Value.int .i64 (k : Int)) ∧ (v = .slice none 0 0 ↔ e.cnt = 0) ∧ Below w.heap.size w w'

set_option maxRecDepth 100000 in
set_option maxHeartbeats 400000 in
theorem live_any {w : World} {T : Tags} {a : Nat} {p : Pool} {e : Eps} {E : EpLay} (h : EpRep w T a p e E) (hc : e.cnt ≤ 65536) :
    Calls Try.prog 18 #[.pointer (some ⟨a, 0, none⟩)] w (LivePost w e) := by
  have C := Lib.hid (none_at a false w h.c5)
  have c2 := h.c2
  have CS := Lib.hid (sorted_call h.live hc)
  clear h
  go_enter Try.func18, Try.ntmps18
  go_wp2_with fail
  refine C.out.mono ?_
  rintro e w' ⟨rfl, rfl⟩
  go_wp2_with fail
  refine (keys_call _ _).mono ?_
  rintro e w' ⟨rfl, rfl⟩
  go_wp2_with fail
  refine CS.out.mono ?_
  rintro e w' ⟨v, rfl, ho, hn, hb⟩
  go_wp2
  go_ret
  exact ⟨v, rfl, ho, hn, hb⟩

end Go.Proofs.Ytmnklaphcjchiaa
