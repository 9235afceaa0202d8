/-
  Maps told by the plain list of their entries (keys and values as they are), with laws at single operations. Any program.
-/
import Derived.Test.YtmnklaphcjchiaaFrame
import Derived.Maps.RangeWalk
import Derived.Maps.OwnSet
namespace Go.Proofs.Ytmnklaphcjchiaa
open Go.RowKit
open Go.ChangeMaps Go.MapKept
open Go.Maps (Keyed)

def pairOf (e : MapEntry) : Value × Value := (e.key, e.val)

/-- Block b is a map with the entries l. -/
def MapIs (w : World) (P : Program) (k : TypeId) (b : Nat) (l : List (Value × Value)) : Prop :=
  ∃ es clock, w.heap[b]? = some (.map es clock) ∧ Stamped es clock ∧ es.toList.map pairOf = l ∧ ∀ p ∈ l, ∃ kl, keyOf P k p.1 = some kl

section
variable {P : Program} {k e t : TypeId} {w : World} {b : Nat} {l : List (Value × Value)}

theorem MapIs.lt (h : MapIs w P k b l) : b < w.heap.size := by
  obtain ⟨es, clock, hb, _⟩ := h
  exact (Array.getElem?_eq_some_iff.1 hb).1

theorem MapIs.same {w' : World} {S : Nat → Prop} (h : MapIs w P k b l) (hs : Same S w w') (hS : ¬ S b) : MapIs w' P k b l := by
  obtain ⟨es, clock, hb, rest⟩ := h
  exact ⟨es, clock, hs.obj hS hb, rest⟩

theorem MapIs.made (w : World) (P : Program) (k : TypeId) : MapIs (w.alloc (.map #[] 0)) P k w.heap.size [] :=
  ⟨#[], 0, heap_alloc_new w _, stamped_empty 0, by simp, by simp⟩

theorem MapIs.of_heap {w' : World} (h : MapIs w P k b l) {b' : Nat} (hb : w'.heap[b']? = w.heap[b]?) : MapIs w' P k b' l := by
  obtain ⟨es, clock, hb0, rest⟩ := h
  exact ⟨es, clock, hb.trans hb0, rest⟩

theorem MapIs.nodup (h : MapIs w P k b l) : (l.map (·.1)).Nodup := by
  obtain ⟨es, clock, _, hst, rfl, _⟩ := h
  have := hst.2.2
  rw [List.map_map]
  exact this

theorem MapIs.keys (h : MapIs w P k b l) : ∀ p ∈ l, ∃ kl, keyOf P k p.1 = some kl := h.choose_spec.choose_spec.2.2.2

theorem nodup_place {α : Type} : ∀ {l : List α}, l.Nodup → ∀ {i j : Nat} {x : α}, l[i]? = some x → l[j]? = some x → i = j
  | [], _, i, j, x, h, _ => by simp at h
  | a :: l, hn, 0, 0, x, _, _ => rfl
  | a :: l, hn, 0, j + 1, x, h1, h2 => by
    simp only [List.getElem?_cons_zero, Option.some.injEq, List.getElem?_cons_succ] at h1 h2
    subst h1
    exact absurd (List.mem_of_getElem? h2) (List.nodup_cons.1 hn).1
  | a :: l, hn, i + 1, 0, x, h1, h2 => by
    simp only [List.getElem?_cons_zero, Option.some.injEq, List.getElem?_cons_succ] at h1 h2
    subst h2
    exact absurd (List.mem_of_getElem? h1) (List.nodup_cons.1 hn).1
  | a :: l, hn, i + 1, j + 1, x, h1, h2 => by
    simp only [List.getElem?_cons_succ] at h1 h2
    rw [nodup_place (List.nodup_cons.1 hn).2 h1 h2]

theorem keyed_es {es : Array MapEntry} (hk : ∀ p ∈ es.toList.map pairOf, ∃ kl, keyOf P k p.1 = some kl) : ∀ x ∈ es.toList, ∃ kl, keyOf P k x.key = some kl := fun x hx =>
  hk (pairOf x) (List.mem_map.2 ⟨x, hx, rfl⟩)

/-- 'm[k]', 'v, ok := m[k]': there. -/
theorem MapIs.look_some (h : MapIs w P k b l) (K : Keyed P k) (ht : P.underlying t = some (.map k e)) {key v : Value} {kl : Lit} (hkey : keyOf P k key = some kl) (hm : (key, v) ∈ l) (c : Bool) :
    (Instr.lookup t (.map (some b)) key c).run P w = .ok (if c then .tuple #[v, .bool true] else v) w := by
  obtain ⟨es, clock, hb, hst, rfl, hk⟩ := h
  obtain ⟨x, hx, hxe⟩ := List.mem_map.1 hm
  rcases K.find w hkey es.toList (keyed_es hk) with ⟨h1, h2⟩ | ⟨j, e0, h1, h2, h3⟩
  · exact absurd (congrArg Prod.fst hxe) (h2 x hx)
  · have hst' := ((stamped_iff es clock).1 hst).2.2
    have : e0 = x := Go.entry_eq_of_key hst' (List.mem_of_getElem? h2) hx (by rw [h3]; exact (congrArg Prod.fst hxe).symm)
    subst this
    have hv : e0.val = v := congrArg Prod.snd hxe
    subst hv
    simp [Instr.lookup, run_underlying ht, MapKept.run_getObj_map hb, K.check w _ hkey, h1, Result.andThen]

/-- .. not there. -/
theorem MapIs.look_none (h : MapIs w P k b l) (K : Keyed P k) (ht : P.underlying t = some (.map k e)) {key z : Value} (hz : (zeroValue e).run P w = .ok z w) {kl : Lit} (hkey : keyOf P k key = some kl) (hm : ∀ p ∈ l, p.1 ≠ key) (c : Bool) :
    (Instr.lookup t (.map (some b)) key c).run P w = .ok (if c then .tuple #[z, .bool false] else z) w := by
  obtain ⟨es, clock, hb, hst, rfl, hk⟩ := h
  rcases K.find w hkey es.toList (keyed_es hk) with ⟨h1, h2⟩ | ⟨j, e0, h1, h2, h3⟩
  · simp [Instr.lookup, run_underlying ht, MapKept.run_getObj_map hb, K.check w _ hkey, h1, hz, Result.andThen]
  · exact absurd h3 (hm (pairOf e0) (List.mem_map.2 ⟨e0, List.mem_of_getElem? h2, rfl⟩))

theorem grown_setBlock {es : Array MapEntry} {clock : Nat} (hb : w.heap[b]? = some (.map es clock)) (o : Obj) : w.grownBy (setBlock w b o) (some b) :=
  ⟨rfl, rfl, rfl, by simp [setBlock], fun i _ hi => heap_setBlock_other hb _ (fun e => hi (by rw [e]))⟩

/-- 'm[k] = v', k new. -/
theorem MapIs.put_new (h : MapIs w P k b l) (K : Keyed P k) (ht : P.underlying t = some (.map k e)) {key val : Value} {kl : Lit} (hkey : keyOf P k key = some kl) (hm : ∀ p ∈ l, p.1 ≠ key) :
    ∃ w', (Instr.mapUpdate t (.map (some b)) key val).run P w = .ok () w' ∧ MapIs w' P k b (l ++ [(key, val)]) ∧ w.grownBy w' (some b) ∧ w'.heap.size = w.heap.size := by
  obtain ⟨es, clock, hb, hst, rfl, hk⟩ := h
  rcases K.find w hkey es.toList (keyed_es hk) with ⟨h1, h2⟩ | ⟨j, e0, h1, h2, h3⟩
  · refine ⟨setBlock w b (.map (es.push ⟨key, val, clock⟩) (clock + 1)), ?_, ⟨_, _, heap_setBlock_same hb _, stamped_push hst h2, ?_, ?_⟩, grown_setBlock hb _, by simp [setBlock]⟩
    · simp [Instr.mapUpdate, run_underlying ht, MapKept.run_getObj_map hb, K.check w false hkey, h1, MapKept.run_setObj_map _ hb, Result.andThen, setBlock]
    · simp [pairOf]
    · intro p hp
      rcases List.mem_append.1 hp with hp | hp
      · exact hk p hp
      · simp only [List.mem_singleton] at hp; subst hp; exact ⟨kl, hkey⟩
  · exact absurd h3 (hm (pairOf e0) (List.mem_map.2 ⟨e0, List.mem_of_getElem? h2, rfl⟩))

/-- 'm[k] = v', k there. -/
theorem MapIs.put_old {l1 l2 : List (Value × Value)} {u : Value} {key val : Value} (h : MapIs w P k b (l1 ++ (key, u) :: l2)) (K : Keyed P k) (ht : P.underlying t = some (.map k e)) {kl : Lit} (hkey : keyOf P k key = some kl) :
    ∃ w', (Instr.mapUpdate t (.map (some b)) key val).run P w = .ok () w' ∧ MapIs w' P k b (l1 ++ (key, val) :: l2) ∧ w.grownBy w' (some b) ∧ w'.heap.size = w.heap.size := by
  have hnd := h.nodup
  obtain ⟨es, clock, hb, hst, hl, hk⟩ := h
  rw [← hl] at hk
  rcases K.find w hkey es.toList (keyed_es hk) with ⟨h1, h2⟩ | ⟨j, e0, h1, h2, h3⟩
  · have hm : (key, u) ∈ es.toList.map pairOf := by rw [hl]; simp
    obtain ⟨x, hx, hxe⟩ := List.mem_map.1 hm
    exact absurd (congrArg Prod.fst hxe) (h2 x hx)
  · have hj : es[j]? = some e0 := by simpa using h2
    have hlist : (es.modify j (fun e' => { e' with key := key, val := val })).toList = es.toList.set j { e0 with key := key, val := val } := by rw [Array.toList_modify, modify_eq_set _ _ _ _ h2]
    have hkeyf : ∀ e', es[j]? = some e' → ({ e' with key := key, val := val } : MapEntry).key = e'.key := fun e' he' => by rw [hj] at he'; cases he'; exact h3.symm
    have hjl : j = l1.length := by
      have g1 : (es.toList.map pairOf)[j]? = some (key, e0.val) := by rw [List.getElem?_map, h2]; simp [pairOf, h3]
      rw [hl] at g1
      have g2 : ((l1 ++ (key, u) :: l2).map (·.1))[j]? = some key := by rw [List.getElem?_map, g1]; rfl
      have g3 : ((l1 ++ (key, u) :: l2).map (·.1))[l1.length]? = some key := by simp
      exact nodup_place hnd g2 g3
    refine ⟨setBlock w b (.map (es.modify j (fun e' => { e' with key := key, val := val })) clock), ?_, ⟨_, _, heap_setBlock_same hb _, stamped_modify hst _ _ (fun _ _ => rfl) (fun e' _ he' => hkeyf e' he'), ?_, ?_⟩, grown_setBlock hb _, by simp [setBlock]⟩
    · simp [Instr.mapUpdate, run_underlying ht, MapKept.run_getObj_map hb, K.check w false hkey, h1, hj, h3, K.stays w hkey, MapKept.run_setObj_map _ hb, Result.andThen, setBlock]
    · rw [hlist, List.map_set, hl, hjl]
      simp [pairOf]
    · intro p hp
      rw [hl] at hk
      rcases List.mem_append.1 hp with hp | hp
      · exact hk p (List.mem_append_left _ hp)
      · rcases List.mem_cons.1 hp with rfl | hp
        · exact ⟨kl, hkey⟩
        · exact hk p (List.mem_append_right _ (List.mem_cons_of_mem _ hp))

/-- 'delete(m, k)', k there. -/
theorem MapIs.del {l1 l2 : List (Value × Value)} {u : Value} {key : Value} (h : MapIs w P k b (l1 ++ (key, u) :: l2)) (K : Keyed P k) (ht : P.underlying t = some (.map k e)) {kl : Lit} (hkey : keyOf P k key = some kl) :
    ∃ w', (∀ ty, (Builtin.delete_ #[t, k] ty #[.map (some b), key]).run P w = .ok (.tuple #[]) w') ∧ MapIs w' P k b (l1 ++ l2) ∧ w.grownBy w' (some b) ∧ w'.heap.size = w.heap.size := by
  have hnd := h.nodup
  obtain ⟨es, clock, hb, hst, hl, hk⟩ := h
  rw [← hl] at hk
  rcases K.find w hkey es.toList (keyed_es hk) with ⟨h1, h2⟩ | ⟨j, e0, h1, h2, h3⟩
  · have hm : (key, u) ∈ es.toList.map pairOf := by rw [hl]; simp
    obtain ⟨x, hx, hxe⟩ := List.mem_map.1 hm
    exact absurd (congrArg Prod.fst hxe) (h2 x hx)
  · have hjs : j < es.size := by simpa using (List.getElem?_eq_some_iff.1 h2).1
    have hsub : (es.eraseIdxIfInBounds j).toList = es.toList.eraseIdx j := by
      unfold Array.eraseIdxIfInBounds
      rw [dif_pos hjs]
      simp
    have hjl : j = l1.length := by
      have g1 : (es.toList.map pairOf)[j]? = some (key, e0.val) := by rw [List.getElem?_map, h2]; simp [pairOf, h3]
      rw [hl] at g1
      have g2 : ((l1 ++ (key, u) :: l2).map (·.1))[j]? = some key := by rw [List.getElem?_map, g1]; rfl
      have g3 : ((l1 ++ (key, u) :: l2).map (·.1))[l1.length]? = some key := by simp
      exact nodup_place hnd g2 g3
    refine ⟨setBlock w b (.map (es.eraseIdxIfInBounds j) clock), ?_, ⟨_, _, heap_setBlock_same hb _, stamped_erase hst j, ?_, ?_⟩, grown_setBlock hb _, by simp [setBlock]⟩
    · intro ty
      simp [Builtin.delete_, run_underlying ht, MapKept.run_getObj_map hb, K.check w _ hkey, h1, MapKept.run_setObj_map _ hb, Result.andThen, setBlock]
    · rw [hsub, map_eraseIdx, hl, hjl, List.eraseIdx_append_of_length_le (Nat.le_refl _)]
      simp
    · intro p hp
      rw [hl] at hk
      rcases List.mem_append.1 hp with hp | hp
      · exact hk p (List.mem_append_left _ hp)
      · exact hk p (List.mem_append_right _ (List.mem_cons_of_mem _ hp))

theorem MapIs.len (h : MapIs w P k b l) (ht : P.underlying t = some (.map k e)) (ty : TypeId) : (Builtin.len_ #[t] ty #[.map (some b)]).run P w = .ok (.int .i64 l.length) w := by
  obtain ⟨es, clock, hb, _, rfl, _⟩ := h
  simp [Builtin.len_, run_underlying ht, MapKept.run_getObj_map hb, goInt]

/-- A range over map b under way, by the iterator in block r; rem: what is still to come. -/
def RangeIs (w : World) (P : Program) (k : TypeId) (b r : Nat) (l rem : List (Value × Value)) : Prop :=
  ∃ es clock seen, w.heap[b]? = some (.map es clock) ∧ Stamped es clock ∧ es.toList.map pairOf = l ∧ (∀ p ∈ l, ∃ kl, keyOf P k p.1 = some kl) ∧
    w.heap[r]? = some (.mapIter (some b) clock seen clock) ∧ (leftOf es seen).toList.map pairOf = rem

theorem RangeIs.map {r : Nat} {rem : List (Value × Value)} (h : RangeIs w P k b r l rem) : MapIs w P k b l := by
  obtain ⟨es, clock, seen, h1, h2, h3, h4, _⟩ := h
  exact ⟨es, clock, h1, h2, h3, h4⟩

theorem RangeIs.same {w' : World} {S : Nat → Prop} {r : Nat} {rem : List (Value × Value)} (h : RangeIs w P k b r l rem) (hs : Same S w w') (hS : ¬ S b) (hr : ¬ S r) : RangeIs w' P k b r l rem := by
  obtain ⟨es, clock, seen, h1, h2, h3, h4, h5, h6⟩ := h
  exact ⟨es, clock, seen, hs.obj hS h1, h2, h3, h4, hs.obj hr h5, h6⟩

theorem MapIs.range (h : MapIs w P k b l) (ht : P.underlying t = some (.map k e)) :
    ∃ w', (Instr.range t (.map (some b))).run P w = .ok (.pointer (some ⟨w.heap.size, 0, none⟩)) w' ∧ RangeIs w' P k b w.heap.size l l ∧ Below w.heap.size w w' ∧ w'.heap.size = w.heap.size + 1 := by
  have hlt := h.lt
  obtain ⟨es, clock, hb, hst, hl, hk⟩ := h
  refine ⟨_, run_range_map w t k e b es clock ht hb, ⟨es, clock, #[], ?_, hst, hl, hk, heap_alloc_new w _, ?_⟩, (Below.refl _ _).alloc (Nat.le_refl _) _, by simp⟩
  · rw [Below.heap_alloc _ _ _ hlt]; exact hb
  · simp only [leftOf]
    rw [Array.toList_filter, List.filter_eq_self.2 (by simp)]
    exact hl

theorem filter_split {α : Type} (p q : α → Bool) (f : α → Nat) : ∀ (l : List α), (l.map f).Nodup → ∀ x, x ∈ l → p x = true → (∀ y ∈ l, q y = (p y && !(f y == f x))) →
    ∃ l1 l2, l.filter p = l1 ++ x :: l2 ∧ l.filter q = l1 ++ l2
  | [], _, x, hx, _, _ => by cases hx
  | a :: l, hnd, x, hx, hp, hq => by
    simp only [List.map_cons, List.nodup_cons] at hnd
    rcases List.mem_cons.1 hx with rfl | hx
    · have hqa : q x = false := by rw [hq x (by simp)]; simp
      have hrest : l.filter q = l.filter p := List.filter_congr (fun y hy => by
        rw [hq y (List.mem_cons_of_mem _ hy)]
        have : f y ≠ f x := fun e => hnd.1 (e ▸ List.mem_map.2 ⟨y, hy, rfl⟩)
        simp [this])
      exact ⟨[], l.filter p, by simp [hp], by simp [hqa, hrest]⟩
    · obtain ⟨l1, l2, e1, e2⟩ := filter_split p q f l hnd.2 x hx hp (fun y hy => hq y (List.mem_cons_of_mem _ hy))
      have hne : f a ≠ f x := fun e => hnd.1 (e ▸ List.mem_map.2 ⟨x, hx, rfl⟩)
      have hqa : q a = p a := by rw [hq a (by simp)]; simp [hne]
      cases hpa : p a with
      | true => exact ⟨a :: l1, l2, by simp [hpa, e1], by simp [hqa, hpa, e2]⟩
      | false => exact ⟨l1, l2, by simp [hpa, e1], by simp [hqa, hpa, e2]⟩

/-- The step. -/
theorem RangeIs.next {r : Nat} {rem : List (Value × Value)} (h : RangeIs w P k b r l rem) (hne : r ≠ b) (ty : TypeId) :
    (rem = [] ∧ (Instr.next (.pointer (some ⟨r, 0, none⟩)) false ty).run P w = .ok (.tuple #[.bool false]) w) ∨
    ∃ r1 r2 key v w', rem = r1 ++ (key, v) :: r2 ∧ (key, v) ∈ l ∧ (Instr.next (.pointer (some ⟨r, 0, none⟩)) false ty).run P w = .ok (.tuple #[.bool true, key, v]) w' ∧
      RangeIs w' P k b r l (r1 ++ r2) ∧ w.grownBy w' (some r) ∧ w'.heap.size = w.heap.size ∧ (Instr.entry (.pointer (some ⟨r, 0, none⟩))).run P w' = .ok (.tuple #[key, v]) w' := by
  obtain ⟨es, clock, seen, hb, hst, rfl, hk, hr, rfl⟩ := h
  rcases run_next_at (P := P) w ty r b clock clock seen es clock hr hb hst.1 (Nat.le_refl _) with ⟨h0, hrun⟩ | ⟨e, he, w1, hal, hrun⟩
  · refine Or.inl ⟨?_, hrun⟩
    have : (leftOf es seen).toList = [] := by
      have : leftOf es seen = #[] := Array.eq_empty_of_size_eq_zero h0
      rw [this]
    rw [this]; rfl
  · obtain ⟨hem, hes⟩ := mem_left he
    have hr1 : w1.heap[r]? = some (.mapIter (some b) clock seen clock) := by rcases hal with rfl | rfl <;> exact hr
    have hb1 : w1.heap[b]? = some (.map es clock) := by rcases hal with rfl | rfl <;> exact hb
    have hset := heap_set (o' := .mapIter (some b) clock (seen.push e.born) clock) hr1
    have hb' : (setBlock w1 r (.mapIter (some b) clock (seen.push e.born) clock)).heap[b]? = some (.map es clock) := (hset.2 b (fun e1 => hne e1.symm)).trans hb1
    obtain ⟨l1, l2, e1, e2⟩ := filter_split (fun x : MapEntry => !seen.contains x.born) (fun x => !(seen.push e.born).contains x.born) (·.born) es.toList ((stamped_iff es clock).1 hst).2.1 e hem (by simp only [hes]; rfl)
      (fun y _ => by rw [contains_push]; cases seen.contains y.born <;> cases (y.born == e.born) <;> rfl)
    have f1 : (leftOf es seen).toList = l1 ++ e :: l2 := by rw [← e1]; simp [leftOf]
    have f2 : (leftOf es (seen.push e.born)).toList = l1 ++ l2 := by rw [← e2]; simp [leftOf]
    refine Or.inr ⟨l1.map pairOf, l2.map pairOf, e.key, e.val, _, ?_, List.mem_map.2 ⟨e, hem, rfl⟩, hrun, ⟨es, clock, seen.push e.born, hb', hst, rfl, hk, hset.1, ?_⟩, ?_, ?_,
      run_entry_at _ r b clock seen es clock e hset.1 hb' hem ((stamped_iff es clock).1 hst).2.1⟩
    · rw [f1]; simp [pairOf]
    · rw [f2]; simp
    · rcases hal with rfl | rfl <;> exact ⟨rfl, rfl, rfl, by simp [setBlock], fun i _ hi => hset.2 i (fun e1 => hi (by rw [e1]))⟩
    · rcases hal with rfl | rfl <;> simp [setBlock]

theorem RangeIs.left {r : Nat} {rem : List (Value × Value)} (h : RangeIs w P k b r l rem) : w.rangeLeft b r = rem.length := by
  obtain ⟨es, clock, seen, hb, _, _, _, hr, rfl⟩ := h
  simp [World.rangeLeft, hb, hr]

variable {ops : Array Oper} {rest : List Oper} {o : Oper} {a : Act} {Q : Exit → Act → World → Prop}

/-- A store into a map, by its run. -/
theorem wpList_mapUpdate_run (hg : o.guard = none) (m x v : Operand) (t : TypeId) (hop : o.op = Op.mapUpdate t m x v)
    (mv xv vv : Value) (hm : a.eval m = mv) (hx : a.eval x = xv) (hv : a.eval v = vv) {w' : World} (hrun : (Instr.mapUpdate t mv xv vv).run P w = .ok () w') (h : wpList P ops Q rest (a.put o.dst undef) w') : wpList P ops Q (o :: rest) a w := by
  refine wpList_plain hg fun K' hK' => ?_
  subst hm hx hv
  unfold Oper.wp
  simp [execOp, hop, hrun, Result.andThen]
  exact hK' _ _ h

/-- The same as a step of a region that draws its order. -/
theorem step_mapUpdate_run {K : Act → World → Prop} {E : Prop} (hg : o.guard = none) (m x v : Operand) (t : TypeId) (hop : o.op = Op.mapUpdate t m x v)
    (mv xv vv : Value) (hm : a.eval m = mv) (hx : a.eval x = xv) (hv : a.eval v = vv) {w' : World} (hrun : (Instr.mapUpdate t mv xv vv).run P w = .ok () w') (h : K (a.put o.dst undef) w') :
    if Region.wanted o (yielded ops a.tmps) = true then Oper.wp P o a w K Q else E := by
  have hw : Region.wanted o (yielded ops a.tmps) = true := by simp [Region.wanted, hg]
  rw [if_pos hw]
  subst hm hx hv
  unfold Oper.wp
  simp [execOp, hop, hrun, Result.andThen]
  exact h

/-- delete, by its run. -/
theorem wpList_delete_run (hg : o.guard = none) (m x : Operand) (t k : TypeId) (hop : o.op = Op.call { callee := Callee.builtin Builtin.delete, args := #[m, x], argTypes := #[t, k] })
    (mv xv : Value) (hm : a.eval m = mv) (hx : a.eval x = xv) {w' : World} (hrun : ∀ ty, (Builtin.delete_ #[t, k] ty #[mv, xv]).run P w = .ok (.tuple #[]) w') (h : wpList P ops Q rest (a.put o.dst (.tuple #[])) w') : wpList P ops Q (o :: rest) a w := by
  refine wpList_plain hg fun K' hK' => ?_
  subst hm hx
  unfold Oper.wp
  simp [execOp, hop, resolve, invoke, builtin, hrun, Result.andThen]
  exact hK' _ _ h

/-- The beginning of a range. -/
theorem wpList_range_is (hg : o.guard = none) (m : Operand) (t : TypeId) (hop : o.op = Op.range t m) (ht : P.underlying t = some (.map k e)) (hm : a.eval m = .map (some b)) (h : MapIs w P k b l)
    (hK : ∀ w', RangeIs w' P k b w.heap.size l l → Below w.heap.size w w' → w'.heap.size = w.heap.size + 1 → wpList P ops Q rest (a.put o.dst (.pointer (some ⟨w.heap.size, 0, none⟩))) w') :
    wpList P ops Q (o :: rest) a w := by
  refine wpList_plain hg fun K' hK' => ?_
  obtain ⟨w', hrun, r1, r2, r3⟩ := h.range ht
  unfold Oper.wp
  simp [execOp, hop, hm, hrun, Result.andThen]
  exact hK' _ _ (hK w' r1 r2 r3)

/-- A step of a range. -/
theorem wpList_next_is {r : Nat} {rem : List (Value × Value)} (hg : o.guard = none) (it : Operand) (hop : o.op = Op.next it false) (hit : a.eval it = .pointer (some ⟨r, 0, none⟩)) (h : RangeIs w P k b r l rem) (hne : r ≠ b)
    (hDone : rem = [] → wpList P ops Q rest (a.put o.dst (.tuple #[.bool false])) w)
    (hMore : ∀ r1 r2 key v w', rem = r1 ++ (key, v) :: r2 → (key, v) ∈ l → RangeIs w' P k b r l (r1 ++ r2) → w.grownBy w' (some r) → w'.heap.size = w.heap.size → (Instr.entry (.pointer (some ⟨r, 0, none⟩))).run P w' = .ok (.tuple #[key, v]) w' →
      wpList P ops Q rest (a.put o.dst (.tuple #[.bool true, key, v])) w') :
    wpList P ops Q (o :: rest) a w := by
  refine wpList_plain hg fun K' hK' => ?_
  unfold Oper.wp
  rcases h.next hne o.type with ⟨h0, hrun⟩ | ⟨r1, r2, key, v, w', e1, hm, hrun, hr, hgr, hsz, hen⟩
  · simp [execOp, hop, hit, hrun, Result.andThen]
    exact hK' _ _ (hDone h0)
  · simp [execOp, hop, hit, hrun, Result.andThen]
    exact hK' _ _ (hMore r1 r2 key v w' e1 hm hr hgr hsz hen)
end

end Go.Proofs.Ytmnklaphcjchiaa
