/-
  The law's own three rows (gazes, notes, texts), as they lie in memory.
-/
import Derived.Test.YtmnklaphcjchiaaKeepP
import Derived.Lib.ConvBytes
import Derived.Laws.BytesArg
import Derived.Lib.OwnKind
import Derived.Lib.SmallJoins
namespace Go.Proofs.Ytmnklaphcjchiaa
open Go.RowKit

theorem Since.write {w0 w w' : World} {T : Tags} {S : Nat → Prop} (h : Since w0 w T) (hs : Same S w w') (hS : ∀ k, k < w0.heap.size → ¬ S k) : Since w0 w' T :=
  ⟨h.below.trans (hs.below h.below.size hS), h.none⟩

theorem owns_lt {w : World} {base : Nat} {e : TypeId} {size : Nat} {v : Value} {n : Nat} {xs : List Value} (h : w.ownsRow base e size v n xs) {k : Nat} (hk : v.ownBlock = some k) : k < w.heap.size := (h.lt k hk).2

theorem owns_ge {w : World} {base : Nat} {e : TypeId} {size : Nat} {v : Value} {n : Nat} {xs : List Value} (h : w.ownsRow base e size v n xs) {k : Nat} (hk : v.ownBlock = some k) : base ≤ k := (h.lt k hk).1

theorem w64_in {x : Int} (h0 : -1000000 ≤ x) (h1 : x ≤ 1000000) : wrap64 x = x := IntWalk.wrap64_in x (by omega)
theorem i64_in' {x : Int} (h0 : -1000000 ≤ x) (h1 : x ≤ 1000000) : IntKind.i64.wrap x = x := IntWalk.i64_in x (by omega)

/-- A row of the law's own: it lies in no block of the epochs'. -/
structure Mine (base : Nat) (w : World) (T : Tags) (e : TypeId) (size : Nat) (v : Value) (n : Nat) (xs : List Value) : Prop where
  own : w.ownsRow base e size v n xs
  tag : ∀ g, v.ownBlock = some g → T g = (0, 0)

section
variable {base : Nat} {w w' : World} {T T' : Tags} {e : TypeId} {size : Nat} {v : Value} {n : Nat} {xs : List Value}

theorem Mine.other (h : Mine base w T e size v n xs) : ∀ g, v.ownBlock = some g → ¬ EpOwn T g := fun g hg ho => by
  unfold EpOwn at ho
  rw [h.tag g hg] at ho
  simp at ho

theorem Mine.same (h : Mine base w T e size v n xs) (hs : Same (EpOwn T) w w') (hX : Ext T T' w) : Mine base w' T' e size v n xs :=
  ⟨hs.owns h.other h.own, fun g hg => (hX g (owns_lt h.own hg)).trans (h.tag g hg)⟩

theorem Mine.below (h : Mine base w T e size v n xs) (hb : Below w.heap.size w w') : Mine base w' T e size v n xs :=
  ⟨(Same.of_below (S := fun _ => False) hb).owns (fun _ _ h => h) h.own, h.tag⟩

theorem Mine.alloc (h : Mine base w T e size v n xs) (o : Obj) : Mine base (w.alloc o) T e size v n xs := ⟨h.own.alloc o, h.tag⟩

theorem Mine.drew (h : Mine base w T e size v n xs) : Mine base w.drew T e size v n xs := h.below (Below.refl _ _).drew

theorem Mine.nil (w : World) (T : Tags) (e : TypeId) (size : Nat) : Mine base w T e size (.slice none 0 0) 0 [] := ⟨World.ownsRow_nil _ _ _ _, fun g hg => by simp [Value.ownBlock] at hg⟩

/-- Behind an append to another row, or a store into it. -/
theorem Mine.grown {e' : TypeId} {size' : Nat} {v' : Value} {n' : Nat} {xs' : List Value} (h : Mine base w T e size v n xs) (h' : w.ownsRow base e' size' v' n' xs') (hne : e ≠ e') (hg : w.grownBy w' v'.ownBlock) : Mine base w' T e size v n xs := by
  refine ⟨h.own.kept hg ?_, h.tag⟩
  cases hv : v.ownBlock with
  | none => exact .inl rfl
  | some g =>
    right
    intro hh
    obtain ⟨c, fz, h1⟩ := Lib.ownsRow_kind h.own g hv
    obtain ⟨c', fz', h2⟩ := Lib.ownsRow_kind h' g hh.symm
    rw [h1] at h2
    simp only [Option.some.injEq, Obj.cells.injEq] at h2
    exact hne h2.2.1

/-- The row itself, appended to. -/
theorem Mine.appended {v' : Value} {n' : Nat} {xs' : List Value} (h : Mine base w T e size v n xs) (hT : ∀ k, w.heap.size ≤ k → T k = (0, 0)) (ho : w'.ownsRow base e size v' n' xs') (hpl : ∀ g, v'.ownBlock = some g → v.ownBlock = some g ∨ w.heap.size ≤ g) : Mine base w' T e size v' n' xs' :=
  ⟨ho, fun g hg => (hpl g hg).elim (fun h1 => h.tag g h1) (fun h1 => hT g h1)⟩

theorem Mine.since {w0 : World} (h : Mine w0.heap.size w T e size v n xs) (hS : Since w0 w T) (hg : w.grownBy w' v.ownBlock) : Since w0 w' T :=
  hS.write ((Same.refl (fun k => v.ownBlock = some k) w).then_grown hg (fun k hk => Or.inl hk)) (fun k hk hs => by have := owns_ge h.own hs; omega)

theorem Mine.sta {a b : Nat} {p : Pool} {ep : Eps} {B : Nat} (h : Mine base w T e size v n xs) (hT : Sta w T a b p ep B) (hg : w.grownBy w' v.ownBlock) : Sta w' T a b p ep B :=
  hT.same ((Same.refl (fun k => v.ownBlock = some k) w).then_grown hg (fun k hk => Or.inl hk)) (fun k _ ho hs => h.other k hs ho)

end

/-- A row's cells. -/
theorem flatMap_get {α β : Type} {f : α → List β} {m : Nat} (hf : ∀ a, (f a).length = m) : ∀ (l : List α) {k i : Nat} {a : α}, l[k]? = some a → i < m → (l.flatMap f)[k * m + i]? = (f a)[i]?
  | [], k, i, a, h, _ => by simp at h
  | x :: l, 0, i, a, h, hi => by
    simp at h
    subst h
    rw [List.flatMap_cons, Nat.zero_mul, Nat.zero_add, List.getElem?_append_left (by rw [hf]; exact hi)]
  | x :: l, k + 1, i, a, h, hi => by
    have h' : l[k]? = some a := by simpa using h
    rw [List.flatMap_cons, List.getElem?_append_right (by rw [hf, Nat.succ_mul]; omega), hf]
    rw [show (k + 1) * m + i - m = k * m + i by rw [Nat.succ_mul]; omega]
    exact flatMap_get hf l h' hi

theorem flatMap_length' {α β : Type} {f : α → List β} {m : Nat} (hf : ∀ a, (f a).length = m) (l : List α) : (l.flatMap f).length = l.length * m := by
  induction l with
  | nil => simp
  | cons x l ih => rw [List.flatMap_cons, List.length_append, hf, ih, List.length_cons, Nat.succ_mul]; omega

def noteCells (N : List Note) : List Value := N.flatMap fun n => n.cells.toList

theorem noteCells_get {N : List Note} {k : Nat} {n : Note} (h : N[k]? = some n) (i : Nat) (hi : i < 5) : (noteCells N)[k * 5 + i]? = n.cells[i]? := by
  unfold noteCells
  rw [flatMap_get (m := 5) (fun n => rfl) N h hi]
  simp

def gzCells (j : Nat) : List Gz → List Value
  | [] => []
  | g :: l => .int .i64 ((j : Int) + 1) :: .int .i64 (g.frm : Int) :: .bool g.there :: gzCells (j + 1) l

theorem gzCells_snoc (g : Gz) : ∀ (l : List Gz) (j : Nat), gzCells j (l ++ [g]) = gzCells j l ++ [.int .i64 (((j + l.length : Nat) : Int) + 1), .int .i64 (g.frm : Int), .bool g.there]
  | [], j => by simp [gzCells]
  | x :: l, j => by
    have := gzCells_snoc g l (j + 1)
    simp only [List.cons_append, gzCells, this, List.length_cons]
    rw [show j + 1 + l.length = j + (l.length + 1) by omega]

theorem gzCells_get : ∀ (l : List Gz) (j : Nat) {k : Nat} {g : Gz}, l[k]? = some g → (gzCells j l)[k * 3]? = some (.int .i64 (((j + k : Nat) : Int) + 1)) ∧ (gzCells j l)[k * 3 + 1]? = some (.int .i64 (g.frm : Int)) ∧ (gzCells j l)[k * 3 + 2]? = some (.bool g.there)
  | [], j, k, g, h => by simp at h
  | x :: l, j, 0, g, h => by
    simp at h
    subst h
    simp [gzCells]
  | x :: l, j, k + 1, g, h => by
    have h' : l[k]? = some g := by simpa using h
    have := gzCells_get l (j + 1) h'
    rw [show (k + 1) * 3 = k * 3 + 3 by omega, show k * 3 + 3 + 1 = k * 3 + 1 + 3 by omega, show k * 3 + 3 + 2 = k * 3 + 2 + 3 by omega]
    simp only [gzCells, List.getElem?_cons_succ]
    rw [show j + (k + 1) = j + 1 + k by omega]
    exact this

theorem gzCells_set (b : Bool) : ∀ (l : List Gz) (j : Nat) {k : Nat} {g : Gz}, l[k]? = some g → (gzCells j l).set (k * 3 + 2) (.bool b) = gzCells j (l.set k ⟨g.frm, b⟩)
  | [], j, k, g, h => by simp at h
  | x :: l, j, 0, g, h => by
    simp at h
    subst h
    simp [gzCells]
  | x :: l, j, k + 1, g, h => by
    have h' : l[k]? = some g := by simpa using h
    rw [show (k + 1) * 3 + 2 = k * 3 + 2 + 3 by omega]
    simp only [gzCells, List.set_cons_succ]
    rw [gzCells_set b l (j + 1) h']

theorem set_same {α : Type} {l : List α} {k : Nat} {a : α} (h : l[k]? = some a) : l.set k a = l := by
  refine List.ext_getElem? (fun i => ?_)
  rw [List.getElem?_set]
  by_cases hi : k = i
  · subst hi
    have := (List.getElem?_eq_some_iff.1 h).1
    rw [List.getElem?_eq_getElem this] at h ⊢
    simp [this, Option.some.inj h]
  · simp [hi]

/-- The state between the law's steps: memory. -/
structure KeepMem (w0 : World) (a b : Nat) (vg vn vt : Value) (w : World) (T : Tags) (p : Pool) (e : Eps) (G : List Gz) (N : List Note) (X : List ByteArray) (B : Nat) : Prop where
  since : Since w0 w T
  sta : Sta w T a b p e B
  g : Mine w0.heap.size w T 39 3 vg G.length (gzCells 0 G)
  n : Mine w0.heap.size w T 45 5 vn N.length (noteCells N)
  t : Mine w0.heap.size w T 9 1 vt X.length (X.map Value.string)

def KeepMid (w0 : World) (a b : Nat) (i : Nat) (vg vn vt : Value) (w : World) : Prop :=
  ∃ T p e G N X B, KeepMem w0 a b vg vn vt w T p e G N X B ∧ B ≤ 101 * i ∧ KeepInv p e G N X i

section
variable {w0 : World} {a b i : Nat} {vg vn vt : Value} {w w' : World} {T T' : Tags} {p q : Pool} {e e' : Eps} {G : List Gz} {N : List Note} {X : List ByteArray} {B B' : Nat}

/-- Behind a call of the epochs'. -/
theorem KeepMem.step (h : KeepMem w0 a b vg vn vt w T p e G N X B) (hs : Same (EpOwn T) w w') (hX : Ext T T' w) (hT : Sta w' T' a b q e' B') : KeepMem w0 a b vg vn vt w' T' q e' G N X B' :=
  ⟨h.since.step hs hX, hT, h.g.same hs hX, h.n.same hs hX, h.t.same hs hX⟩

theorem KeepMem.below (h : KeepMem w0 a b vg vn vt w T p e G N X B) (hb : Below w.heap.size w w') : KeepMem w0 a b vg vn vt w' T p e G N X B :=
  ⟨h.since.next hb, h.sta.below hb, h.g.below hb, h.n.below hb, h.t.below hb⟩

theorem KeepMem.alloc (h : KeepMem w0 a b vg vn vt w T p e G N X B) (o : Obj) : KeepMem w0 a b vg vn vt (w.alloc o) T p e G N X B := h.below ((Below.refl _ _).alloc (Nat.le_refl _) o)

theorem KeepMem.drew (h : KeepMem w0 a b vg vn vt w T p e G N X B) : KeepMem w0 a b vg vn vt w.drew T p e G N X B := h.below (Below.refl _ _).drew

theorem KeepMem.drewN (h : KeepMem w0 a b vg vn vt w T p e G N X B) (n : Nat) : KeepMem w0 a b vg vn vt (w.drewN n) T p e G N X B := h.below (below_drewN (Below.refl _ _) n)

theorem KeepMem.post {v : Value} (h : KeepMem w0 a b vg vn vt w T p e G N X B) {x : Ending} (hp : StaPost w T a b v q e' B' x w') : x = .returned v ∧ ∃ T', KeepMem w0 a b vg vn vt w' T' q e' G N X B' := by
  obtain ⟨hx, hs, T', hX, hT⟩ := hp
  exact ⟨hx, T', h.step hs hX hT⟩

theorem KeepMem.gAppend {vg' : Value} {g : Gz} (h : KeepMem w0 a b vg vn vt w T p e G N X B) (hg : w.grownBy w' vg.ownBlock) (ho : w'.ownsRow w0.heap.size 39 3 vg' (G.length + 1) (gzCells 0 G ++ [.int .i64 ((G.length : Int) + 1), .int .i64 (g.frm : Int), .bool g.there]))
    (hpl : ∀ k, vg'.ownBlock = some k → vg.ownBlock = some k ∨ w.heap.size ≤ k) : KeepMem w0 a b vg' vn vt w' T p e (G ++ [g]) N X B where
  since := h.g.since h.since hg
  sta := h.g.sta h.sta hg
  g := by
    rw [List.length_append, gzCells_snoc, Nat.zero_add]
    exact h.g.appended h.sta.fresh ho hpl
  n := h.n.grown h.g.own (by decide) hg
  t := h.t.grown h.g.own (by decide) hg

theorem KeepMem.nAppend {vn' : Value} {n : Note} (h : KeepMem w0 a b vg vn vt w T p e G N X B) (hg : w.grownBy w' vn.ownBlock) (ho : w'.ownsRow w0.heap.size 45 5 vn' (N.length + 1) (noteCells N ++ n.cells.toList))
    (hpl : ∀ k, vn'.ownBlock = some k → vn.ownBlock = some k ∨ w.heap.size ≤ k) : KeepMem w0 a b vg vn' vt w' T p e G (N ++ [n]) X B where
  since := h.n.since h.since hg
  sta := h.n.sta h.sta hg
  g := h.g.grown h.n.own (by decide) hg
  n := by
    rw [List.length_append]
    unfold noteCells
    rw [List.flatMap_append]
    exact h.n.appended h.sta.fresh ho hpl
  t := h.t.grown h.n.own (by decide) hg

theorem KeepMem.tAppend {vt' : Value} {s : ByteArray} (h : KeepMem w0 a b vg vn vt w T p e G N X B) (hg : w.grownBy w' vt.ownBlock) (ho : w'.ownsRow w0.heap.size 9 1 vt' (X.length + 1) (X.map Value.string ++ [.string s]))
    (hpl : ∀ k, vt'.ownBlock = some k → vt.ownBlock = some k ∨ w.heap.size ≤ k) : KeepMem w0 a b vg vn vt' w' T p e G N (X ++ [s]) B where
  since := h.t.since h.since hg
  sta := h.t.sta h.sta hg
  g := h.g.grown h.t.own (by decide) hg
  n := h.n.grown h.t.own (by decide) hg
  t := by
    rw [List.length_append, List.map_append]
    exact h.t.appended h.sta.fresh ho hpl

/-- A gaze that is there no longer. -/
theorem KeepMem.gSet {gb gc k : Nat} {g : Gz} (h : KeepMem w0 a b (.slice (some ⟨gb, 0, none⟩) G.length gc) vn vt w T p e G N X B) (hk : G[k]? = some g) (c : Bool) :
    KeepMem w0 a b (.slice (some ⟨gb, 0, none⟩) G.length gc) vn vt (w.setCell ⟨gb, k * 3 + 2, none⟩ (.bool c)) T p e (G.set k ⟨g.frm, c⟩) N X B := by
  obtain ⟨r1, r2⟩ := h.g.own.stored (k * 3 + 2) (.bool c)
  have r3 : w.grownBy (w.setCell ⟨gb, k * 3 + 2, none⟩ (.bool c)) (Value.slice (some ⟨gb, 0, none⟩) G.length gc).ownBlock := r2
  rw [gzCells_set c G 0 hk] at r1
  exact ⟨h.g.since h.since r3, h.g.sta h.sta r3, ⟨by rw [List.length_set]; exact r1, h.g.tag⟩, h.n.grown h.g.own (by decide) r3, h.t.grown h.g.own (by decide) r3⟩

theorem keep_pin (h : KeepMem w0 a b vg vn vt w T p e G N X B) (hi : KeepInv p e G N X i) (hb : i ≤ 200) :
    Calls Try.prog 10 #[.pointer (some ⟨a, 0, none⟩)] w (fun x w' => x = .returned (.tuple #[.int .i64 ((G.length : Int) + 1), .int .i64 0]) ∧ ∃ T', KeepMem w0 a b vg vn vt w' T' p (pin1 e) G N X B) := by
  have h1 := h.sta.pin (by have := hi.pl; omega) (by have h1 := hi.last; have h2 := hi.len; omega)
  rw [show (e.last : Int) = (G.length : Int) by rw [hi.last]] at h1
  exact h1.mono fun x w' hx => h.post hx

theorem keep_unpin (h : KeepMem w0 a b vg vn vt w T p e G N X B) (hi : KeepInv p e G N X i) (hb : i ≤ 200) {k f : Nat} (hk : G[k]? = some ⟨f, true⟩) :
    Calls Try.prog 11 #[.pointer (some ⟨a, 0, none⟩), .int .i64 ((k : Int) + 1)] w (fun x w' => x = .returned (.int .i64 0) ∧ ∃ T' e', KeepMem w0 a b vg vn vt w' T' p e' G N X B ∧ KeepInv p e' (G.set k ⟨f, false⟩) N X (i + 1)) := by
  obtain ⟨t, ht, -⟩ := hi.in2 k f hk
  obtain ⟨l1, l2, hl⟩ := List.append_of_mem ht
  have hkl := (List.getElem?_eq_some_iff.1 hk).1
  have hlen := hi.len
  refine (h.sta.unpin (k + 1) t l1 l2 hl (by omega)).mono fun x w' hx => ?_
  obtain ⟨hx, T', hM⟩ := h.post hx
  exact ⟨hx, T', _, hM, hi.unpin h.sta.inv.wf.pnodup hk hl⟩

theorem keep_unpin_gone (h : KeepMem w0 a b vg vn vt w T p e G N X B) (hi : KeepInv p e G N X i) (hb : i ≤ 200) {k f : Nat} (hk : G[k]? = some ⟨f, false⟩) :
    Calls Try.prog 11 #[.pointer (some ⟨a, 0, none⟩), .int .i64 ((k : Int) + 1)] w (fun x w' => x = .returned (.int .i64 7) ∧ w = w') := by
  have hkl := (List.getElem?_eq_some_iff.1 hk).1
  have hlen := hi.len
  refine h.sta.unpinMiss ((k : Int) + 1) (by omega) (by omega) (fun x hx e1 => ?_)
  obtain ⟨k', f', h1, h2⟩ := hi.in1 x hx
  have : k' = k := by omega
  subst this
  rw [hk] at h2
  simp at h2

theorem keep_advance (h : KeepMem w0 a b vg vn vt w T p e G N X B) (hi : KeepInv p e G N X i) (hb : i ≤ 200) (q : Pool) (e' : Eps) (ha : advanced p e = some (q, e')) :
    Calls Try.prog 12 #[.pointer (some ⟨a, 0, none⟩)] w (fun x w' => x = .returned (.tuple #[.int .i64 ((e.now : Int) + 1), .int .i64 0]) ∧ ∃ T', KeepMem w0 a b vg vn vt w' T' q e' G N X B) := by
  have h1 := h.sta.advance (by have := hi.now; omega)
  unfold StaAdvance at h1
  rw [ha] at h1
  exact h1.mono fun x w' hx => h.post hx

theorem keep_advance_none (h : KeepMem w0 a b vg vn vt w T p e G N X B) (hi : KeepInv p e G N X i) (hb : i ≤ 200) (ha : advanced p e = none) :
    Calls Try.prog 12 #[.pointer (some ⟨a, 0, none⟩)] w (fun x w' => x = .returned (.tuple #[.int .i64 0, .int .i64 5]) ∧ w = w') := by
  have h1 := h.sta.advance (by have := hi.now; omega)
  unfold StaAdvance at h1
  rw [ha] at h1
  exact h1

theorem keep_collect (h : KeepMem w0 a b vg vn vt w T p e G N X B) (hi : KeepInv p e G N X i) (hb : i ≤ 200) :
    Calls Try.prog 13 #[.pointer (some ⟨a, 0, none⟩)] w (fun x w' => x = .returned (.tuple #[.int .i64 ((e.oldest - e.lo : Nat) : Int), .int .i64 0]) ∧
      ∃ T', KeepMem w0 a b vg vn vt w' T' (collectN (e.oldest - e.lo) (p, e)).1 (collectN (e.oldest - e.lo) (p, e)).2 G N X B) :=
  (h.sta.collect (by have := hi.now; omega)).mono fun x w' hx => h.post hx

theorem Held.pos {p : Pool} {e : Eps} {n : Note} {xs : List Int} (wf : p.WF) (h : Held p e n xs) : 1 ≤ xs.length := by
  obtain ⟨s, a, m, h1, rfl⟩ := h.piece
  have := (Pool.piece_ok wf h1).2.2.2.2.2.2.2.2.2.1
  simp [Pool.read]
  omega

theorem strOfNums_bytesOf (s : ByteArray) : strOfNums (bytesOf s) = s := by
  apply ByteArray.ext
  apply Array.toList_inj.1
  rw [strOfNums_data, bytesOf, List.map_map]
  conv => rhs; rw [← List.map_id s.data.toList]
  apply List.map_congr_left
  intro x _
  simp

/-- 'string(b)' of a text's bytes. -/
theorem conv_back {w : World} {base g cap : Nat} {s : ByteArray} (h : w.ownsRow base 5 1 (.slice (some ⟨g, 0, none⟩) s.size cap) s.size ((bytesOf s).map (Value.int .u8))) (nq : Nat) :
    (convert 48 9 (.slice (some ⟨g, 0, none⟩) s.size cap)).run Try.prog (w.drewN nq) = .ok (.string s) (w.drewN nq) := by
  have h1 := run_convert_bytes_arg (P := Try.prog) (w.drewN nq) 48 5 Try.underlying48 Try.underlying5 g 0 s.size cap (bytesOf s) (bytesOf_length s) (fun i hi => by
    have h2 := h.cellAt i (by omega)
    have h3 : i < (bytesOf s).length := by rw [bytesOf_length]; exact hi
    rw [List.getElem?_map, List.getElem?_eq_getElem h3] at h2
    rw [Nat.zero_add]
    simpa [List.getD, List.getElem?_eq_getElem h3] using h2) 9 Try.underlying9
  rw [strOfNums_bytesOf] at h1
  exact h1

/-- The world in which a text lies as bytes. -/
theorem bytesWorld_below (w : World) (e : TypeId) (s : ByteArray) : Below w.heap.size w (Lib.bytesWorld w e s) :=
  ⟨rfl, rfl, rfl, by rw [Lib.bytesWorld_size]; omega, fun k hk => Lib.bytesWorld_at_old w e s k hk⟩

theorem bytesWorld_cell' (w : World) (e : TypeId) (s : ByteArray) (i : Nat) (hi : i < (bytesOf s).length) : (Lib.bytesWorld w e s).cell? ⟨w.heap.size, i, none⟩ = some (.int .u8 ((bytesOf s).getD i 0)) := by
  rw [bytesOf_length] at hi
  rw [Lib.bytesWorld_cell w e s i hi]
  have : i < s.data.toList.length := by simpa using hi
  simp [bytesOf, List.getD, List.getElem?_eq_getElem this]

def RetOk (w0 : World) (a b : Nat) (vg vn vt : Value) (T : Tags) (p : Pool) (e : Eps) (G : List Gz) (N : List Note) (X : List ByteArray) (B : Nat) (s : ByteArray) (x : Ending) (w' : World) : Prop :=
  match retired p e (bytesOf s) with
  | some (n, q, e') => x = .returned (.tuple #[.agg #[.int .i64 n.epoch, .int .i64 n.at_.region, .int .i64 n.at_.gen, .int .i64 n.at_.off, .int .i64 n.at_.len], .int .i64 0]) ∧ ∃ T', KeepMem w0 a b vg vn vt w' T' q e' G N X (B + s.size)
  | none => x = .returned (.tuple #[.agg #[.int .i64 0, .int .i64 0, .int .i64 0, .int .i64 0, .int .i64 0], .int .i64 5]) ∧ ∃ T', KeepMem w0 a b vg vn vt w' T' p e G N X B

theorem keep_retire (h : KeepMem w0 a b vg vn vt w T p e G N X B) (hi : KeepInv p e G N X i) (hb : i ≤ 200) (hB : B ≤ 101 * i) (s : ByteArray) (h0 : 1 ≤ s.size) (h1 : s.size ≤ 101) (bc : Nat) :
    Calls Try.prog 14 #[.pointer (some ⟨a, 0, none⟩), .slice (some ⟨w.heap.size, 0, none⟩) s.size bc] (Lib.bytesWorld w 5 s) (RetOk w0 a b vg vn vt T p e G N X B s) := by
  have hw := h.below (bytesWorld_below w 5 s)
  have h2 := hw.sta.retire (by have := hi.now; omega) (by omega) (bytesOf s) (by rw [bytesOf_length]; exact h0) (by rw [bytesOf_length, hi.size]; omega) w.heap.size bc (h.sta.other (Nat.le_refl _)) (bytesWorld_cell' w _ s)
  rw [bytesOf_length] at h2
  refine h2.mono fun x w' hx => ?_
  unfold StaRetire at hx
  unfold RetOk
  cases hr : retired p e (bytesOf s) with
  | none => rw [hr] at hx; exact hw.post hx
  | some z =>
    obtain ⟨n, q, e'⟩ := z
    rw [hr, bytesOf_length] at hx
    exact hw.post hx

theorem keep_load (h : KeepMem w0 a b vg vn vt w T p e G N X B) (hi : KeepInv p e G N X i) {k f j : Nat} {n : Note} {s : ByteArray} (hk : G[k]? = some ⟨f, true⟩) (hj : f ≤ j) (hn : N[j]? = some n) (hs : X[j]? = some s) :
    Calls Try.prog 15 #[.pointer (some ⟨a, 0, none⟩), .agg #[.int .i64 n.epoch, .int .i64 n.at_.region, .int .i64 n.at_.gen, .int .i64 n.at_.off, .int .i64 n.at_.len]] w
      (fun x w' => Below w.heap.size w w' ∧ ∃ g c, x = .returned (.tuple #[.slice (some ⟨g, 0, none⟩) s.size c, .int .i64 0]) ∧ w'.ownsRow w.heap.size 5 1 (.slice (some ⟨g, 0, none⟩) s.size c) s.size ((bytesOf s).map (Value.int .u8))) := by
  have hh := hi.held k f hk j n s hj hn hs
  refine (h.sta.load n.epoch n.at_.region n.at_.gen n.at_.off n.at_.len hh.wf).mono fun x w' hx => ?_
  unfold ELoadPost at hx
  obtain ⟨h1, h2⟩ := hx
  have hl : loaded p e ⟨n.epoch, ⟨n.at_.region, n.at_.gen, n.at_.off, n.at_.len⟩⟩ = .ok (bytesOf s) := hh.loaded
  rw [hl] at h2
  obtain ⟨v, g1, g2⟩ := h2
  have hp := hh.pos h.sta.inv.wf.pool
  rw [bytesOf_length] at g2 hp
  obtain ⟨g, c, rfl⟩ := Joins.ownsRow_form g2 (by omega)
  exact ⟨h1, g, c, g1, g2⟩

end

end Go.Proofs.Ytmnklaphcjchiaa
