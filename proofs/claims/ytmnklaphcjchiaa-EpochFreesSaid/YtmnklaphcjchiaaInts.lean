/-
  Walk of the reference's Ints: two rows of numbers are the same.
-/
import Derived.Test.YtmnklaphcjchiaaSta
namespace Go.Proofs.Ytmnklaphcjchiaa
open Go.RowKit

def IntsPost (w : World) (x : Ending) (w' : World) : Prop := x = .returned (.bool true) ∧ ∃ n, w' = w.drewN n

set_option maxHeartbeats 1600000 in
/-- Two rows that hold the same numbers. -/
theorem ints_same (w : World) (l : List Int) (hl : l.length ≤ 100000) (ga oa ca gb ob cb : Nat) (ha : ∀ i, i < l.length → w.cell? ⟨ga, oa + i, none⟩ = some (.int .i64 (l.getD i 0))) (hb : ∀ i, i < l.length → w.cell? ⟨gb, ob + i, none⟩ = some (.int .i64 (l.getD i 0))) :
    Calls Try.prog 21 #[.slice (some ⟨ga, oa, none⟩) l.length ca, .slice (some ⟨gb, ob, none⟩) l.length cb] w (IntsPost w) := by
  obtain ⟨n, hn⟩ : ∃ n, n = l.length := ⟨_, rfl⟩
  rw [← hn] at hl ha hb ⊢
  clear hn
  have HA := Lib.hid ha
  have HB := Lib.hid hb
  clear ha hb
  go_enter Try.func21, Try.ntmps21
  go_wp2
  go_loopw [5] (fun y wr => ∃ k m : Nat, k ≤ n ∧ y = .int .i64 k ∧ wr = w.drewN m) (fun y _ => n - (intOf y).toNat)
  case atStart => exact ⟨0, 0, Nat.zero_le _, rfl, rfl⟩
  case round =>
    obtain ⟨k, m, hk, rfl, rfl⟩ := hrel
    by_cases hlt : k < n
    · have c1 : w.cell? ⟨ga, oa + k, none⟩ = some (.int .i64 (l.getD k 0)) := HA.out k hlt
      have c2 : w.cell? ⟨gb, ob + k, none⟩ = some (.int .i64 (l.getD k 0)) := HB.out k hlt
      have l1 : (k : Int) < (n : Int) := by omega
      have l2 : decide ((k : Int) < (n : Int)) = true := decide_eq_true l1
      go_wp2
      go_quiet (fail)
      go_wp2
      exact ⟨⟨k + 1, _, by omega, by go_num, rfl⟩, by simp [intOf]; omega⟩
    · have l2 : decide ((k : Int) < (n : Int)) = false := decide_eq_false (by omega)
      go_wp2
      go_ret
      exact ⟨rfl, m, rfl⟩

end Go.Proofs.Ytmnklaphcjchiaa
