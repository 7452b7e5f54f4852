/- The walks of plan.Majority and plan.Ballot. No condition. -/
import Derived.Test.YtmmnaieikfekfaaGreatDoorKit
import Derived.Test.YtmmnaieikfekfaaGreatDoorRows
namespace Go.Proofs.YtmmnaieikfekfaaGreatDoor
open Go.RowKit

def major (n : Nat) : Nat := n / 2 + 1

theorem majority_any (n : Nat) (w : World) (h : n ≤ 4611686018427387904) :
    Calls Tryz.prog 87 #[.int .i64 (n : Int)] w fun e w' => e = .returned (.int .i64 (major n : Int)) ∧ w = w' := by
  go_enter Tryz.func87, Tryz.ntmps87
  go_wp2_with fail
  go_ret
  refine ⟨ret_int ?_, rfl⟩
  unfold major
  omega

def BalOk (a i : Int) : Prop := 0 ≤ i ∧ i < 4 ∧ 1 ≤ a ∧ a ≤ 1099511627776
theorem ballot_ok (a i : Int) (w : World) (h : BalOk a i) :
    Calls Tryz.prog 29 #[.int .i64 a, .int .i64 i] w fun e w' => e = .returned (.tuple #[.int .i64 (a * 4 + i), .int .i64 0]) ∧ w = w' := by
  obtain ⟨h1, h2, h3, h4⟩ := h
  have hd : (decide (i < 0) || decide (4 ≤ i) || decide (a < 1) || decide (1099511627776 < a)) = false := by simp; omega
  go_enter Tryz.func29, Tryz.ntmps29
  go_wp2_with fail
  go_ret2
  exact ⟨rfl, rfl⟩
theorem ballot_no (a i : Int) (w : World) (h : ¬ BalOk a i) :
    Calls Tryz.prog 29 #[.int .i64 a, .int .i64 i] w fun e w' => e = .returned (.tuple #[.int .i64 0, .int .i64 1]) ∧ w = w' := by
  unfold BalOk at h
  have hd : (decide (i < 0) || decide (4 ≤ i) || decide (a < 1) || decide (1099511627776 < a)) = true := by simp; omega
  clear h
  go_enter Tryz.func29, Tryz.ntmps29
  go_wp2_with fail
  all_goals (go_ret2; exact ⟨rfl, rfl⟩)

end Go.Proofs.YtmmnaieikfekfaaGreatDoor
