/- The walk of PlanMajorities. No condition. -/
import Derived.Test.YtcbanjejojgncaaPlan
namespace Go.Proofs.Ytcbanjejojgncaa
open Go.RowKit

theorem planMajorities_walk (n : Int) (w : World) (_h : (Lit.int .i64 n).wf = true) :
    Calls Try.prog 3 #[.int .i64 n] w fun e w' => e = .returned (.bool true) ∧ Below w.heap.size w w' := by
  by_cases h : n < 0 ∨ 1099511627776 < n
  · have hd : (decide (n < 0) || decide (1099511627776 < n)) = true := by simp only [Bool.or_eq_true, decide_eq_true_eq]; exact h
    clear h
    go_enter Try.func3, Try.ntmps3
    go_wp2_with (go_at_call 12; refine (awake_any _).mono ?_; rintro e w' ⟨rfl, hb⟩)
    all_goals (go_ret; exact ⟨rfl, hb⟩)
  · have hd : (decide (n < 0) || decide (1099511627776 < n)) = false := by simp; omega
    obtain ⟨m, rfl⟩ := Int.eq_ofNat_of_zero_le (show 0 ≤ n by omega)
    have hm : m ≤ 1099511627776 := by omega
    clear h
    obtain ⟨k, hk⟩ : ∃ k, k = major m := ⟨_, rfl⟩
    have hk1 : m < 2 * k := by rw [hk]; unfold major; omega
    have hk2 : 2 * k ≤ m + 2 := by rw [hk]; unfold major; omega
    go_enter Try.func3, Try.ntmps3
    go_wp2_with fail
    refine (majority_any m _ (by omega)).mono ?_
    rintro e wx ⟨rfl, rfl⟩
    rw [← hk]
    have hd1 : decide ((m : Int) < 2 * (k : Int)) = true := by simp; omega
    have hd2 : decide (2 * ((k : Int) - 1) ≤ (m : Int)) = true := by simp; omega
    go_wp2_with fail
    refine (awake_any _).mono ?_
    rintro e w' ⟨rfl, hb⟩
    go_wp2_with fail
    go_ret
    exact ⟨rfl, hb⟩
end Go.Proofs.Ytcbanjejojgncaa
