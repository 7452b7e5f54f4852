/- The walk of PlanBallots. No condition. -/
import Derived.Test.YtcbanjejojgncaaPlan
namespace Go.Proofs.Ytcbanjejojgncaa
open Go.RowKit

set_option maxRecDepth 100000 in
set_option maxHeartbeats 1000000 in
theorem planBallots_walk (a i b k : Int) (w : World) (_ha : (Lit.int .i64 a).wf = true) (_hi : (Lit.int .i64 i).wf = true) (_hb : (Lit.int .i64 b).wf = true) (_hk : (Lit.int .i64 k).wf = true) :
    Calls Try.prog 5 #[.int .i64 a, .int .i64 i, .int .i64 b, .int .i64 k] w fun e w' => e = .returned (.bool true) ∧ Below w.heap.size w w' := by
  by_cases h1 : BalOk a i
  · have hd1 : (decide (1 ≤ a) && decide (a ≤ 1099511627776) && decide (0 ≤ i) && decide (i ≤ 3)) = true := by unfold BalOk at h1; simp; omega
    have hd2 : (a * 4 + i == 0) = false := by unfold BalOk at h1; simp; omega
    by_cases h2 : BalOk b k
    · have hd3 : (a * 4 + i == b * 4 + k) = (decide (a = b) && decide (i = k)) := by
        unfold BalOk at h1 h2
        rw [Bool.eq_iff_iff]; simp; omega
      have hd4 : (decide (a ≤ b) || decide (b * 4 + k < a * 4 + i)) = true := by unfold BalOk at h1 h2; simp; omega
      go_enter Try.func5, Try.ntmps5
      go_wp2_with fail
      refine (ballot_ok a i _ h1).mono ?_
      rintro e wx ⟨rfl, rfl⟩
      go_wp2_with fail
      refine (ballot_ok b k _ h2).mono ?_
      rintro e wx ⟨rfl, rfl⟩
      have H1 := Lib.hid h1
      clear h1 h2
      go_wp2_with fail
      all_goals first | (exfalso; have hx := H1.out; unfold BalOk at hx; omega) | (refine (awake_any _).mono ?_; rintro e w' ⟨rfl, hb⟩; go_wp2_with fail; go_ret; exact ⟨rfl, hb⟩)
    · go_enter Try.func5, Try.ntmps5
      go_wp2_with fail
      refine (ballot_ok a i _ h1).mono ?_
      rintro e wx ⟨rfl, rfl⟩
      go_wp2_with fail
      refine (ballot_no b k _ h2).mono ?_
      rintro e wx ⟨rfl, rfl⟩
      have H1 := Lib.hid h1
      clear h1 h2
      go_wp2_with fail
      all_goals first | (exfalso; have hx := H1.out; unfold BalOk at hx; omega) | (refine (awake_any _).mono ?_; rintro e w' ⟨rfl, hb⟩; go_wp2_with fail; go_ret; exact ⟨rfl, hb⟩)
  · have hd1 : (decide (1 ≤ a) && decide (a ≤ 1099511627776) && decide (0 ≤ i) && decide (i ≤ 3)) = false := by unfold BalOk at h1; simp; omega
    by_cases h2 : BalOk b k
    · go_enter Try.func5, Try.ntmps5
      go_wp2_with fail
      refine (ballot_no a i _ h1).mono ?_
      rintro e wx ⟨rfl, rfl⟩
      go_wp2_with fail
      refine (ballot_ok b k _ h2).mono ?_
      rintro e wx ⟨rfl, rfl⟩
      have H1 := Lib.hid h1
      clear h1 h2
      go_wp2_with fail
      all_goals first | (exfalso; have hx := H1.out; unfold BalOk at hx; omega) | (refine (awake_any _).mono ?_; rintro e w' ⟨rfl, hb⟩; go_wp2_with fail; go_ret; exact ⟨rfl, hb⟩)
    · go_enter Try.func5, Try.ntmps5
      go_wp2_with fail
      refine (ballot_no a i _ h1).mono ?_
      rintro e wx ⟨rfl, rfl⟩
      go_wp2_with fail
      refine (ballot_no b k _ h2).mono ?_
      rintro e wx ⟨rfl, rfl⟩
      have H1 := Lib.hid h1
      clear h1 h2
      go_wp2_with fail
      all_goals first | (exfalso; have hx := H1.out; unfold BalOk at hx; omega) | (refine (awake_any _).mono ?_; rintro e w' ⟨rfl, hb⟩; go_wp2_with fail; go_ret; exact ⟨rfl, hb⟩)
end Go.Proofs.Ytcbanjejojgncaa
