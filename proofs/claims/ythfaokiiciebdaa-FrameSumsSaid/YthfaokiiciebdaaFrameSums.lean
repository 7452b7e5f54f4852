/- The walk of FrameSums: the sum of any text of up to 4096 bytes is the document's. No condition. -/
import Derived.Test.YthfaokiiciebdaaRefAdd
namespace Go.Proofs.Ythfaokiiciebdaa
open Go.RowKit

set_option maxHeartbeats 400000 in
theorem frameSums_walk (s : ByteArray) (w : World) (hs : s.size ≤ maxLen) :
    Calls Try.prog 3 #[.string s] w fun e w' => e = .returned (.bool true) ∧ Below w.heap.size w w' := by
  unfold maxLen at hs
  by_cases h : s.size ≤ 4096
  · go_enter Try.func3, Try.ntmps3
    go_wp2_with fail
    refine (sum_any _ _ (by unfold maxLen; omega)).mono ?_
    rintro e w' ⟨rfl, rfl⟩
    go_wp2_with fail
    refine (refSum_any _ _ (by omega)).mono ?_
    rintro e w1 ⟨rfl, hb⟩
    go_wp2_with fail
    refine (awake_any _).mono ?_
    rintro e w' ⟨rfl, rfl⟩
    go_wp2_with fail
    go_ret
    exact ⟨rfl, hb⟩
  · have h4 : (s.extract 0 4096).size = 4096 := by simp; omega
    have h5 : (s.extract 0 4096).size ≤ 4096 := by omega
    clear h4
    go_enter Try.func3, Try.ntmps3
    go_wp2_with fail
    refine (sum_any _ _ (by unfold maxLen; omega)).mono ?_
    rintro e w' ⟨rfl, rfl⟩
    go_wp2_with fail
    refine (refSum_any _ _ (by omega)).mono ?_
    rintro e w1 ⟨rfl, hb⟩
    go_wp2_with fail
    refine (awake_any _).mono ?_
    rintro e w' ⟨rfl, rfl⟩
    go_wp2_with fail
    go_ret
    exact ⟨rfl, hb⟩
end Go.Proofs.Ythfaokiiciebdaa
