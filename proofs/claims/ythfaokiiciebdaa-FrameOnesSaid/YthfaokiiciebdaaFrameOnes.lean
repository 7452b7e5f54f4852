/- The walk of FrameOnes: any bytes begin with the frame that the document says, or with none, and why. No condition. -/
import Derived.Test.YthfaokiiciebdaaOne
namespace Go.Proofs.Ythfaokiiciebdaa
open Go.RowKit

set_option maxHeartbeats 400000 in
theorem frameOnes_walk (s0 : ByteArray) (w : World) (hs0 : s0.size ≤ maxLen) :
    Calls Try.prog 6 #[.string s0] w fun e w' => e = .returned (.bool true) ∧ Below w.heap.size w w' := by
  unfold maxLen at hs0
  go_enter Try.func6, Try.ntmps6
  go_upto_if 11 with (fail)
  go_cut [0] (fun v wx => ∃ s : ByteArray, v = .string s ∧ s.size ≤ 4096 ∧ w = wx)
  case first =>
    by_cases h : s0.size ≤ 4096
    · go_wp2
      go_meet
      exact ⟨_, rfl, h, rfl⟩
    · go_wp2
      go_meet
      exact ⟨_, rfl, by simp; omega, rfl⟩
  case rest =>
    obtain ⟨s, rfl, hs, rfl⟩ := hcut
    go_wp2_with fail
    refine (one_any s _ (by omega)).mono ?_
    rintro e w1 ⟨rfl, nq, rfl⟩
    go_wp2_with fail
    refine (refOne_any s _ (by omega)).mono ?_
    rintro e w1 ⟨rfl, hb⟩
    go_wp2_with fail
    refine (awake_any _).mono ?_
    rintro e w' ⟨rfl, rfl⟩
    go_wp2_with fail
    go_ret
    exact ⟨rfl, below_step (below_drewN (Below.refl _ _) nq) hb⟩
end Go.Proofs.Ythfaokiiciebdaa
