/- The walk of FrameScans: in any bytes the frames are found that the document says, and as many bytes are lost. No condition. -/
import Derived.Test.YthfaokiiciebdaaScan
import Derived.Test.YthfaokiiciebdaaTexts
namespace Go.Proofs.Ythfaokiiciebdaa
open Go.RowKit

set_option maxHeartbeats 400000 in
theorem frameScans_walk (s0 : ByteArray) (w : World) (hs0 : s0.size ≤ maxLen) :
    Calls Try.prog 9 #[.string s0] w fun e w' => e = .returned (.bool true) ∧ Below w.heap.size w w' := by
  unfold maxLen at hs0
  go_enter Try.func9, Try.ntmps9
  go_upto_if 11 with (fail)
  go_cut [0] (fun v wx => ∃ s : ByteArray, v = .string s ∧ s.size ≤ 2048 ∧ w = wx)
  case first =>
    by_cases h : s0.size ≤ 2048
    · go_wp2
      go_meet
      exact ⟨_, rfl, h, rfl⟩
    · go_wp2
      go_meet
      exact ⟨_, rfl, by simp; omega, rfl⟩
  case rest =>
    obtain ⟨s, rfl, hs, rfl⟩ := hcut
    go_wp2_with fail
    refine (scan_any s _ (by omega)).mono ?_
    rintro e w1 ⟨v1, l, a, k, rfl, hsc, hown1, hb1, hl1⟩
    have Hsc := Lib.hid hsc
    clear hsc
    go_wp2_with fail
    refine (refScan_any s _ (by omega)).mono ?_
    rintro e w2 ⟨v2, l2, a2, k2, rfl, hsc2, hown2, hb2, hl2⟩
    have hll := Hsc.out
    rw [hsc2] at hll
    simp only [Prod.mk.injEq] at hll
    obtain ⟨rfl, rfl, rfl⟩ := hll
    clear hsc2
    have hr1 := Lib.hid (readsStrs_below (readsStrs_own hown1) hb2)
    have hr2 := Lib.hid (readsStrs_own hown2)
    go_wp2_with fail
    refine (texts_any v1 v2 l2 l2 _ hr1.out hr2.out (by omega) (by omega)).mono ?_
    rintro e w3 ⟨rfl, hb3⟩
    go_wp2_with fail
    refine (awake_any _).mono ?_
    rintro e w' ⟨rfl, rfl⟩
    go_wp2_with fail
    go_ret
    exact ⟨rfl, below_step (below_step hb1 hb2) hb3⟩
end Go.Proofs.Ythfaokiiciebdaa
