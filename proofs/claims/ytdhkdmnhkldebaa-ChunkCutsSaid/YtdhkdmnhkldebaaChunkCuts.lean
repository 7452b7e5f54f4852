/- The walk of ChunkCuts: any text is cut as the document says, or it is refused. No condition. -/
import Derived.Test.YtdhkdmnhkldebaaRefCut
import Derived.Test.YtdhkdmnhkldebaaParts
namespace Go.Proofs.Ytdhkdmnhkldebaa
open Go.RowKit

theorem int_bounds {n : Int} (h : (Lit.int .i64 n).wf = true) : -9223372036854775808 ≤ n ∧ n ≤ 9223372036854775807 := by
  simp [Lit.wf, IntKind.min, IntKind.max, IntKind.bits, IntKind.signed] at h
  omega
theorem cutOf_length (s : ByteArray) (size : Int) : (cutOf s size).1.length ≤ 4096 := by
  unfold cutOf
  split
  · simp
  · split
    · simp
    · split
      · simp
      · simp [cutParts]; omega

set_option maxHeartbeats 400000 in
theorem chunkCuts_walk (s0 : ByteArray) (size : Int) (w : World) (hs0 : s0.size ≤ maxLen) (hz : (Lit.int .i64 size).wf = true) :
    Calls Try.prog 3 #[.string s0, .int .i64 size] w fun e w' => e = .returned (.bool true) ∧ Below w.heap.size w w' := by
  unfold maxLen at hs0
  have hb := int_bounds hz
  have Hb := Lib.hid hb
  clear hb hz
  go_enter Try.func3, Try.ntmps3
  go_upto_if 11 with (fail)
  go_cut [0] (fun v wx => ∃ s : ByteArray, v = .string s ∧ s.size ≤ 20000 ∧ w = wx)
  case first =>
    by_cases h : s0.size ≤ 20000
    · go_wp2
      go_meet
      exact ⟨_, rfl, h, rfl⟩
    · go_wp2
      go_meet
      exact ⟨_, rfl, by simp; omega, rfl⟩
  case rest =>
    obtain ⟨s, rfl, hs, rfl⟩ := hcut
    have hlen := cutOf_length s size
    go_wp2_with fail
    refine (cut_any s size _ (by unfold maxLen; omega) Hb.out).mono ?_
    rintro e w1 ⟨v1, rfl, hown1, hb1⟩
    have hr1 := Lib.hid (readsParts_own hown1)
    clear hown1
    go_wp2_with fail
    refine (refCut_any s size _ (by unfold maxLen; omega) Hb.out).mono ?_
    rintro e w2 ⟨v2, rfl, hown2, hb2⟩
    have hr2 := Lib.hid (readsParts_own hown2)
    clear hown2
    go_wp2_with fail
    refine (parts_any v1 v2 _ _ _ (readsParts_below hr1.out hb2) hr2.out (by omega) (by omega) rfl).mono ?_
    rintro e w3 ⟨rfl, hb3⟩
    go_wp2_with fail
    refine (awake_any _).mono ?_
    rintro e w4 ⟨rfl, hb4⟩
    go_wp2_with fail
    go_ret
    exact ⟨rfl, below_step (below_step (below_step hb1 hb2) hb3) hb4⟩
end Go.Proofs.Ytdhkdmnhkldebaa
