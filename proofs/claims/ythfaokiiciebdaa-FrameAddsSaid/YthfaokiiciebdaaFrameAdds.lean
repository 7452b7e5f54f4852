/- The walk of FrameAdds: a sum that goes on from any other is the document's, and that of a text is that of its parts. No condition. -/
import Derived.Test.YthfaokiiciebdaaRefAdd
namespace Go.Proofs.Ythfaokiiciebdaa
open Go.RowKit

set_option maxHeartbeats 400000 in
theorem frameAdds_walk (n : Int) (s t : ByteArray) (w : World) (_hn : (Lit.int .i64 n).wf = true) (hs : s.size ≤ maxLen) (ht : t.size ≤ maxLen) :
    Calls Try.prog 4 #[.int .i64 n, .string s, .string t] w fun e w' => e = .returned (.bool true) ∧ Below w.heap.size w w' := by
  unfold maxLen at hs ht
  by_cases h : s.size ≤ 2048
  · by_cases h2 : t.size ≤ 2048
    · have e1 : Crc.sum ((Crc.sum 0 s.data.toList : Int) % 4294967296).toNat t.data.toList = Crc.sum 0 (s ++ t).data.toList := by
        have := Crc.sum_lt 0 s.data.toList
        rw [show ((Crc.sum 0 s.data.toList : Int) % 4294967296).toNat = Crc.sum 0 s.data.toList by omega, Crc.sum_append]
        simp
      have E1 := Lib.hid e1
      clear e1
      go_enter Try.func4, Try.ntmps4
      go_wp2_with fail
      refine (add_any _ _ _ (by unfold maxLen; omega)).mono ?_
      rintro e w' ⟨rfl, rfl⟩
      go_wp2_with fail
      refine (refAdd_any _ _ _ (by omega)).mono ?_
      rintro e w1 ⟨rfl, hb⟩
      go_wp2_with fail
      refine (sum_any _ _ (by unfold maxLen; omega)).mono ?_
      rintro e w' ⟨rfl, rfl⟩
      go_wp2_with fail
      refine (add_any _ _ _ (by unfold maxLen; omega)).mono ?_
      rintro e w' ⟨rfl, rfl⟩
      go_wp2_with fail
      refine (sum_any _ _ (by unfold maxLen; simp; omega)).mono ?_
      rintro e w' ⟨rfl, rfl⟩
      rw [E1.out]
      go_wp2_with fail
      refine (awake_any _).mono ?_
      rintro e w' ⟨rfl, rfl⟩
      go_wp2_with fail
      go_ret
      exact ⟨rfl, hb⟩
    · go_enter Try.func4, Try.ntmps4
      go_wp2_with (go_at_call 14; refine (awake_any _).mono ?_; rintro e w' ⟨rfl, rfl⟩)
      go_ret
      exact ⟨rfl, Below.refl _ _⟩
  · go_enter Try.func4, Try.ntmps4
    go_wp2_with (go_at_call 14; refine (awake_any _).mono ?_; rintro e w' ⟨rfl, rfl⟩)
    go_ret
    exact ⟨rfl, Below.refl _ _⟩
end Go.Proofs.Ythfaokiiciebdaa
