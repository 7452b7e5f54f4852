/- The walks of Frame: a payload in a frame (frame and barqueref02). Condition: texts of at most 2^40 bytes. -/
import Derived.Test.YthfaokiiciebdaaFour
namespace Go.Proofs.Ythfaokiiciebdaa
open Go.RowKit

def sign2 : ByteArray := ⟨#[181, 126]⟩
def frm (s : ByteArray) : ByteArray := sign2 ++ four s.size ++ four (csum (four s.size ++ s)) ++ s
def frameOf (s : ByteArray) : ByteArray × Nat := if 65536 < s.size then (ByteArray.empty, 4) else (frm s, 0)

theorem csum_lt (s : ByteArray) : csum s < 4294967296 := Crc.sum_lt _ _

set_option maxHeartbeats 1000000 in
theorem frame_any (s : ByteArray) (w : World) (hs : s.size ≤ 65536) :
    Calls Try.prog 20 #[.string s] w fun e w' => e = .returned (.tuple #[.string (frm s), .int .i64 0]) ∧ Below w.heap.size w w' := by
  have hconv : ∀ (W : World) (g : Nat), W.cell? ⟨g, 0, none⟩ = some (.int .u8 181) → W.cell? ⟨g, 1, none⟩ = some (.int .u8 126) →
      (convert 27 9 (.slice (some ⟨g, 0, none⟩) 2 2)).run Try.prog W = .ok (.string sign2) W := by
    intro W g h0 h1
    refine run_convert_bytes_back W 27 9 5 ⟨g, 0, none⟩ 2 [181, 126] Try.underlying27 Try.underlying5 Try.underlying9 ?_
    intro j hj
    rw [addr_add]
    match j, hj with
    | 0, _ => exact h0
    | 1, _ => exact h1
  have h4 : ∀ n, (four n).size = 4 := four_size
  have hsg : sign2.size = 2 := rfl
  have hlen : ¬ 9223372036854775807 < 2 + 4 + 4 + s.size := by omega
  have hlen2 : ¬ 9223372036854775807 < 4 + s.size := by omega
  go_enter Try.func20, Try.ntmps20
  go_wp2_with fail
  refine (four_any _ _ (by omega)).mono ?_
  rintro e w1 ⟨rfl, hb⟩
  go_upto_region 4 with (fail)
  go_region_with (first | (go_at_call 12; refine (csum_any _ _ (by unfold maxLen; simp [h4]; omega)).mono ?_; rintro e w' ⟨rfl, rfl⟩) | (go_at_call 32; refine (four_exact _ _ (csum_lt _)).mono ?_; rintro e w' ⟨rfl, rfl⟩))
  all_goals go_wp2
  all_goals go_ret2
  all_goals
    refine ⟨rfl, below_step hb ?_⟩
    repeat (first | exact Below.refl _ _ | apply Below.drew | refine Below.alloc ?_ (by simp) _)

theorem frame_long (s : ByteArray) (w : World) (hs : 65536 < s.size) (hm : s.size ≤ maxLen) :
    Calls Try.prog 20 #[.string s] w fun e w' => e = .returned (.tuple #[.string ByteArray.empty, .int .i64 4]) ∧ w = w' := by
  unfold maxLen at hm
  go_enter Try.func20, Try.ntmps20
  go_wp2
  go_ret2
  exact ⟨rfl, rfl⟩

theorem refFrame_long (s : ByteArray) (w : World) (hs : 65536 < s.size) (hm : s.size ≤ maxLen) :
    Calls Try.prog 22 #[.string s] w fun e w' => e = .returned (.tuple #[.string ByteArray.empty, .int .i64 4]) ∧ w = w' := by
  unfold maxLen at hm
  go_enter Try.func22, Try.ntmps22
  go_wp2
  go_ret2
  exact ⟨rfl, rfl⟩

set_option maxHeartbeats 400000 in
theorem refFrame_any (s : ByteArray) (w : World) (hs : s.size ≤ 65536) :
    Calls Try.prog 22 #[.string s] w fun e w' => e = .returned (.tuple #[.string (frm s), .int .i64 0]) ∧ Below w.heap.size w w' := by
  have h4 : ∀ n, (four n).size = 4 := four_size
  go_enter Try.func22, Try.ntmps22
  go_wp2_with fail
  refine (refFour_any _ _ (by omega)).mono ?_
  rintro e w1 ⟨rfl, hb1⟩
  go_wp2_with fail
  refine (refCsum_any _ _ (by simp [h4]; omega)).mono ?_
  rintro e w2 ⟨rfl, hb2⟩
  go_wp2_with fail
  refine (refFour_any _ _ (csum_lt _)).mono ?_
  rintro e w3 ⟨rfl, hb3⟩
  go_wp2_with fail
  go_ret2
  exact ⟨rfl, below_step (below_step hb1 hb2) hb3⟩
end Go.Proofs.Ythfaokiiciebdaa
