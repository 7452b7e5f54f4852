/- The walk of FrameFrames: a payload's frame is the document's, or it is refused. No condition. -/
import Derived.Test.YthfaokiiciebdaaAll
namespace Go.Proofs.Ythfaokiiciebdaa
open Go.RowKit

def bigObj : Obj := .cells (Array.replicate 65537 (Value.int .u8 0)) 5
def bigS : ByteArray := zeros 65537
theorem bigS_size : bigS.size = 65537 := zeros_size 65537
theorem big_make (W : World) : (Instr.makeSlice 27 (.int .i64 65537) (.int .i64 65537)).run Try.prog W = .ok (.slice (some ⟨W.heap.size, 0, none⟩) 65537 65537) (W.alloc bigObj) :=
  run_make_one (P := Try.prog) 27 5 (.int .u8 0) 1 Try.underlying27 info_u8 rfl 65537 (by omega) (by omega) W
theorem big_conv (W : World) : (convert 27 9 (.slice (some ⟨W.heap.size, 0, none⟩) 65537 65537)).run Try.prog (W.alloc bigObj) = .ok (.string bigS) (W.alloc bigObj) :=
  conv_zeros (P := Try.prog) W 27 5 9 Try.underlying27 Try.underlying5 Try.underlying9 65537

theorem all_two (s : ByteArray) (hs : s.size ≤ 4096) (w1 : World) :
    Calls Try.prog 21 #[.slice (some ⟨w1.heap.size + 1, 0, none⟩) 2 2] ((w1.alloc bigObj).alloc (.cells #[.string s, .string bigS] 9)) fun e w' =>
      e = .returned (.tuple #[.string ByteArray.empty, .int .i64 4]) ∧ Below w1.heap.size w1 w' := by
  have hb := bigS_size
  refine (all_any (some ⟨w1.heap.size + 1, 0, none⟩) 2 [s, bigS] ((w1.alloc bigObj).alloc (.cells #[.string s, .string bigS] 9)) (by simp) ?_ ?_).mono ?_
  · intro t ht
    unfold maxLen
    simp at ht
    rcases ht with rfl | rfl <;> omega
  · refine Or.inr ⟨w1.heap.size + 1, 0, rfl, by simp, ?_⟩
    intro k hk
    have e1 : w1.heap.size + 1 = (w1.alloc bigObj).heap.size := by simp
    rw [e1, Nat.zero_add, World.cell?_alloc_new]
    match k, hk with
    | 0, _ => rfl
    | 1, _ => rfl
  · rintro e w' ⟨h, hbel⟩
    rcases h with ⟨_, h⟩ | ⟨h, _⟩
    · have := h bigS (by simp)
      omega
    · exact ⟨h, below_step (((Below.refl _ _).alloc (Nat.le_refl _) _).alloc (by simp) _) hbel⟩

set_option maxHeartbeats 1000000 in
theorem frameFrames_walk (s0 : ByteArray) (long : Bool) (w : World) (hs0 : s0.size ≤ maxLen) :
    Calls Try.prog 8 #[.string s0, .bool long] w fun e w' => e = .returned (.bool true) ∧ Below w.heap.size w w' := by
  unfold maxLen at hs0
  go_enter Try.func8, Try.ntmps8
  go_upto_if 15 with (fail)
  go_cut [0] (fun v wx => ∃ s : ByteArray, v = .string s ∧ s.size ≤ 4096 ∧ w = wx)
  case first =>
    by_cases h : s0.size ≤ 4096
    · go_wp2
      go_meet
      exact ⟨_, rfl, h, rfl⟩
    · go_wp2
      go_meet
      exact ⟨_, rfl, by simp; omega, rfl⟩
  case rest =>
    obtain ⟨s, rfl, hs, rfl⟩ := hcut
    cases long with
    | true =>
      obtain ⟨n, hn⟩ : ∃ n : Nat, n = 65537 - s.size := ⟨_, rfl⟩
      have hn1 : (65537 : Int) - (s.size : Int) = (n : Int) := by omega
      have hn2 : n ≤ 65537 := by omega
      have hn3 : 65537 ≤ n + s.size := by omega
      clear hn
      have hmk := fun W => run_make_one (P := Try.prog) 27 5 (.int .u8 0) 1 Try.underlying27 info_u8 rfl n (by omega) (by omega) W
      have hcv := conv_zeros (P := Try.prog) w 27 5 9 Try.underlying27 Try.underlying5 Try.underlying9 n
      have hz := zeros_size n
      have Hz := Lib.hid hz
      have hsz : ¬ 9223372036854775807 < s.size + n := by omega
      go_wp2_with fail
      refine (frame_long _ _ (by simp [hz]; omega) (by unfold maxLen; simp [hz]; omega)).mono ?_
      rintro e w1 ⟨rfl, hw⟩
      have hb1 : Below w.heap.size w w1 := by rw [← hw]; exact (Below.refl _ _).alloc (Nat.le_refl _) _
      clear hw hcv hmk
      have hmk2 := big_make w1
      have hcv2 := big_conv w1
      go_wp2_with fail
      refine (all_two s hs w1).mono ?_
      rintro e w2 ⟨rfl, hb2⟩
      go_wp2_with fail
      refine (awake_any _).mono ?_
      rintro e w' ⟨rfl, rfl⟩
      go_wp2_with fail
      go_ret
      exact ⟨rfl, below_step hb1 hb2⟩
    | false =>
      go_wp2_with fail
      refine (frame_any _ _ (by omega)).mono ?_
      rintro e w1 ⟨rfl, hb1⟩
      go_wp2_with fail
      refine (refFrame_any _ _ (by omega)).mono ?_
      rintro e w2 ⟨rfl, hb2⟩
      go_wp2_with fail
      refine (awake_any _).mono ?_
      rintro e w' ⟨rfl, rfl⟩
      go_wp2_with fail
      go_ret
      exact ⟨rfl, below_step hb1 hb2⟩
end Go.Proofs.Ythfaokiiciebdaa
