/- The walk of ChunkMany: 4096 parts are as many as may be, and one more is not. No condition. -/
import Derived.Test.YtdhkdmnhkldebaaParts
import Derived.Test.YtdhkdmnhkldebaaBox
namespace Go.Proofs.Ytdhkdmnhkldebaa
open Go.RowKit

theorem info_byte : (Try.prog.info? 5).map (fun i => (i.zero, i.size, i.bytes)) = some (some (.int .u8 0), 1, 1) := by kernel_rfl
theorem npieces_one (n : Nat) (h : 1 ≤ n) : npieces n 1 = n := by unfold npieces; rw [Nat.div_one]; omega
theorem cut_zeros (n : Nat) (h1 : 4096 ≤ n) (h2 : n ≤ 4098) : ((cutOf (zeros n) 1).2 = if n = 4096 then 0 else 7) ∧ ((cutOf (zeros n) 1).1.length = if n = 4096 then 4096 else 0) := by
  have hz := zeros_size n
  have hn : npieces n 1 = n := npieces_one n (by omega)
  unfold cutOf
  rw [if_neg (by omega), hz, if_neg (by omega), show (1 : Int).toNat = 1 from rfl, hn]
  by_cases h : n = 4096
  · rw [if_neg (by omega), if_pos h, if_pos h]
    exact ⟨rfl, by show (cutParts (zeros n) 1).length = 4096; rw [cutParts_length, hz, hn]; exact h⟩
  · rw [if_pos (by omega), if_neg h, if_neg h]
    exact ⟨rfl, rfl⟩

set_option maxHeartbeats 1000000 in
theorem chunkMany_walk (more : Int) (w : World) (_h : (Lit.int .i64 more).wf = true) :
    Calls Try.prog 4 #[.int .i64 more] w fun e w' => e = .returned (.bool true) ∧ Below w.heap.size w w' := by
  by_cases h : more < 0 ∨ 2 < more
  · have hd : (decide (more < 0) || decide (2 < more)) = true := by simp only [Bool.or_eq_true, decide_eq_true_eq]; exact h
    clear h
    go_enter Try.func4, Try.ntmps4
    go_wp2_with (go_at_call 13; refine (awake_any _).mono ?_; rintro e w' ⟨rfl, hb⟩)
    all_goals (go_ret; exact ⟨rfl, hb⟩)
  · obtain ⟨m, rfl⟩ := Int.eq_ofNat_of_zero_le (show 0 ≤ more by omega)
    have hm : m ≤ 2 := by omega
    obtain ⟨n, hn⟩ : ∃ n : Nat, n = 4096 + m := ⟨_, rfl⟩
    have hni : (4096 : Int) + (m : Int) = (n : Int) := by omega
    have hn1 : 4096 ≤ n := by omega
    have hn2 : n ≤ 4098 := by omega
    have hz := zeros_size n
    obtain ⟨hc1, hc2⟩ := cut_zeros n hn1 hn2
    have Hc1 := Lib.hid hc1
    have Hc2 := Lib.hid hc2
    have Hz := Lib.hid hz
    have Hn := Lib.hid hn
    have hmk := fun W => run_make_one (P := Try.prog) 29 5 (.int .u8 0) 1 Try.underlying29 info_byte rfl n (by omega) (by omega) W
    have hcv := conv_zeros (P := Try.prog) w 29 5 9 Try.underlying29 Try.underlying5 Try.underlying9 n
    clear h hc1 hc2 hz hn
    by_cases hm0 : m = 0
    · have hd : ((m : Int) == 0) = true := by rw [hm0]; rfl
      have hn0 : n = 4096 := by rw [Hn.out, hm0]
      have Hn0 := Lib.hid hn0
      clear hm0 hn0
      go_enter Try.func4, Try.ntmps4
      go_wp2_with fail
      refine (cut_any _ 1 _ (by unfold maxLen; rw [Hz.out]; omega) (by omega)).mono ?_
      rintro e w1 ⟨v, rfl, hown, hb1⟩
      obtain ⟨ad, cap, rfl⟩ := row_shape hown
      rw [Hc1.out, Hc2.out, if_pos Hn0.out, if_pos Hn0.out]
      have hb01 := below_step ((Below.refl w.heap.size w).alloc (Nat.le_refl _) _) hb1
      clear hown hb1 hmk hcv
      go_wp2_with fail
      refine (new_any n _ (by omega) (by have := Hn0.out; omega)).mono ?_
      rintro e w2 ⟨b, gp, gh, rfl, _, _, _, _, hb2⟩
      go_wp2_with fail
      refine (awake_any _).mono ?_
      rintro e w3 ⟨rfl, hb3⟩
      go_wp2_with fail
      go_ret
      exact ⟨rfl, below_step (below_step hb01 hb2) hb3⟩
    · have hd : ((m : Int) == 0) = false := by simp; omega
      have hn0 : ¬ n = 4096 := by rw [Hn.out]; omega
      have Hn0 := Lib.hid hn0
      clear hm0 hn0
      go_enter Try.func4, Try.ntmps4
      go_wp2_with fail
      refine (cut_any _ 1 _ (by unfold maxLen; rw [Hz.out]; omega) (by omega)).mono ?_
      rintro e w1 ⟨v, rfl, hown, hb1⟩
      obtain ⟨ad, cap, rfl⟩ := row_shape hown
      rw [Hc1.out, Hc2.out, if_neg Hn0.out, if_neg Hn0.out]
      have hb01 := below_step ((Below.refl w.heap.size w).alloc (Nat.le_refl _) _) hb1
      clear hown hb1 hmk hcv
      go_wp2_with fail
      refine (new_no n _ (by have := Hn0.out; omega)).mono ?_
      rintro e w2 ⟨rfl, rfl⟩
      go_wp2_with fail
      refine (awake_any _).mono ?_
      rintro e w3 ⟨rfl, hb3⟩
      go_wp2_with fail
      go_ret
      exact ⟨rfl, below_step hb01 hb3⟩
end Go.Proofs.Ytdhkdmnhkldebaa
