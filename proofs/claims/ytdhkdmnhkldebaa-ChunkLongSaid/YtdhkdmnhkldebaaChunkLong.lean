/- The walk of ChunkLong: parts that are too long together are refused, and a text that is too long is not cut. No condition. -/
import Derived.Test.YtdhkdmnhkldebaaChunkOther
namespace Go.Proofs.Ytdhkdmnhkldebaa
open Go.RowKit

def bigN : Nat := 524288
def bigObj : Obj := .cells (Array.replicate bigN (Value.int .u8 0)) 5
def bigS : ByteArray := zeros bigN
theorem bigS_size : bigS.size = 524288 := zeros_size bigN
theorem big_make (W : World) : (Instr.makeSlice 29 (.int .i64 524288) (.int .i64 524288)).run Try.prog W = .ok (.slice (some ⟨W.heap.size, 0, none⟩) bigN bigN) (W.alloc bigObj) :=
  run_make_one (P := Try.prog) 29 5 (.int .u8 0) 1 Try.underlying29 info_byte rfl bigN (by unfold bigN; omega) (by unfold bigN; omega) W
theorem big_conv (W : World) : (convert 29 9 (.slice (some ⟨W.heap.size, 0, none⟩) bigN bigN)).run Try.prog (W.alloc bigObj) = .ok (.string bigS) (W.alloc bigObj) :=
  conv_zeros (P := Try.prog) W 29 5 9 Try.underlying29 Try.underlying5 Try.underlying9 bigN
theorem cut_long (n : Nat) (h1 : 524288 ≤ n) (h2 : n ≤ 524290) : (cutOf (zeros n) 1024).2 = if n = 524288 then 0 else 4 := by
  have hz := zeros_size n
  unfold cutOf
  rw [if_neg (by omega), hz]
  by_cases h : n = 524288
  · rw [if_neg (by omega), if_pos h, show (1024 : Int).toNat = 1024 from rfl, if_neg (by unfold npieces; omega)]
  · rw [if_pos (by omega), if_neg h]

def two : List (Option ByteArray) := List.replicate 2 none
def second : List (Option ByteArray) := two.set 1 (some bigS)
theorem two_def : two = List.replicate 2 none := rfl
theorem two_len : two.length = 2 := rfl
theorem second_len : second.length = 2 := rfl
theorem second_size : size second = 524288 := by
  have h := size_set two 1 bigS (by decide) rfl
  rw [bigS_size] at h
  have h2 : size two = 0 := size_new 2
  unfold second
  omega
theorem second_left : left second = 1 := by
  have h := left_set two 1 bigS (by decide) rfl
  have h2 : left two = 2 := left_new 2
  unfold second
  omega
theorem put_second : putOf two 1 2 bigS = (second, 0) := by
  have h2 : size two = 0 := size_new 2
  exact putOf_new (m := two) (i := 1) (by decide) rfl bigS (by rw [bigS_size, h2]; omega)

theorem put_first (t : ByteArray) (h : t.size = 0) : ∃ m2, putOf second 0 2 t = (m2, 0) ∧ left m2 = 0 := by
  refine ⟨second.set 0 (some t), putOf_new (m := second) (i := 0) (by decide) rfl t (by rw [second_size, h]; omega), ?_⟩
  have h := left_set second 0 t (by decide) rfl
  rw [second_left] at h
  omega
theorem put_more (t : ByteArray) (h : 0 < t.size) : putOf second 0 2 t = (second, 4) :=
  putOf_long (m := second) (i := 0) (by decide) rfl t (by rw [second_size]; omega)
theorem two_size : size two = 0 := size_new 2
attribute [irreducible] second two bigS bigObj bigN

set_option maxRecDepth 100000 in
set_option maxHeartbeats 1000000 in
theorem chunkLong_walk (more : Int) (w : World) (_h : (Lit.int .i64 more).wf = true) :
    Calls Try.prog 6 #[.int .i64 more] w fun e w' => e = .returned (.bool true) ∧ Below w.heap.size w w' := by
  by_cases h : more < 0 ∨ 2 < more
  · have hd : (decide (more < 0) || decide (2 < more)) = true := by simp only [Bool.or_eq_true, decide_eq_true_eq]; exact h
    clear h
    go_enter Try.func6, Try.ntmps6
    go_wp2_with (go_at_call 13; refine (awake_any _).mono ?_; rintro e w' ⟨rfl, hb⟩)
    all_goals (go_ret; exact ⟨rfl, hb⟩)
  · obtain ⟨m, rfl⟩ := Int.eq_ofNat_of_zero_le (show 0 ≤ more by omega)
    have hm : m ≤ 2 := by omega
    obtain ⟨n, hn⟩ : ∃ n : Nat, n = 524288 + m := ⟨_, rfl⟩
    have hni : (524288 : Int) + (m : Int) = (n : Int) := by omega
    have hn1 : 524288 ≤ n := by omega
    have hn2 : n ≤ 524290 := by omega
    have hz := zeros_size n
    have Hz := Lib.hid hz
    have Hn := Lib.hid hn
    have Hzm := Lib.hid (zeros_size m)
    have Hc := Lib.hid (cut_long n hn1 hn2)
    have hcase : ∃ m2 r c, putOf second 0 2 (zeros m) = (m2, r) ∧ (cutOf (zeros n) 1024).2 = c ∧ ((((m : Int) == 0) = true ∧ r = 0 ∧ c = 0 ∧ left m2 = 0) ∨ (((m : Int) == 0) = false ∧ r = 4 ∧ c = 4 ∧ left m2 = 1)) := by
      by_cases hm0 : m = 0
      · obtain ⟨m2, hp, hl⟩ := put_first (zeros m) (by rw [zeros_size, hm0])
        exact ⟨m2, 0, 0, hp, by rw [Hc.out, if_pos (by omega)], Or.inl ⟨by rw [hm0]; rfl, rfl, rfl, hl⟩⟩
      · exact ⟨second, 4, 4, put_more (zeros m) (by rw [zeros_size]; omega), by rw [Hc.out, if_neg (by omega)], Or.inr ⟨by simp; omega, rfl, rfl, second_left⟩⟩
    obtain ⟨m2, r, c, hp, hc, hcase⟩ := hcase
    have Hp := Lib.hid hp
    have Hcc := Lib.hid hc
    have hsz2 : Hid (size second ≤ 524288) := by show size second ≤ 524288; rw [second_size]; omega
    have Hcase := Lib.hid hcase
    clear h hz hn hp hc hcase
    go_enter Try.func6, Try.ntmps6
    go_wp2_with fail
    refine (new_known 2 _ (by omega) (by omega)).mono ?_
    rintro e w1 ⟨b, gp, gh, rfl, hbox1, hfresh, hb1⟩
    have hmk2 := big_make w1
    have hcv2 := big_conv w1
    go_wp2_with fail
    refine (put_known b gp gh two second 1 2 bigS 0 _ ?_ (by rw [two_len]; omega) (by rw [two_size]; omega) (by unfold maxLen; rw [bigS_size]; omega) put_second).mono ?_
    · have hx := hbox1.out
      rw [← two_def] at hx
      exact boxAt_same hx ((Below.refl _ _).alloc (Nat.le_refl _) _)
    rintro e w2 ⟨rfl, hbox2, ht2⟩
    have hb2 := touch_step (hb1.alloc hb1.size bigObj) hfresh.out ht2
    clear hmk2 hcv2
    have hmk3 := run_make_one (P := Try.prog) 29 5 (.int .u8 0) 1 Try.underlying29 info_byte rfl m (by omega) (by omega) w2
    have hcv3 := conv_zeros (P := Try.prog) w2 29 5 9 Try.underlying29 Try.underlying5 Try.underlying9 m
    go_wp2_with fail
    refine (put_known b gp gh second m2 0 2 (zeros m) r _ ?_ (by rw [second_len]; omega) hsz2.out (by unfold maxLen; rw [Hzm.out]; omega) Hp.out).mono ?_
    · exact boxAt_same hbox2.out ((Below.refl _ _).alloc (Nat.le_refl _) _)
    rintro e w3 ⟨rfl, hbox3, ht3⟩
    have hb3 := touch_step (hb2.alloc hb2.size _) hfresh.out ht3
    clear hmk3 hcv3
    have hmk4 := run_make_one (P := Try.prog) 29 5 (.int .u8 0) 1 Try.underlying29 info_byte rfl n (by omega) (by omega) w3
    have hcv4 := conv_zeros (P := Try.prog) w3 29 5 9 Try.underlying29 Try.underlying5 Try.underlying9 n
    go_wp2_with fail
    refine (cut_any _ 1024 _ (by unfold maxLen; rw [Hz.out]; omega) (by omega)).mono ?_
    rintro e w4 ⟨v, rfl, hown, hb4⟩
    rw [Hcc.out]
    have hb34 : Below w3.heap.size w3 w4 := below_step ((Below.refl _ _).alloc (Nat.le_refl _) _) hb4
    have hb04 := below_step hb3 hb34
    have hbox4 := Lib.hid (boxAt_same hbox3.out hb34)
    clear hmk4 hcv4 hown
    rcases Hcase.out with ⟨hd, rfl, rfl, hl⟩ | ⟨hd, rfl, rfl, hl⟩
    all_goals
      have Hl := Lib.hid hl
      clear hl
      go_wp2_with fail
      refine (leftOf_any b gp gh m2 _ hbox4.out).mono ?_
      rintro e w5 ⟨rfl, rfl⟩
      rw [Hl.out]
      go_wp2_with fail
      refine (awake_any _).mono ?_
      rintro e w6 ⟨rfl, hb6⟩
      go_wp2_with fail
      go_ret
      exact ⟨rfl, below_step hb04 hb6⟩
end Go.Proofs.Ytdhkdmnhkldebaa
