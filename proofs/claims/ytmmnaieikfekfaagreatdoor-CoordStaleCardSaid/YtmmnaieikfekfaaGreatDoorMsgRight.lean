/- The walks of the document's Fields, Has, number, fits, Right (layer 17) at a message that asks for a promise. Condition: its numbers are in range. -/
import Derived.Test.YtmmnaieikfekfaaGreatDoorTick
import Derived.StillTailTactics
namespace Go.Proofs.YtmmnaieikfekfaaGreatDoor
open Go Go.RowKit
set_option linter.unusedVariables false

theorem fields_one (w : World) : Calls Tryz.prog 91 #[.int .i64 1] w fun e w' => e = .returned (.string ⟨#[66]⟩) ∧ w = w' := by
  go_enter Tryz.func91, Tryz.ntmps91
  go_wp2
  go_ret
  exact ⟨rfl, rfl⟩
theorem fits_any (n : Int) (w : World) (h0 : 0 ≤ n) (h1 : n ≤ 4611686018427387903) : Calls Tryz.prog 116 #[.int .i64 n] w fun e w' => e = .returned (.bool true) ∧ w = w' := by
  go_enter Tryz.func116, Tryz.ntmps116
  go_wp2
  go_ret
  exact ⟨rfl, rfl⟩
set_option maxRecDepth 100000 in
theorem has_one (x : Int) (w : World) : Calls Tryz.prog 115 #[.int .i64 1, .int .u8 x] w fun e w' => e = .returned (.bool ((66 : Int) == x)) ∧ w = w' := by
  have H := Lib.hid (fields_one w)
  cases hx : ((66 : Int) == x) with
  | true =>
    have hx2 : ((((⟨#[66]⟩ : ByteArray)[0]'(by decide)).toNat : Int) == x) = true := hx
    go_enter Tryz.func115, Tryz.ntmps115
    go_wp2_with fail
    refine H.out.mono ?_
    rintro e w1 ⟨rfl, rfl⟩
    go_wp2_with fail
    refine wp_loop_rounds 2 ?_
    rw [rounds_succ]
    go_wp2
    go_ret
    exact ⟨rfl, rfl⟩
  | false =>
    have hx2 : ((((⟨#[66]⟩ : ByteArray)[0]'(by decide)).toNat : Int) == x) = false := hx
    go_enter Tryz.func115, Tryz.ntmps115
    go_wp2_with fail
    refine H.out.mono ?_
    rintro e w1 ⟨rfl, rfl⟩
    go_wp2_with fail
    refine wp_loop_rounds 3 ?_
    rw [rounds_succ]
    go_wp2
    rw [rounds_succ]
    go_wp2
    go_ret
    exact ⟨rfl, rfl⟩
theorem number_b (kind id v bal : Int) (w : World) : Calls Tryz.prog 93 #[.agg #[.int .i64 kind, .int .i64 id, .int .i64 v, .int .i64 bal, .int .i64 0, .int .i64 0, .int .i64 0, .int .i64 0, .int .i64 0, .string ⟨#[]⟩, .int .i64 0, .int .i64 0, .string ⟨#[]⟩, .slice none 0 0], .int .u8 66] w fun e w' => e = .returned (.int .i64 bal) ∧ Below w.heap.size w w' := by
  have HB := Lib.hid ((Below.refl w.heap.size w).alloc (Nat.le_refl _) (.cells #[.int .i64 kind, .int .i64 id, .int .i64 v, .int .i64 bal, .int .i64 0, .int .i64 0, .int .i64 0, .int .i64 0, .int .i64 0, .string ⟨#[]⟩, .int .i64 0, .int .i64 0, .string ⟨#[]⟩, .slice none 0 0] 61))
  go_enter Tryz.func93, Tryz.ntmps93
  go_wp2
  go_ret
  exact ⟨rfl, HB.out⟩
theorem number_0 (kind id v bal x : Int) (w : World) (hx : x = 71 ∨ x = 83 ∨ x = 70 ∨ x = 84 ∨ x = 82) : Calls Tryz.prog 93 #[.agg #[.int .i64 kind, .int .i64 id, .int .i64 v, .int .i64 bal, .int .i64 0, .int .i64 0, .int .i64 0, .int .i64 0, .int .i64 0, .string ⟨#[]⟩, .int .i64 0, .int .i64 0, .string ⟨#[]⟩, .slice none 0 0], .int .u8 x] w fun e w' => e = .returned (.int .i64 0) ∧ Below w.heap.size w w' := by
  have HB := Lib.hid ((Below.refl w.heap.size w).alloc (Nat.le_refl _) (.cells #[.int .i64 kind, .int .i64 id, .int .i64 v, .int .i64 bal, .int .i64 0, .int .i64 0, .int .i64 0, .int .i64 0, .int .i64 0, .string ⟨#[]⟩, .int .i64 0, .int .i64 0, .string ⟨#[]⟩, .slice none 0 0] 61))
  rcases hx with rfl | rfl | rfl | rfl | rfl
  all_goals
    go_enter Tryz.func93, Tryz.ntmps93
    go_wp2
    go_ret
    exact ⟨rfl, HB.out⟩

def prepVals (id v bal : Int) : List Value := [.int .i64 1, .int .i64 id, .int .i64 v, .int .i64 bal, .int .i64 0, .int .i64 0, .int .i64 0, .int .i64 0, .int .i64 0, .string ⟨#[]⟩, .int .i64 0, .int .i64 0, .string ⟨#[]⟩, .slice none 0 0]
set_option maxRecDepth 100000 in
set_option maxHeartbeats 4000000 in
theorem right_prep (id v bal : Int) (w : World) (h1 : 0 ≤ id ∧ id ≤ 255) (h2 : 0 ≤ v ∧ v ≤ 255) (h3 : 0 ≤ bal ∧ bal ≤ 4611686018427387903) :
    Calls Tryz.prog 90 #[.agg #[.int .i64 1, .int .i64 id, .int .i64 v, .int .i64 bal, .int .i64 0, .int .i64 0, .int .i64 0, .int .i64 0, .int .i64 0, .string ⟨#[]⟩, .int .i64 0, .int .i64 0, .string ⟨#[]⟩, .slice none 0 0]] w fun e w' => e = .returned (.bool true) ∧ Below w.heap.size w w' := by
  obtain ⟨h1, h1'⟩ := h1
  obtain ⟨h2, h2'⟩ := h2
  obtain ⟨h3, h3'⟩ := h3
  have HB := Lib.hid ((Below.refl w.heap.size w).alloc (Nat.le_refl _) (.cells #[.int .i64 1, .int .i64 id, .int .i64 v, .int .i64 bal, .int .i64 0, .int .i64 0, .int .i64 0, .int .i64 0, .int .i64 0, .string ⟨#[]⟩, .int .i64 0, .int .i64 0, .string ⟨#[]⟩, .slice none 0 0] 61))
  have HQ := Lib.hid (Blk.new w (prepVals id v bal) 61)
  have HF := Lib.hid (fun w1 => fits_any bal w1 h3 h3')
  go_enter Tryz.func90, Tryz.ntmps90
  go_wp2_with fail
  refine (fields_one _).mono ?_
  rintro e w1 ⟨rfl, rfl⟩
  go_wp2_with fail
  have HB1 := Lib.hid (show Below w.heap.size w (w.alloc (.cells (prepVals id v bal).toArray 61)) from HB.out)
  go_loopw [4, 5] (fun i _ wr => ∃ k : Nat, i = .int .i64 k ∧ k ≤ 6 ∧ Hid (Blk wr w.heap.size (prepVals id v bal) 61) ∧ Below w.heap.size w wr) (fun i _ _ => 6 - (intOf i).toNat)
  case atStart => exact ⟨0, rfl, by omega, HQ, HB.out⟩
  case round =>
    obtain ⟨k, rfl, hk, HQ2, hbr⟩ := hrel
    clear HQ HB HB1
    have q0 : wr.cell? ⟨w.heap.size, 0, none⟩ = some (.int .i64 1) := HQ2.out.cell 0
    have q1 : wr.cell? ⟨w.heap.size, 1, none⟩ = some (.int .i64 id) := HQ2.out.cell 1
    have q2 : wr.cell? ⟨w.heap.size, 2, none⟩ = some (.int .i64 v) := HQ2.out.cell 2
    have q3 : wr.cell? ⟨w.heap.size, 3, none⟩ = some (.int .i64 bal) := HQ2.out.cell 3
    have q4 : wr.cell? ⟨w.heap.size, 4, none⟩ = some (.int .i64 0) := HQ2.out.cell 4
    have q5 : wr.cell? ⟨w.heap.size, 5, none⟩ = some (.int .i64 0) := HQ2.out.cell 5
    have q6 : wr.cell? ⟨w.heap.size, 6, none⟩ = some (.int .i64 0) := HQ2.out.cell 6
    have q7 : wr.cell? ⟨w.heap.size, 7, none⟩ = some (.int .i64 0) := HQ2.out.cell 7
    have q8 : wr.cell? ⟨w.heap.size, 8, none⟩ = some (.int .i64 0) := HQ2.out.cell 8
    have q9 : wr.cell? ⟨w.heap.size, 9, none⟩ = some (.string ⟨#[]⟩) := HQ2.out.cell 9
    have q10 : wr.cell? ⟨w.heap.size, 10, none⟩ = some (.int .i64 0) := HQ2.out.cell 10
    have q11 : wr.cell? ⟨w.heap.size, 11, none⟩ = some (.int .i64 0) := HQ2.out.cell 11
    have q12 : wr.cell? ⟨w.heap.size, 12, none⟩ = some (.string ⟨#[]⟩) := HQ2.out.cell 12
    have q13 : wr.cell? ⟨w.heap.size, 13, none⟩ = some (.slice none 0 0) := HQ2.out.cell 13
    have hql := HQ2.out.lt
    by_cases hlt : k < 6
    · have hkk : k = 0 ∨ k = 1 ∨ k = 2 ∨ k = 3 ∨ k = 4 ∨ k = 5 := by omega
      have HN : Hid (∀ w1, Calls Tryz.prog 93 #[.agg #[.int .i64 1, .int .i64 id, .int .i64 v, .int .i64 bal, .int .i64 0, .int .i64 0, .int .i64 0, .int .i64 0, .int .i64 0, .string ⟨#[]⟩, .int .i64 0, .int .i64 0, .string ⟨#[]⟩, .slice none 0 0], .int .u8 (((⟨#[66, 71, 83, 70, 84, 82]⟩ : ByteArray)[k]'(show k < 6 from hlt)).toNat : Int)] w1 fun e w' => e = .returned (.int .i64 (if k = 0 then bal else 0)) ∧ Below w1.heap.size w1 w') := Lib.hid (fun w1 => by
        rcases hkk with rfl | rfl | rfl | rfl | rfl | rfl
        · exact number_b 1 id v bal w1
        · exact number_0 1 id v bal 71 w1 (by omega)
        · exact number_0 1 id v bal 83 w1 (by omega)
        · exact number_0 1 id v bal 70 w1 (by omega)
        · exact number_0 1 id v bal 84 w1 (by omega)
        · exact number_0 1 id v bal 82 w1 (by omega))
      have HH : Hid (∀ w1, Calls Tryz.prog 115 #[.int .i64 1, .int .u8 (((⟨#[66, 71, 83, 70, 84, 82]⟩ : ByteArray)[k]'(show k < 6 from hlt)).toNat : Int)] w1 fun e w' => e = .returned (.bool (decide (k = 0))) ∧ w1 = w') := Lib.hid (fun w1 => by
        rcases hkk with rfl | rfl | rfl | rfl | rfl | rfl
        all_goals exact has_one _ w1)
      have hks : k < (⟨#[66, 71, 83, 70, 84, 82]⟩ : ByteArray).size := hlt
      clear hkk
      go_upto_region 7 with fail
      go_still_tail 4, (by kernel_rfl)
      change wpList _ _ _ _ _ wr.drew
      have HQ3 := Lib.hid HQ2.out.drew
      have hbr3 := hbr.drew
      have hql3 : w.heap.size < wr.drew.heap.size := hql
      generalize wr.drew = w3 at HQ3 hbr3 hql3 ⊢
      clear q0 q1 q2 q3 q4 q5 q6 q7 q8 q9 q10 q11 q12 q13 HQ2 hbr hql
      go_wp2_with fail
      refine (HN.out _).mono ?_
      rintro e w4 ⟨rfl, hb4⟩
      have HQ4 := Lib.hid (HQ3.out.below hb4)
      have hbr4 := below_step hbr3 hb4
      have p0 : w4.cell? ⟨w.heap.size, 0, none⟩ = some (.int .i64 1) := HQ4.out.cell 0
      clear HQ3 hbr3 hb4 HN
      by_cases hk0 : k = 0
      · rw [if_pos hk0]
        rw [decide_eq_true hk0] at HH
        clear hk0
        go_wp2_with fail
        go_quiet (first | (go_at_call 115; first | exact quiet_left (HH.out _) | exact quiet_add_left (HH.out _)) | (go_at_call 116; first | exact quiet_left (HF.out _) | exact quiet_add_left (HF.out _)))
        go_wp2_with fail
        go_roundw
        case rel => exact ⟨k + 1, by go_num, by omega, Lib.hid HQ4.out.drew, below_drewN hbr4 _⟩
        case measure => simp [intOf]; omega
      · rw [if_neg hk0]
        rw [decide_eq_false hk0] at HH
        clear hk0
        go_wp2_with fail
        go_quiet (first | (go_at_call 115; first | exact quiet_left (HH.out _) | exact quiet_add_left (HH.out _)) | (go_at_call 116; first | exact quiet_left (HF.out _) | exact quiet_add_left (HF.out _)))
        go_wp2_with fail
        go_roundw
        case rel => exact ⟨k + 1, by go_num, by omega, Lib.hid HQ4.out.drew, below_drewN hbr4 _⟩
        case measure => simp [intOf]; omega
    · obtain rfl : k = 6 := by omega
      have b2 := hbr.alloc hbr.size (.cells #[.int .i64 0, .int .i64 0, .string ⟨#[]⟩] 58)
      have hHas := Lib.hid (show ∀ x w1, ((66 : Int) == x) = false → Calls Tryz.prog 115 #[.int .i64 1, .int .u8 x] w1 fun e w' => e = .returned (.bool false) ∧ w1 = w' from fun x w1 hx => (has_one x w1).mono (fun e w' ⟨he, hw⟩ => ⟨by rw [he, hx], hw⟩))
      clear hlt hk
      go_wp2_with (go_at_call 115; refine (hHas.out _ _ (by decide)).mono ?_; rintro e w' ⟨rfl, rfl⟩)
      go_ret
      exact ⟨rfl, b2⟩
end Go.Proofs.YtmmnaieikfekfaaGreatDoor
