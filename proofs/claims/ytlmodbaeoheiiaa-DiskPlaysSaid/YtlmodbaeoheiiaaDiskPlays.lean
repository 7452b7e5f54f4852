/- DiskPlays: whatever is done to a device, its files, its power, it answers and stands as the document's. Conditions: the row's. -/
import Derived.Test.YtlmodbaeoheiiaaPlay
namespace Go.Proofs.Ytlmodbaeoheiiaa
open Go.RowKit
set_option linter.unusedVariables false

set_option maxRecDepth 100000 in
set_option maxHeartbeats 3200000 in
theorem plays_big (sec : Int) (oa : Option Addr) (oc : Nat) (L : List OpR) (w : World) (hgood : 0 ≤ sec ∧ sec ≤ 32768) (hbig : 200 < sec) (hL : L.length ≤ maxLen) :
    Calls Try.prog 7 #[.int .i64 sec, .slice oa L.length oc] w fun e w' => e = .returned (.bool true) ∧ Below w.heap.size w w' := by
  have HA := Lib.hid (fun w => awake_any w)
  have HN := Lib.hid (newDisk_any sec w hgood)
  have h01 : ¬ (sec < 0) := by omega
  have h02 : ¬ (32768 < sec) := by omega
  unfold maxLen at hL
  have HF := Lib.hid (show ∀ b w1, DiskAt w1 b ⟨.slice none 0 0, .slice none 0 0, [], [], sec, -1, false, 0, 0⟩ → Calls Try.prog 18 #[.pointer (some ⟨b, 0, none⟩)] w1 fun e w2 => e = .returned (.int .i64 sec) ∧ Below w1.heap.size w1 w2 from fun b w1 h => by
    refine (free_any b _ w1 h (Nat.zero_le _) (fun f hf => (by cases hf)) hgood).mono ?_
    rintro e w2 ⟨rfl, j, rfl⟩
    refine ⟨?_, below_drewN (Below.refl _ _) j⟩
    show Ending.returned (.int .i64 (sec - ((0 : Nat) : Int))) = _
    rw [Int.natCast_zero, Int.sub_zero])
  go_enter Try.func7, Try.ntmps7
  go_wp2_with fail
  refine HN.out.mono ?_
  rintro e w1 ⟨b, rfl, rfl, hD, hB⟩
  have HD := Lib.hid hD
  have HB := Lib.hid hB
  clear hD hB
  go_wp2_with fail
  refine (HF.out _ _ HD.out).mono ?_
  rintro e w2 ⟨rfl, hb2⟩
  have HB2 := Lib.hid (HB.out.trans (hb2.mono HB.out.size))
  clear hb2
  go_wp2_with fail
  refine (HA.out _).mono ?_
  rintro e w3 ⟨rfl, hb3⟩
  have HB3 := Lib.hid (HB2.out.trans (hb3.mono HB2.out.size))
  clear hb3
  go_wp2_with fail
  go_ret
  exact ⟨rfl, HB3.out⟩
set_option maxRecDepth 100000 in
set_option maxHeartbeats 3200000 in
theorem plays_bad (sec : Int) (oa : Option Addr) (oc : Nat) (L : List OpR) (w : World) (hbad : sec < 0 ∨ 32768 < sec) (hL : L.length ≤ maxLen) :
    Calls Try.prog 7 #[.int .i64 sec, .slice oa L.length oc] w fun e w' => e = .returned (.bool true) ∧ Below w.heap.size w w' := by
  have HA := Lib.hid (fun w => awake_any w)
  unfold maxLen at hL
  have HN := Lib.hid (newDisk_no sec w hbad)
  have hd : (decide (sec < 0) || decide (32768 < sec)) = true := by simp only [Bool.or_eq_true, decide_eq_true_eq]; exact hbad
  by_cases h0 : sec < 0
  · clear hbad
    go_enter Try.func7, Try.ntmps7
    go_wp2_with fail
    refine HN.out.mono ?_
    rintro e w1 ⟨rfl, rfl⟩
    go_wp2_with fail
    refine (HA.out _).mono ?_
    rintro e w2 ⟨rfl, hb⟩
    have HB := Lib.hid hb
    clear hb
    go_wp2_with fail
    go_ret
    exact ⟨rfl, HB.out⟩
  · have h1 : 32768 < sec := by omega
    clear hbad
    go_enter Try.func7, Try.ntmps7
    go_wp2_with fail
    refine HN.out.mono ?_
    rintro e w1 ⟨rfl, rfl⟩
    go_wp2_with fail
    refine (HA.out _).mono ?_
    rintro e w2 ⟨rfl, hb⟩
    have HB := Lib.hid hb
    clear hb
    go_wp2_with fail
    go_ret
    exact ⟨rfl, HB.out⟩
end Go.Proofs.Ytlmodbaeoheiiaa
namespace Go.Proofs.Ytlmodbaeoheiiaa
open Go.RowKit
set_option linter.unusedVariables false

set_option maxRecDepth 100000 in
set_option maxHeartbeats 3200000 in
theorem plays_ok (sec : Int) (oa : Option Addr) (oc : Nat) (L : List OpR) (w : World) (hgood : 0 ≤ sec ∧ sec ≤ 32768) (hbig : ¬ 200 < sec) (hL : L.length ≤ maxLen) (ho : OpsAt w oa L) :
    Calls Try.prog 7 #[.int .i64 sec, .slice oa L.length oc] w fun e w' => e = .returned (.bool true) ∧ Below w.heap.size w w' := by
  have HA := Lib.hid (fun w => awake_any w)
  have HN := Lib.hid (newDisk_any sec w hgood)
  have h01 : ¬ (sec < 0) := by omega
  have h02 : ¬ (32768 < sec) := by omega
  unfold maxLen at hL
  have Ho := Lib.hid ho
  clear ho
  go_enter Try.func7, Try.ntmps7
  go_wp2_with fail
  refine HN.out.mono ?_
  rintro e w1 ⟨b, rfl, rfl, hD, hB⟩
  obtain ⟨S0, R0, hP0⟩ := new_duo sec w w1 _ _ w1.heap.size hgood hB rfl hD rfl rfl
  have HP0 := Lib.hid hP0
  clear hD hB hP0
  go_wp2_with fail
  go_loopw [5, 8] (fun d i wr => ∃ (k b : Nat) (S : DSt) (R : RSt), d = .pointer (some ⟨b, 0, none⟩) ∧ i = .int .i64 k ∧ k ≤ L.length ∧ k ≤ 80 ∧ Hid (Play w b w1.heap.size (k * 702) S R wr)) (fun _ i _ => 80 - (intOf i).toNat)
  case atStart => exact ⟨0, _, S0, R0, rfl, rfl, Nat.zero_le _, by omega, HP0⟩
  case round =>
    clear HP0
    obtain ⟨k, b, S, R, rfl, rfl, hk1, hk2, HP⟩ := hrel
    by_cases hin : k < L.length ∧ k < 80
    · obtain ⟨hlt, hlt4⟩ := hin
      obtain ⟨ob, off, rfl, hob, hop⟩ : ∃ ob off, oa = some ⟨ob, off, none⟩ ∧ ob < w.heap.size ∧ OpAt w ob (off + k * 7) L[k] := by
        rcases Ho.out with h | ⟨ob, off, h1, h2, h3⟩
        · rw [h] at hlt; simp at hlt
        · exact ⟨ob, off, h1, h2, h3 k hlt⟩
      obtain ⟨xa, xc, hcl, hx, hxl, hwf⟩ := opAt_cells hop hob
      have HCL := Lib.hid hcl
      have HST := Lib.hid (fun (c : Nat) (S' : DSt) (R' : RSt) (w' : World) (h : Play w c w1.heap.size (k * 702) S' R' w') => h.step (x := L[k]) (xa := xa) (xc := xc) (by omega) hwf hx hxl)
      clear hop hx hxl hwf hcl
      generalize L[k] = x at HCL HST
      obtain ⟨c0, c1, c2, c3, c4, c5, c6, hobr⟩ := HCL.out wr HP.out.bel
      by_cases k12 : x.kind = 12
      · rw [k12] at c0
        simp only [k12] at HST
        have HCP := Lib.hid (HP.out.copy (by omega))
        go_wp2_with fail
        refine HCP.out.mono ?_
        rintro e w2 ⟨c, S', rfl, hT⟩
        have HC := Lib.hid (hT.create (by omega))
        clear hT HCP HP c0 c1 c2 c3 c4 c5 c6
        go_wp2_with fail
        refine HC.out.mono ?_
        rintro e w3 ⟨v, rfl, S1, hT⟩
        have HW := Lib.hid (hT.write (by omega))
        clear hT HC
        go_wp2_with fail
        refine HW.out.mono ?_
        rintro e w4 ⟨v2, rfl, S2, hT⟩
        have HZ := Lib.hid (hT.crash (by omega) rfl)
        clear hT HW
        go_wp2_with fail
        refine HZ.out.mono ?_
        rintro e w5 ⟨rfl, S3, hT⟩
        have HP := Lib.hid hT.play
        clear hT HZ
        obtain ⟨c0, c1, c2, c3, c4, c5, c6, hobr⟩ := HCL.out w5 HP.out.bel
        have HS := Lib.hid (HST.out _ _ _ _ HP.out)
        go_wp2_with fail
        refine HS.out.mono ?_
        rintro e w6 ⟨rfl, S4, R4, hP⟩
        have HP4 := Lib.hid (hP.mono (show _ ≤ (k + 1) * 702 by omega))
        clear hP HS HP c0 c1 c2 c3 c4 c5 c6
        go_wp2_with fail
        go_roundw
        case rel => exact ⟨k + 1, c, S4, R4, rfl, by go_num, by omega, by omega, HP4⟩
        case measure => simp [intOf]; omega
      · have q12 : (x.kind == 12) = false := beq_eq_false_iff_ne.2 k12
        have HS := Lib.hid (HST.out _ _ _ _ HP.out)
        clear k12
        go_wp2_with fail
        refine HS.out.mono ?_
        rintro e w6 ⟨rfl, S4, R4, hP⟩
        have HP4 := Lib.hid (hP.mono (show _ ≤ (k + 1) * 702 by omega))
        clear hP HS HP c0 c1 c2 c3 c4 c5 c6
        go_wp2_with fail
        go_roundw
        case rel => exact ⟨k + 1, b, S4, R4, rfl, by go_num, by omega, by omega, HP4⟩
        case measure => simp [intOf]; omega
    · have hexit : (L.length ≤ k ∧ k = L.length) ∨ (k < L.length ∧ k = 80) := by omega
      have HS := Lib.hid (HP.out.stands (by omega))
      clear hin
      rcases hexit with ⟨h1, h2⟩ | ⟨h1, h2⟩
      all_goals
        go_wp2_with fail
        refine HS.out.mono ?_
        rintro e w2 ⟨rfl, hb⟩
        have HB2 := Lib.hid hb
        clear hb
        go_wp2_with fail
        refine (HA.out _).mono ?_
        rintro e w3 ⟨rfl, hb3⟩
        have HB3 := Lib.hid (HB2.out.trans (hb3.mono HB2.out.size))
        clear hb3
        go_wp2_with fail
        go_ret
        exact ⟨rfl, HB3.out⟩
theorem diskPlays_walk (sec : Int) (oa : Option Addr) (oc : Nat) (L : List OpR) (w : World) (hsec : (Lit.int .i64 sec).wf = true) (hL : L.length ≤ maxLen) (ho : OpsAt w oa L) :
    Calls Try.prog 7 #[.int .i64 sec, .slice oa L.length oc] w fun e w' => e = .returned (.bool true) ∧ Below w.heap.size w w' := by
  by_cases hbad : sec < 0 ∨ 32768 < sec
  · exact plays_bad sec oa oc L w hbad hL
  · by_cases hbig : 200 < sec
    · exact plays_big sec oa oc L w (by omega) hbig hL
    · exact plays_ok sec oa oc L w (by omega) hbig hL ho
end Go.Proofs.Ytlmodbaeoheiiaa
