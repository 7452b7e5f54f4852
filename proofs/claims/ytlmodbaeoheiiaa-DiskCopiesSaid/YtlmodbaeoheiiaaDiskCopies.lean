/- DiskCopies: a copy and what it was copied from go their own ways. Conditions: the row's. -/
import Derived.Test.YtlmodbaeoheiiaaTwin
namespace Go.Proofs.Ytlmodbaeoheiiaa
open Go.RowKit
set_option linter.unusedVariables false

set_option maxRecDepth 100000 in
set_option maxHeartbeats 6400000 in
theorem diskCopies_walk (aA : Option Addr) (cA : Nat) (LA : List OpR) (aB : Option Addr) (cB : Nat) (LB : List OpR) (aC : Option Addr) (cC : Nat) (LC : List OpR) (w : World) (hA : LA.length ≤ maxLen) (hoA : OpsAt w aA LA) (hB : LB.length ≤ maxLen) (hoB : OpsAt w aB LB) (hC : LC.length ≤ maxLen) (hoC : OpsAt w aC LC) :
    Calls Try.prog 8 #[.slice aA LA.length cA, .slice aB LB.length cB, .slice aC LC.length cC] w fun e w' => e = .returned (.bool true) ∧ Below w.heap.size w w' := by
  have HAW := Lib.hid (fun w => awake_any w)
  have HN := Lib.hid (newDisk_any 60 w (by decide))
  have HoA := Lib.hid hoA
  have HoB := Lib.hid hoB
  have HoC := Lib.hid hoC
  unfold maxLen at hA hB hC
  clear hoA hoB hoC
  go_enter Try.func8, Try.ntmps8
  go_wp2_with fail
  refine HN.out.mono ?_
  rintro e w1 ⟨b, rfl, rfl, hD, hB1⟩
  obtain ⟨S0, R0, hP0⟩ := new_duo 60 w w1 _ _ w1.heap.size (by decide) hB1 rfl hD rfl rfl
  have HP0 := Lib.hid hP0
  clear hD hB1 hP0
  go_wp2_with fail
  go_loopw [10] (fun i wr => ∃ (k : Nat) (S : DSt) (R : RSt), i = .int .i64 k ∧ k ≤ LA.length ∧ k ≤ 30 ∧ Hid (Play w w.heap.size w1.heap.size (k * 702) S R wr)) (fun i _ => 30 - (intOf i).toNat)
  case atStart => exact ⟨0, S0, R0, rfl, Nat.zero_le _, by omega, HP0⟩
  case round =>
    clear HP0
    obtain ⟨k, S, R, rfl, hk1, hk2, HP⟩ := hrel
    by_cases hin : k < LA.length ∧ k < 30
    · obtain ⟨hltA, hlt4⟩ := hin
      obtain ⟨obA, offA, rfl, hobA, hopA⟩ : ∃ ob off, aA = some ⟨ob, off, none⟩ ∧ ob < w.heap.size ∧ OpAt w ob (off + k * 7) LA[k] := by
        rcases HoA.out with h | ⟨ob, off, h1, h2, h3⟩
        · rw [h] at hltA; simp at hltA
        · exact ⟨ob, off, h1, h2, h3 k hltA⟩
      obtain ⟨xaA, xcA, hclA, hxA, hxlA, hwfA⟩ := opAt_cells hopA hobA
      have HCLA := Lib.hid hclA
      have HSTA := Lib.hid (HP.out.step (x := LA[k]) (xa := xaA) (xc := xcA) (by omega) hwfA hxA hxlA)
      clear hopA hxA hxlA hwfA hclA
      generalize LA[k] = xA at HCLA HSTA
      obtain ⟨c0, c1, c2, c3, c4, c5, c6, hobr⟩ := HCLA.out wr HP.out.bel
      go_wp2_with fail
      refine HSTA.out.mono ?_
      rintro e w6 ⟨rfl, S4, R4, hP⟩
      have HP4 := Lib.hid (hP.mono (show _ ≤ (k + 1) * 702 by omega))
      clear hP HSTA HP c0 c1 c2 c3 c4 c5 c6
      go_wp2_with fail
      go_roundw
      case rel => exact ⟨k + 1, S4, R4, by go_num, by omega, by omega, HP4⟩
      case measure => simp [intOf]; omega
    · have hexit : (LA.length ≤ k ∧ k = LA.length) ∨ (k < LA.length ∧ k = 30) := by omega
      have HP30 := Lib.hid (HP.out.mono (show k * 702 ≤ 21060 by omega))
      have HH := Lib.hid (HP30.out.half (by omega))
      clear hin HP
      rcases hexit with ⟨h1, h2⟩ | ⟨h1, h2⟩
      all_goals
        go_wp2_with fail
        refine HH.out.mono ?_
        rintro e w2 ⟨c, S2, rfl, hH⟩
        have HQ := Lib.hid (hH.copy (by omega))
        clear hH HP30
        go_wp2_with fail
        refine HQ.out.mono ?_
        rintro e w3 ⟨p, R2, rfl, hT⟩
        have HT0 := Lib.hid hT
        clear hT HQ HH h1 h2 hk1 hk2
        go_wp2_with fail
        go_loopw [13] (fun i wx => ∃ (j : Nat) (S : DSt) (R : RSt) (S2 : DSt) (R2 : RSt), i = .int .i64 j ∧ j ≤ 30 ∧ Hid (Twin w w.heap.size w1.heap.size c p (21060 + j * 1404) S R S2 R2 wx)) (fun i _ => 30 - (intOf i).toNat)
        case atStart => exact ⟨0, S, R, S2, R2, rfl, by omega, HT0⟩
        case round =>
          clear HT0
          obtain ⟨j, S5, R5, S6, R6, rfl, hj, HT⟩ := hrel
          by_cases hj30 : j < 30
          · by_cases hltB : j < LB.length
            · obtain ⟨obB, offB, rfl, hobB, hopB⟩ : ∃ ob off, aB = some ⟨ob, off, none⟩ ∧ ob < w.heap.size ∧ OpAt w ob (off + j * 7) LB[j] := by
                rcases HoB.out with h | ⟨ob, off, h1, h2, h3⟩
                · rw [h] at hltB; simp at hltB
                · exact ⟨ob, off, h1, h2, h3 j hltB⟩
              obtain ⟨xaB, xcB, hclB, hxB, hxlB, hwfB⟩ := opAt_cells hopB hobB
              have HCLB := Lib.hid hclB
              have HSTB := Lib.hid (fun (n : Nat) (S : DSt) (R : RSt) (S2 : DSt) (R2 : RSt) (w' : World) (hn : n ≤ 900000) (h : Twin w w.heap.size w1.heap.size c p n S R S2 R2 w') => h.step (x := LB[j]) (xa := xaB) (xc := xcB) hn hwfB hxB hxlB)
              clear hopB hxB hxlB hwfB hclB
              generalize LB[j] = xB at HCLB HSTB
              by_cases hltC : j < LC.length
              · obtain ⟨obC, offC, rfl, hobC, hopC⟩ : ∃ ob off, aC = some ⟨ob, off, none⟩ ∧ ob < w.heap.size ∧ OpAt w ob (off + j * 7) LC[j] := by
                  rcases HoC.out with h | ⟨ob, off, h1, h2, h3⟩
                  · rw [h] at hltC; simp at hltC
                  · exact ⟨ob, off, h1, h2, h3 j hltC⟩
                obtain ⟨xaC, xcC, hclC, hxC, hxlC, hwfC⟩ := opAt_cells hopC hobC
                have HCLC := Lib.hid hclC
                have HSTC := Lib.hid (fun (n : Nat) (S : DSt) (R : RSt) (S2 : DSt) (R2 : RSt) (w' : World) (hn : n ≤ 900000) (h : Twin w w.heap.size w1.heap.size c p n S R S2 R2 w') => h.step2 (x := LC[j]) (xa := xaC) (xc := xcC) hn hwfC hxC hxlC)
                clear hopC hxC hxlC hwfC hclC
                generalize LC[j] = xC at HCLC HSTC
                obtain ⟨c0, c1, c2, c3, c4, c5, c6, hobr⟩ := HCLB.out wr HT.out.one.bel
                have HSB := Lib.hid (HSTB.out _ _ _ _ _ _ (by omega) HT.out)
                go_wp2_with fail
                refine HSB.out.mono ?_
                rintro e w6 ⟨rfl, S7, R7, hT7⟩
                have HT7 := Lib.hid hT7
                clear hT7 HSB HT c0 c1 c2 c3 c4 c5 c6 hobr
                obtain ⟨c0, c1, c2, c3, c4, c5, c6, hobr⟩ := HCLC.out w6 HT7.out.one.bel
                have HSC := Lib.hid (HSTC.out _ _ _ _ _ _ (by omega) HT7.out)
                go_wp2_with fail
                refine HSC.out.mono ?_
                rintro e w8 ⟨rfl, S8, R8, hT8⟩
                have HT8 := Lib.hid (hT8.mono (show _ ≤ 21060 + (j + 1) * 1404 by omega))
                clear hT8 HSC HT7 c0 c1 c2 c3 c4 c5 c6
                go_wp2_with fail
                go_roundw
                case rel => exact ⟨j + 1, S7, R7, S8, R8, by go_num, by omega, HT8⟩
                case measure => simp [intOf]; omega
              · have hltC2 : LC.length ≤ j := by omega
                clear hltC
                obtain ⟨c0, c1, c2, c3, c4, c5, c6, hobr⟩ := HCLB.out wr HT.out.one.bel
                have HSB := Lib.hid (HSTB.out _ _ _ _ _ _ (by omega) HT.out)
                go_wp2_with fail
                refine HSB.out.mono ?_
                rintro e w6 ⟨rfl, S7, R7, hT7⟩
                have HT7 := Lib.hid hT7
                clear hT7 HSB HT c0 c1 c2 c3 c4 c5 c6 hobr
                go_wp2_with fail
                have HT9 := Lib.hid (HT7.out.mono (show _ ≤ 21060 + (j + 1) * 1404 by omega))
                go_roundw
                case rel => exact ⟨j + 1, S7, R7, S6, R6, by go_num, by omega, HT9⟩
                case measure => simp [intOf]; omega
            · have hltB2 : LB.length ≤ j := by omega
              clear hltB
              by_cases hltC : j < LC.length
              · obtain ⟨obC, offC, rfl, hobC, hopC⟩ : ∃ ob off, aC = some ⟨ob, off, none⟩ ∧ ob < w.heap.size ∧ OpAt w ob (off + j * 7) LC[j] := by
                  rcases HoC.out with h | ⟨ob, off, h1, h2, h3⟩
                  · rw [h] at hltC; simp at hltC
                  · exact ⟨ob, off, h1, h2, h3 j hltC⟩
                obtain ⟨xaC, xcC, hclC, hxC, hxlC, hwfC⟩ := opAt_cells hopC hobC
                have HCLC := Lib.hid hclC
                have HSTC := Lib.hid (fun (n : Nat) (S : DSt) (R : RSt) (S2 : DSt) (R2 : RSt) (w' : World) (hn : n ≤ 900000) (h : Twin w w.heap.size w1.heap.size c p n S R S2 R2 w') => h.step2 (x := LC[j]) (xa := xaC) (xc := xcC) hn hwfC hxC hxlC)
                clear hopC hxC hxlC hwfC hclC
                generalize LC[j] = xC at HCLC HSTC
                obtain ⟨c0, c1, c2, c3, c4, c5, c6, hobr⟩ := HCLC.out wr HT.out.one.bel
                have HSC := Lib.hid (HSTC.out _ _ _ _ _ _ (by omega) HT.out)
                go_wp2_with fail
                refine HSC.out.mono ?_
                rintro e w8 ⟨rfl, S8, R8, hT8⟩
                have HT8 := Lib.hid (hT8.mono (show _ ≤ 21060 + (j + 1) * 1404 by omega))
                clear hT8 HSC HT c0 c1 c2 c3 c4 c5 c6
                go_wp2_with fail
                go_roundw
                case rel => exact ⟨j + 1, S5, R5, S8, R8, by go_num, by omega, HT8⟩
                case measure => simp [intOf]; omega
              · have hltC2 : LC.length ≤ j := by omega
                clear hltC
                have HT7 := Lib.hid (HT.out.mono (show _ ≤ 21060 + (j + 1) * 1404 by omega))
                go_wp2_with fail
                go_roundw
                case rel => exact ⟨j + 1, S5, R5, S6, R6, by go_num, by omega, HT7⟩
                case measure => simp [intOf]; omega
          · have hj2 : j = 30 := by omega
            clear hj30
            subst hj2
            have HS1 := Lib.hid (HT.out.stands (by omega))
            go_wp2_with fail
            refine HS1.out.mono ?_
            rintro e w4 ⟨rfl, hP⟩
            have HS2 := Lib.hid (hP.stands (by omega))
            clear hP HS1 HT
            go_wp2_with fail
            refine HS2.out.mono ?_
            rintro e w5 ⟨rfl, hb⟩
            have HB5 := Lib.hid hb
            clear hb HS2
            go_wp2_with fail
            refine (HAW.out _).mono ?_
            rintro e w7 ⟨rfl, hb3⟩
            have HB3 := Lib.hid (HB5.out.trans (hb3.mono HB5.out.size))
            clear hb3
            go_wp2_with fail
            go_ret
            exact ⟨rfl, HB3.out⟩
end Go.Proofs.Ytlmodbaeoheiiaa
