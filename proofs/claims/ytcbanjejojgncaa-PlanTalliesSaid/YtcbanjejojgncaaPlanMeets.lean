/- The walk of PlanMeets: two tallies of one number that are won have one in common. No condition. -/
import Derived.Test.YtcbanjejojgncaaTally
import Derived.Test.YtcbanjejojgncaaPlanBases
namespace Go.Proofs.Ytcbanjejojgncaa
open Go.RowKit

theorem meet_le (s t : List Bool) (o k : Nat) (h : ∀ i, i < k → i < o → s.getD i false = true → t.getD i false = true → False) : cntTo s o k + cntTo t o k ≤ k ∧ cntTo s o k + cntTo t o k ≤ o := by
  induction k with
  | zero => simp [cntTo]
  | succ k ih =>
    have ih := ih (fun i hi => h i (by omega))
    have hk := h k (by omega)
    rw [cntTo_snoc, cntTo_snoc, Int.toNat_natCast]
    by_cases ho : k < o
    · have hb : ¬ (s.getD k false = true ∧ t.getD k false = true) := fun hx => hk ho hx.1 hx.2
      revert hb
      cases s.getD k false <;> cases t.getD k false <;> simp [ho] <;> omega
    · have : decide ((k : Int) < (o : Int)) = false := by simp; omega
      rw [this]
      simp
      omega
theorem won_meet (s t : List Bool) (o : Nat) (hs : wonT s o = true) (ht : wonT t o = true) (h : ∀ i, i < 9 → i < o → s.getD i false = true → t.getD i false = true → False) : False := by
  have := meet_le s t o 9 h
  unfold wonT at hs ht
  simp only [Bool.and_eq_true, decide_eq_true_eq] at hs ht
  have e1 : cnt s o = cntTo s o 9 := rfl
  have e2 : cnt t o = cntTo t o 9 := rfl
  omega

theorem TallyAt.touch {S : Nat → Prop} {w w' : World} {b o : Nat} {m : List Bool} (h : TallyAt w b o m) (ht : Touch S w w') (hS : ¬ S b) : TallyAt w' b o m := ⟨h.1.touch ht hS, h.2⟩
theorem TallyAt.below {w w' : World} {b o : Nat} {m : List Bool} (h : TallyAt w b o m) (hb : Below w.heap.size w w') : TallyAt w' b o m := ⟨h.1.below hb, h.2⟩
theorem below_touch {w wr w' : World} {b : Nat} (h : Below w.heap.size w wr) (ht : Touch (fun k => k = b) wr w') (hb : w.heap.size ≤ b) : Below w.heap.size w w' :=
  h.trans (ht.below h.size (fun k hk e => by omega))

set_option maxRecDepth 100000 in
set_option maxHeartbeats 2000000 in
theorem planMeets_walk (n : Int) (a : Option Addr) (len cap : Nat) (zs : List Int) (a2 : Option Addr) (len2 cap2 : Nat) (zs2 : List Int) (w : World) (_hn : (Lit.int .i64 n).wf = true) (h : IsInts .i64 w a len cap zs) (h2 : IsInts .i64 w a2 len2 cap2 zs2) :
    Calls Try.prog 9 #[.int .i64 n, .slice a len cap, .slice a2 len2 cap2] w fun e w' => e = .returned (.bool true) ∧ Below w.heap.size w w' := by
  obtain ⟨hat, hlen, _, hmax, hcap, hcm⟩ := isInts_at h
  obtain ⟨hat2, hlen2, _, hmax2, hcap2, hcm2⟩ := isInts_at h2
  unfold maxLen at hmax hcm hmax2 hcm2
  have Hat := Lib.hid hat
  have Hlen := Lib.hid hlen
  have Hat2 := Lib.hid hat2
  have Hlen2 := Lib.hid hlen2
  clear h hat hlen h2 hat2 hlen2
  go_enter Try.func9, Try.ntmps9
  go_wp2_with fail
  refine (newTally_any n w).mono ?_
  rintro e w1 ⟨b1, rfl, hb1, ht1, hw1⟩
  have hlt1 := ht1.1.lt
  have HT1 := Lib.hid ht1
  clear ht1
  go_wp2_with fail
  refine (newTally_any n w1).mono ?_
  rintro e w2 ⟨b2, rfl, hb2, ht2, hw2⟩
  have HT1' := Lib.hid (HT1.out.below hw2)
  have HT2 := Lib.hid ht2
  have hw02 := below_step hw1 hw2
  have hne : b1 ≠ b2 := by omega
  have hb02 : w.heap.size ≤ b2 := Nat.le_trans hw1.size hb2
  clear ht2 HT1 hw1 hw2
  obtain ⟨o, ho⟩ : ∃ o, o = clip n := ⟨_, rfl⟩
  rw [← ho] at HT1' HT2
  clear ho
  go_wp2
  go_loopw [9] (fun i wr => ∃ (k : Nat) (m : List Bool), i = .int .i64 k ∧ k ≤ len ∧ k ≤ 60 ∧ Hid (TallyAt wr b1 o m) ∧ Hid (TallyAt wr b2 o (List.replicate 9 false)) ∧ Below w.heap.size w wr) (fun i _ => 60 - (intOf i).toNat)
  case atStart => exact ⟨0, _, rfl, Nat.zero_le _, Nat.zero_le _, HT1', HT2, hw02⟩
  case round =>
    obtain ⟨k, m, rfl, hk, hk2, HT1, HT2, hbw⟩ := hrel
    by_cases hlt : k < len ∧ k < 60
    · have hd : (decide ((k : Int) < (len : Int)) && decide ((k : Int) < 60)) = true := by simp; omega
      have hki : k < (zs.take len).length := by rw [Hlen.out]; exact hlt.1
      obtain ⟨bb, off, rfl, hc⟩ := intsAt_cell (intsAt_below Hat.out hbw) k hki
      generalize (zs.take len)[k]'hki = x at hc
      clear hki
      obtain ⟨hlt1, hlt2⟩ := hlt
      go_wp2_with fail
      refine (add_any b1 o m x _ HT1.out).mono ?_
      rintro e w3 ⟨rfl, ht3, hto⟩
      have HT3 := Lib.hid ht3
      have HT23 := Lib.hid (HT2.out.touch hto (fun e => hne e.symm))
      have hb3 := below_touch hbw hto hb1
      clear ht3 hto
      go_wp2_with fail
      go_round
      case rel => exact ⟨k + 1, _, by go_num, by omega, by omega, HT3, HT23, hb3⟩
      case measure => simp [intOf]; omega
    · have hd : (decide (k < len) && decide (k < 60)) = false := by simp; omega
      have hd2 : k < len → 60 ≤ k := by omega
      clear hlt
      obtain ⟨wo, rfl⟩ : ∃ wo : World, wo = wr := ⟨_, rfl⟩
      go_wp2
      all_goals (
        go_loopw [10] (fun i wr => ∃ (k : Nat) (m2 : List Bool), i = .int .i64 k ∧ k ≤ len2 ∧ k ≤ 60 ∧ Hid (TallyAt wr b1 o m) ∧ Hid (TallyAt wr b2 o m2) ∧ Below w.heap.size w wr) (fun i _ => 60 - (intOf i).toNat)
        case atStart => exact ⟨0, _, rfl, Nat.zero_le _, Nat.zero_le _, HT1, HT2, hbw⟩
        case round =>
          obtain ⟨k2, m2, rfl, hk3, hk4, HT5, HT6, hbw2⟩ := hrel
          by_cases hlt : k2 < len2 ∧ k2 < 60
          · have hd : (decide ((k2 : Int) < (len2 : Int)) && decide ((k2 : Int) < 60)) = true := by simp; omega
            have hki : k2 < (zs2.take len2).length := by rw [Hlen2.out]; exact hlt.1
            obtain ⟨bb, off, rfl, hc⟩ := intsAt_cell (intsAt_below Hat2.out hbw2) k2 hki
            generalize (zs2.take len2)[k2]'hki = x at hc
            clear hki
            obtain ⟨hlt1, hlt2⟩ := hlt
            go_wp2_with fail
            refine (add_any b2 o m2 x _ HT6.out).mono ?_
            rintro e w3 ⟨rfl, ht3, hto⟩
            have HT3 := Lib.hid ht3
            have HT23 := Lib.hid (HT5.out.touch hto (fun e => hne e))
            have hb3 := below_touch hbw2 hto hb02
            clear ht3 hto
            go_wp2_with fail
            go_round
            case rel => exact ⟨k2 + 1, _, by go_num, by omega, by omega, HT23, HT3, hb3⟩
            case measure => simp [intOf]; omega
          · have hd : (decide (k2 < len2) && decide (k2 < 60)) = false := by simp; omega
            have hd2 : k2 < len2 → 60 ≤ k2 := by omega
            clear hlt
            obtain ⟨wo2, rfl⟩ : ∃ wo2 : World, wo2 = wr := ⟨_, rfl⟩
            have hwon1 : Hid (wonT m o = true ∨ wonT m o = false) := Lib.hid (by cases wonT m o <;> simp)
            go_wp2_with fail
            all_goals (
              refine (won_any b1 o m _ HT5.out).mono ?_
              rintro e w3 ⟨rfl, q1, rfl⟩
              have HT5' := Lib.hid (HT5.out.drewN q1)
              have HT6' := Lib.hid (HT6.out.drewN q1)
              have hb5 := below_drewN hbw2 q1
              generalize wo2.drewN q1 = w4 at HT5' HT6' hb5
              cases hv1 : wonT m o
              · clear hv1
                go_wp2_with fail
                refine (awake_any _).mono ?_
                rintro e w5 ⟨rfl, hb6⟩
                go_wp2_with fail
                go_ret
                exact ⟨rfl, below_step hb5 hb6⟩
              · have Hv1 := Lib.hid hv1
                clear hv1
                go_wp2_with fail
                refine (won_any b2 o m2 _ HT6'.out).mono ?_
                rintro e w5 ⟨rfl, q2, rfl⟩
                have HT7 := Lib.hid (HT5'.out.drewN q2)
                have HT8 := Lib.hid (HT6'.out.drewN q2)
                have hb7 := below_drewN hb5 q2
                generalize w4.drewN q2 = w6 at HT7 HT8 hb7
                cases hv2 : wonT m2 o
                · clear hv2
                  go_wp2_with fail
                  refine (awake_any _).mono ?_
                  rintro e w5 ⟨rfl, hb6⟩
                  go_wp2_with fail
                  go_ret
                  exact ⟨rfl, below_step hb7 hb6⟩
                · have Hv2 := Lib.hid hv2
                  clear hv2
                  go_wp2
                  go_loop [11] (fun i => ∃ k : Nat, k ≤ 9 ∧ i = .int .i64 k ∧ Hid (∀ j, j < k → j < o → m.getD j false = true → m2.getD j false = true → False)) (fun i => 9 - (intOf i).toNat)
                  case atStart => exact ⟨0, Nat.zero_le _, rfl, Lib.hid (fun j hj => absurd hj (Nat.not_lt_zero _))⟩
                  case round =>
                    obtain ⟨k, hk, rfl, HN⟩ := hrel
                    by_cases hlt : k < 9
                    · go_wp2_with fail
                      refine (has_any b1 o m k _ HT7.out).mono ?_
                      rintro e wx ⟨rfl, rfl⟩
                      cases hv3 : (decide (0 ≤ (k : Int)) && decide ((k : Int) < (o : Int)) && m.getD (k : Int).toNat false)
                      · have HN' := Lib.hid (show ∀ j, j < k + 1 → j < o → m.getD j false = true → m2.getD j false = true → False by
                          intro j hj hjo h1 h2
                          by_cases hjk : j < k
                          · exact HN.out j hjk hjo h1 h2
                          · obtain rfl : j = k := by omega
                            simp at hv3
                            have := hv3 hjo
                            rw [List.getD] at h1
                            rw [this] at h1
                            cases h1)
                        clear hv3
                        go_wp2_with fail
                        go_round
                        case rel => exact ⟨k + 1, by omega, by go_num, HN'⟩
                        case measure => simp [intOf]; omega
                      · clear hv3
                        go_wp2_with fail
                        refine (has_any b2 o m2 k _ HT8.out).mono ?_
                        rintro e wx ⟨rfl, rfl⟩
                        cases hv4 : (decide (0 ≤ (k : Int)) && decide ((k : Int) < (o : Int)) && m2.getD (k : Int).toNat false)
                        · have HN' := Lib.hid (show ∀ j, j < k + 1 → j < o → m.getD j false = true → m2.getD j false = true → False by
                            intro j hj hjo h1 h2
                            by_cases hjk : j < k
                            · exact HN.out j hjk hjo h1 h2
                            · obtain rfl : j = k := by omega
                              simp at hv4
                              have := hv4 hjo
                              rw [List.getD] at h2
                              rw [this] at h2
                              cases h2)
                          clear hv4
                          go_wp2_with fail
                          go_round
                          case rel => exact ⟨k + 1, by omega, by go_num, HN'⟩
                          case measure => simp [intOf]; omega
                        · clear hv4
                          go_wp2_with fail
                          refine (awake_any _).mono ?_
                          rintro e w5 ⟨rfl, hb6⟩
                          go_wp2_with fail
                          go_ret
                          exact ⟨rfl, below_step hb7 hb6⟩
                    · exfalso
                      obtain rfl : k = 9 := by omega
                      exact won_meet m m2 o Hv1.out Hv2.out HN.out))
end Go.Proofs.Ytcbanjejojgncaa
