/- The walk of CoordNews: which coordinators there are, and how they begin. No condition. -/
import Derived.Test.YtmmnaieikfekfaaGreatDoorTick
namespace Go.Proofs.YtmmnaieikfekfaaGreatDoor
open Go.RowKit

set_option maxRecDepth 100000 in
set_option maxHeartbeats 2000000 in
theorem coordNews_walk (id n stamp : Int) (w : World) (hi : (Lit.int .i64 id).wf = true) (hn : (Lit.int .i64 n).wf = true) (hs : (Lit.int .i64 stamp).wf = true) :
    Calls Tryz.prog 3 #[.int .i64 id, .int .i64 n, .int .i64 stamp] w fun e w' => e = .returned (.bool true) ∧ Below w.heap.size w w' := by
  have bi := int_bounds hi
  have bn := int_bounds hn
  have bs := int_bounds hs
  clear hi hn hs
  by_cases hok : NewOk id n stamp
  · have h := hok
    unfold NewOk BalOk at h
    obtain ⟨⟨h1, h2, h3, h4⟩, h5, h6⟩ := h
    have Hok := Lib.hid hok
    clear hok bi bn bs
    have hE : (stamp * 4 + id == 4 * stamp + id) = true := by rw [beq_iff_eq]; omega
    have hmul : 4 * stamp ≤ 4611686018427387904 := by omega
    go_enter Tryz.func3, Tryz.ntmps3
    go_wp2_with fail
    refine (ideal_any w).mono ?_
    rintro e w1 ⟨bk, mp, rfl, _, _, hbk, _, hb1⟩
    have Hbk := Lib.hid hbk
    clear hbk
    go_wp2_with fail
    refine (newCoord_any id n stamp bk mp _ Hok.out Hbk.out).mono ?_
    rintro e w2 ⟨c, t, rfl, _, _, hc, ht, hb2⟩
    have hb02 := below_step hb1 hb2
    have Hc := Lib.hid hc
    clear hc ht hb1 hb2 Hbk
    go_wp2_with fail
    refine (newCoord_nil _).mono ?_
    rintro e wx ⟨rfl, rfl⟩
    go_wp2_with fail
    refine (knownOf_any c _ _ Hc.out h5).mono ?_
    rintro e wx ⟨rfl, nd, rfl⟩
    simp only [newCoord]
    have Hc1 := Lib.hid (show CoordAt (w2.drewN nd) c _ from Hc.out)
    have hb03 := below_drewN hb02 nd
    generalize w2.drewN nd = w3 at Hc1 hb03 ⊢
    go_wp2_with fail
    refine (take_none c _ _ Hc1.out h5 rfl).mono ?_
    rintro e w4 ⟨rfl, hb4⟩
    have Hc4 := Lib.hid (Hc1.out.below hb4)
    have hb04 := below_step hb03 hb4
    simp only [noAnswer]
    clear Hc Hc1 hb4 hb03 hb02
    go_wp2_with fail
    have Hc5 := Lib.hid (show CoordAt (w4.alloc (.cells #[.int .i64 0, .int .i64 0, .int .i64 0, .slice none 0 0, .slice none 0 0] 34)) c _ from ⟨Hc4.out.1.alloc _, Hc4.out.2⟩)
    have hb05 := hb04.alloc hb04.size (.cells #[.int .i64 0, .int .i64 0, .int .i64 0, .slice none 0 0, .slice none 0 0] 34)
    generalize w4.alloc (.cells #[.int .i64 0, .int .i64 0, .int .i64 0, .slice none 0 0, .slice none 0 0] 34) = w5 at Hc5 hb05 ⊢
    clear Hc4 hb04
    refine (ballotOf_any c _ _ Hc5.out h5).mono ?_
    rintro e wx ⟨rfl, rfl⟩
    simp only [newCoord]
    go_wp2_with fail
    refine (leads_any c _ _ Hc5.out h5).mono ?_
    rintro e wx ⟨rfl, rfl⟩
    simp only [newCoord]
    go_wp2_with fail
    refine (off_any c _ _ Hc5.out h5).mono ?_
    rintro e wx ⟨rfl, rfl⟩
    simp only [newCoord]
    go_wp2_with fail
    refine (awake_any _).mono ?_
    rintro e w6 ⟨rfl, hb6⟩
    go_wp2_with fail
    go_ret
    exact ⟨rfl, below_step hb05 hb6⟩
  · have hbad : (decide (id < 0) || decide (3 < id) || decide (n < 1) || decide (9 < n) || decide (stamp < 1) || decide (1099511627776 < stamp)) = true := by
      unfold NewOk BalOk at hok
      simp only [Bool.or_eq_true, decide_eq_true_eq]
      omega
    have Hok := Lib.hid hok
    clear hok bi bn bs
    go_enter Tryz.func3, Tryz.ntmps3
    go_wp2_with fail
    refine (ideal_any w).mono ?_
    rintro e w1 ⟨bk, mp, rfl, _, _, hbk, _, hb1⟩
    have Hbk := Lib.hid hbk
    clear hbk
    go_wp2_with fail
    refine (newCoord_no id n stamp bk mp _ Hok.out Hbk.out).mono ?_
    rintro e wx ⟨rfl, rfl⟩
    go_wp2_with fail
    refine (newCoord_nil _).mono ?_
    rintro e wx ⟨rfl, rfl⟩
    go_wp2_with fail
    all_goals
      refine (off_nil _).mono ?_
      rintro e wx ⟨rfl, rfl⟩
      go_wp2_with fail
      refine (awake_any _).mono ?_
      rintro e w6 ⟨rfl, hb6⟩
      go_wp2_with fail
      go_ret
      exact ⟨rfl, below_step hb1 hb6⟩
end Go.Proofs.YtmmnaieikfekfaaGreatDoor
