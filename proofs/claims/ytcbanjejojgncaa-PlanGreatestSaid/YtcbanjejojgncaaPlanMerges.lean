/- The walk of PlanMerges: what comes of any promises. No condition. -/
import Derived.Test.YtcbanjejojgncaaMerged
import Derived.Test.YtcbanjejojgncaaPlanBases
namespace Go.Proofs.Ytcbanjejojgncaa
open Go.RowKit

theorem fewOf_len (ps : List Prom) : (fewOf ps).length ≤ 9 := by unfold fewOf; rw [List.length_map, List.length_take]; omega
theorem fewOf_list (ps : List Prom) : ∀ p ∈ fewOf ps, p.list.length ≤ 70 := by
  intro p hp
  obtain ⟨q, _, rfl⟩ := List.mem_map.1 hp
  unfold few1
  rw [List.length_take]
  omega

set_option maxRecDepth 100000 in
set_option maxHeartbeats 2000000 in
theorem planMerges_walk (ad : Option Addr) (cap : Nat) (ps : List Prom) (w : World) (hl : ps.length ≤ maxLen) (h : PromsArg w ad ps) :
    Calls Try.prog 10 #[.slice ad ps.length cap] w fun e w' => e = .returned (.bool true) ∧ Below w.heap.size w w' := by
  have H := Lib.hid h
  have Hl := Lib.hid hl
  clear h hl
  go_enter Try.func10, Try.ntmps10
  go_wp2_with fail
  refine (few_any ad cap ps w Hl.out H.out).mono ?_
  rintro e w1 ⟨ad1, cap1, rfl, hp1, hb1⟩
  have hqs := fewOf_len ps
  have hql := Lib.hid (fewOf_list ps)
  generalize fewOf ps = qs at hp1 hqs hql ⊢
  have Hp1 := Lib.hid hp1
  clear hp1 H Hl
  go_wp2
  go_loop [3] (fun i => ∃ k : Nat, i = .int .i64 k ∧ k ≤ qs.length ∧ Hid (∀ j (hj : j < qs.length), j < k → qs[j].top ≤ 1000)) (fun i => qs.length - (intOf i).toNat)
  case atStart => exact ⟨0, rfl, Nat.zero_le _, Lib.hid (fun j _ h => absurd h (by omega))⟩
  case round =>
    obtain ⟨i, rfl, hi, hall⟩ := hrel
    by_cases hlt : i < qs.length
    · obtain ⟨bl, off, la, lc, rfl, hbs, c0, c1, _, _⟩ := promsAt_get Hp1.out i hlt
      have hn : qs[i].top ≤ 1000 → Hid (∀ j (hj : j < qs.length), j < i + 1 → qs[j].top ≤ 1000) := fun h => Lib.hid (fun j hj hji => by
        by_cases e : j = i
        · subst e; exact h
        · exact hall.out j hj (by omega))
      generalize qs[i].floor = f at c0
      generalize qs[i].top = t at c1 hn
      have Hn := Lib.hid hn
      clear hn
      by_cases hf : 1000 < f
      · go_wp2_with (go_at_call 12; refine (awake_any _).mono ?_; rintro e w' ⟨rfl, hb⟩)
        go_ret
        exact ⟨rfl, below_step hb1 hb⟩
      · by_cases htt : 1000 < t
        · go_wp2_with (go_at_call 12; refine (awake_any _).mono ?_; rintro e w' ⟨rfl, hb⟩)
          go_ret
          exact ⟨rfl, below_step hb1 hb⟩
        · go_wp2
          go_round
          case rel => exact ⟨i + 1, by go_num, by omega, Hn.out (by omega)⟩
          case measure => simp [intOf]; omega
    · have htop := Lib.hid (show ∀ p ∈ qs, p.top ≤ 2305843009213693952 by
        intro p hp
        obtain ⟨j, hj, rfl⟩ := List.mem_iff_getElem.1 hp
        have := hall.out j hj (by omega)
        omega)
      have hln := Lib.hid (show ∀ p ∈ qs, p.list.length ≤ 1000000 from fun p hp => Nat.le_trans (hql.out p hp) (by omega))
      have hc1 : (chosenOf qs).length ≤ 64 := by
        have := chosenFrom_le qs (min (topOf qs - floorOf qs).toNat 64) (floorOf qs)
        unfold chosenOf; omega
      have hc2 : (againOf qs).length ≤ 16 := againFrom_le qs 16 (topOf qs)
      go_wp2_with fail
      refine (merge_any ad1 cap1 qs _ (by omega) hln.out htop.out Hp1.out).mono ?_
      rintro e w2 ⟨v1, v2, rfl, hv1, hv2, hb2⟩
      have Hp2 := Lib.hid (promsAt_below Hp1.out hb2)
      have r1 := readsEnts_own hv1
      have r2 := readsEnts_own hv2
      have R1 := Lib.hid r1
      have R2 := Lib.hid r2
      clear hv1 hv2 r1 r2
      go_wp2_with fail
      refine (merged_any ad1 cap1 qs _ (by omega) hln.out htop.out Hp2.out).mono ?_
      rintro e w3 ⟨v3, v4, rfl, hv3, hv4, hb3⟩
      have R1' := Lib.hid (readsEnts_below R1.out hb3)
      have R2' := Lib.hid (readsEnts_below R2.out hb3)
      have R3 := Lib.hid (readsEnts_own hv3)
      have R4 := Lib.hid (readsEnts_own hv4)
      have hb13 := below_step (below_step hb1 hb2) hb3
      clear hv3 hv4 Hp1 Hp2 R1 R2
      go_wp2_with fail
      refine (entries_any v1 v3 _ _ R1'.out R3.out (by omega)).mono ?_
      rintro e wx ⟨rfl, n1, rfl⟩
      have R2n := Lib.hid (readsEnts_below R2'.out (below_drewN (Below.refl _ _) n1))
      have R4n := Lib.hid (readsEnts_below R4.out (below_drewN (Below.refl _ _) n1))
      have hb14 := below_drewN hb13 n1
      generalize w3.drewN n1 = w4 at R2n R4n hb14 ⊢
      go_wp2_with fail
      refine (entries_any v2 v4 _ _ R2n.out R4n.out (by omega)).mono ?_
      rintro e wx ⟨rfl, n2, rfl⟩
      have hb15 := below_drewN hb14 n2
      generalize w4.drewN n2 = w5 at hb15 ⊢
      go_wp2_with fail
      refine (awake_any _).mono ?_
      rintro e w6 ⟨rfl, hb6⟩
      go_wp2_with fail
      go_ret
      exact ⟨rfl, below_step hb15 hb6⟩
end Go.Proofs.Ytcbanjejojgncaa
