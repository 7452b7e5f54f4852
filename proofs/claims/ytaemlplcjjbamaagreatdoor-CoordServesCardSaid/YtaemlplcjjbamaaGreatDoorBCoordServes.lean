/- The walk of CoordServes: a coordinator all of whose vaults do what they are asked tells each backup OK, and then the list. No condition. -/
import Derived.Test.YtaemlplcjjbamaaGreatDoorBOpenAsks
import Derived.Test.YtaemlplcjjbamaaGreatDoorBRefTree
import Derived.Test.YtaemlplcjjbamaaGreatDoorBRefImage
import Derived.Deep.RegionHeld3
import Derived.Deep.CutBlock
namespace Go.Proofs.YtaemlplcjjbamaaGreatDoor
open Go Go.RowKit
set_option linter.unusedVariables false
theorem RW.cell {w0 w : World} {c wb kb n : Nat} (h : RW w0 c wb kb n w) : w.cell? ⟨wb, 0, none⟩ = some (.pointer (some ⟨c, 0, none⟩)) ∧ Below w0.heap.size w0 w := by
  obtain ⟨K, sv, h1⟩ := h
  obtain ⟨av, k, xs, b1, _⟩ := h1.world
  exact ⟨b1.cell 0, h1.below⟩
theorem ans_set5 {w0 w : World} {xb : Nat} {y0 y1 y2 y3 y4 : Value} (h : Blk w xb [y0, y1, y2, y3, y4] 51) (hx : w0.heap.size ≤ xb) (x0 x1 x2 x3 x4 : Value) :
    Blk (((((w.setCell ⟨xb, 0, none⟩ x0).setCell ⟨xb, 1, none⟩ x1).setCell ⟨xb, 2, none⟩ x2).setCell ⟨xb, 3, none⟩ x3).setCell ⟨xb, 4, none⟩ x4) xb [x0, x1, x2, x3, x4] 51 ∧ KA w0 w (((((w.setCell ⟨xb, 0, none⟩ x0).setCell ⟨xb, 1, none⟩ x1).setCell ⟨xb, 2, none⟩ x2).setCell ⟨xb, 3, none⟩ x3).setCell ⟨xb, 4, none⟩ x4) := by
  have hT : Touch (fun k => k = xb) w (((((w.setCell ⟨xb, 0, none⟩ x0).setCell ⟨xb, 1, none⟩ x1).setCell ⟨xb, 2, none⟩ x2).setCell ⟨xb, 3, none⟩ x3).setCell ⟨xb, 4, none⟩ x4) :=
    touchOne_set (touchOne_set (touchOne_set (touchOne_set (touchOne_set (Touch.refl _ _) _) _) _) _) _
  exact ⟨((((h.set 0 x0).set 1 x1).set 2 x2).set 3 x3).set 4 x4, Keep.of_touch hT (fun q _ e => by subst e; exact Tyd.blk h (by simp)) (by decide), Abv.of_touch hT (fun q _ e => by omega)⟩
set_option maxRecDepth 100000 in
set_option maxHeartbeats 8000000 in
theorem coordServes_walk (n : Int) (sa : Option Addr) (sl sc : Nat) (w : World) (_hwf : (Lit.int IntKind.i64 n).wf = true) (hs : CallsAt w sa sl) (hsl : sl ≤ maxLen) :
    Calls Tryz.prog 5 #[.int .i64 n, .slice sa sl sc] w fun e w' => e = .returned (.bool true) ∧ Below w.heap.size w w' := by
  have Hs := Lib.hid hs
  unfold maxLen at hsl
  clear hs
  by_cases hn : 1 ≤ n ∧ n ≤ 9
  · obtain ⟨N, rfl⟩ : ∃ N : Nat, n = N := ⟨n.toNat, by omega⟩
    have hn1 : 1 ≤ N := by omega
    have hn9 : N ≤ 9 := by omega
    go_enter Tryz.func5, Tryz.ntmps5
    go_wp2_with fail
    refine (fresh_full 1 (N : Int) 4 _ (by unfold NewOk BalOk; omega)).mono ?_
    rintro e w1 ⟨wb, kb, mb, c, t, rfl, hW, hbk, hc, ht, hwb0, hc0, ht0, hm0, hb1⟩
    have HI := Lib.hid (idl_fresh hn1 hn9 hW hbk hc ht hwb0 hc0 ht0 hb1)
    have Hm0 := Lib.hid hm0
    have hz1 := hb1.size
    clear hW hbk hc ht hb1 hwb0 hc0 ht0 hn hm0
    go_upto_block 0 with fail
    go_cut [6] (fun gv wx => ∃ g : Nat, gv = .int .i64 (g : Int) ∧ g ≤ 5 ∧ Hid (Idl w c t wb kb mb N 25000 5500000 g wx))
    case first =>
      go_wp2_with fail
      go_loopw [6, 7] (fun gv iv wr => ∃ g i : Nat, gv = .int .i64 (g : Int) ∧ iv = .int .i64 (i : Int) ∧ i ≤ sl ∧ i ≤ 5 ∧ g ≤ i ∧ Hid (Idl w c t wb kb mb N (5000 * i) (1100000 * i) g wr)) (fun _ iv _ => 5 - (intOf iv).toNat)
      case atStart => exact ⟨0, 0, rfl, rfl, by omega, by omega, by omega, HI⟩
      case round =>
        obtain ⟨g, i, rfl, rfl, hi, hi5, hgi, HX⟩ := hrel
        clear HI
        by_cases hlt : i < sl ∧ i < 5
        · obtain ⟨hlt1, hlt2⟩ := hlt
          have hbw := HX.out.rw.cell.2
          rcases Hs.out with h0 | ⟨b, off, rfl, hb, hops⟩
          · exact absurd h0 (by omega)
          obtain ⟨kd, kg, ad, cap, fs, hca⟩ := hops i hlt1
          have hca2 := hca.below hb hbw
          obtain ⟨⟨p0, p1, p2⟩, hfs, hfl, hfz⟩ := hca2
          have HFz := Lib.hid hfz
          have HFw := Lib.hid (show FewFiles (fewL fs) from ⟨by rw [fewL_len]; omega, fun f hf => ⟨by have := (fewL_ok hfz f hf).1; unfold maxLen at this; omega, (fewL_ok hfz f hf).2⟩⟩)
          have HFew := Lib.hid (few_any kd kg ad cap fs wr hfs hfl)
          have hszr := hbw.size
          clear hca hops hfs hfz hfl
          go_wp2_with fail
          refine HFew.out.mono ?_
          rintro e w2 ⟨fx, fy, rfl, hr2, hb2⟩
          have HR2 := Lib.hid (row_base hr2 (Nat.zero_le _))
          have HI2 := Lib.hid (HX.out.keepA (KA.of_below hb2))
          have hz2 := hb2.size
          clear hr2 hb2 HFew HX p0 p1 p2 hbw
          generalize hFL : fewL fs = FL at HR2 HFw ⊢
          clear hFL HFz
          go_upto_region 10 with fail
          have B3 := (Below.refl w2.heap.size w2).alloc (Nat.le_refl _) (.cells #[.int .i64 1, .int .i64 kg, .slice fx FL.length fy] 33)
          have Q3 := Blk.new w2 [.int .i64 1, .int .i64 kg, .slice fx FL.length fy] 33
          generalize w2.alloc (.cells #[.int .i64 1, .int .i64 kg, .slice fx FL.length fy] 33) = w3 at B3 Q3 ⊢
          have HI3 := Lib.hid (HI2.out.keepA (KA.of_below B3))
          have HR3 := Lib.hid (ownsRow_below HR2.out B3)
          have k2 : w3.cell? ⟨w2.heap.size, 2, none⟩ = some (.slice fx FL.length fy) := Q3.cell 2
          have HQ3 := Lib.hid Q3
          have hz3 := B3.size
          clear HI2 HR2 B3 Q3
          go_wp2_with fail
          refine (refImageOf_few fx fy FL w3 (tfsAt_own HR3.out) HFw.out.1 HFw.out.2).mono ?_
          rintro e w4 ⟨txt, rfl, _, hb4⟩
          have HI4 := Lib.hid (HI3.out.keepA (KA.of_below hb4))
          have HR4 := Lib.hid (ownsRow_below HR3.out hb4)
          have HQ4 := Lib.hid (HQ3.out.below hb4)
          have hz4 := hb4.size
          clear HI3 HR3 HQ3 hb4 k2
          generalize w2.heap.size = kb2 at HQ4 hz2 hz3 ⊢
          go_upto_region 11 with fail
          have r0 := HI4.out.rw.cell.1
          have q0 : w4.cell? ⟨kb2, 0, none⟩ = some (.int .i64 1) := HQ4.out.cell 0
          have q1 : w4.cell? ⟨kb2, 1, none⟩ = some (.int .i64 kg) := HQ4.out.cell 1
          have q2 : w4.cell? ⟨kb2, 2, none⟩ = some (.slice fx FL.length fy) := HQ4.out.cell 2
          go_still_tail 5, (by kernel_rfl)
          change wpList _ _ _ _ _ w4.drew
          have HAs := Lib.hid (idl_backup kg hn1 hn9 (by omega) (by omega) (by omega) Hm0.out (HI4.out.keepA (KA.of_below (Below.refl _ _).drew)) (ownsRow_below HR4.out (Below.refl _ _).drew) HFw.out)
          have hz5 : w.heap.size ≤ w4.drew.heap.size := show w.heap.size ≤ w4.heap.size by omega
          generalize w4.drew = w5 at HAs hz5 ⊢
          generalize hEE : checkE FL = EE at HAs ⊢
          clear HI4 HR4 HQ4 q0 q1 q2 r0 HFw hEE hz2 hz3 hz4 hszr hb
          go_wp2_with fail
          refine HAs.out.mono ?_
          rintro e w6 ⟨rfl, _, hrw6, hyes, hno⟩
          have HY := Lib.hid hyes
          have HN := Lib.hid hno
          have r6 := hrw6.cell.1
          have hz6 := hrw6.cell.2.size
          clear hyes hno hrw6 HAs
          by_cases hE : EE = 0
          · obtain ⟨A, M, E, hR, hA0, hEI, hT0⟩ := HY.out hE
            have HRo := Lib.hid hR
            have HA0 := Lib.hid hA0
            have HEI := Lib.hid hEI
            have HT0 := Lib.hid (hT0 w6 hA0)
            subst hE
            clear hR hA0 hEI hT0 HY HN
            go_upto_region 12 with fail
            go_wp2_with fail
            refine HT0.out.mono ?_
            rintro e w7 ⟨rfl, hA7, _⟩
            have HA7 := Lib.hid hA7
            have hrw7 := HRo.out.wA 0 w7 hA7
            have hz7 := hrw7.cell.2.size
            clear hA7 HT0 HA0 r6 hrw7
            unfold noAnswer
            go_upto_region 13 with fail
            have B8 := (Below.refl w7.heap.size w7).alloc (Nat.le_refl _) (.cells #[.int .i64 0, .int .i64 0, .int .i64 0, .slice none 0 0, .slice none 0 0] 51)
            have Q8 := Blk.new w7 [.int .i64 0, .int .i64 0, .int .i64 0, .slice none 0 0, .slice none 0 0] 51
            generalize w7.alloc (.cells #[.int .i64 0, .int .i64 0, .int .i64 0, .slice none 0 0, .slice none 0 0] 51) = w8 at B8 Q8 ⊢
            have HA8 := Lib.hid (HRo.out.qA 0 _ _ HA7.out (KA.of_below B8))
            generalize w7.heap.size = xb at Q8 hz7 ⊢
            have HQ8 := Lib.hid Q8
            clear HA7 B8 Q8
            go_wp2_with fail
            go_loopw [12, 13] (fun okv tv wr => ∃ τ : Nat, tv = .int .i64 (τ : Int) ∧ ((okv = .bool false ∧ τ < 3 ∧ Hid (A τ wr) ∧ ∃ y0 y1 y2 y3 y4, Hid (Blk wr xb [y0, y1, y2, y3, y4] 51)) ∨ (okv = .bool true ∧ τ = 3 ∧ Hid (E wr) ∧ ∃ (fa : Option Addr) (fl fc : Nat) (ma : Option Addr) (mc : Nat), Hid (Blk wr xb [.int .i64 0, .int .i64 (g : Int), .int .i64 0, .slice fa fl fc, .slice ma 0 mc] 51)))) (fun _ tv _ => 3 - (intOf tv).toNat)
            case atStart => exact ⟨0, rfl, Or.inl ⟨rfl, by omega, HA8, _, _, _, _, _, HQ8⟩⟩
            case round =>
              obtain ⟨τ, rfl, hcase⟩ := hrel
              clear HA8 HQ8
              rcases hcase with ⟨rfl, hτ, HA, y0, y1, y2, y3, y4, HQ⟩ | ⟨rfl, rfl, HE, fa, fl, fc, ma, mc, HQ⟩
              · have HT := Lib.hid (HRo.out.tick τ wr hτ HA.out)
                clear HA
                go_wp2_with fail
                refine (HT.out _ _ _ _ _ _ _ _ _ _ _ _ _ _ _ _ _ _ _).mono ?_
                rintro e wa ⟨r, rfl, hM, hka⟩
                have HM := Lib.hid hM
                have HQa := Lib.hid (hka _ _ _ (Or.inr rfl) HQ.out)
                clear hM hka HT HQ
                go_wp2_with fail
                go_loopw [14] (fun vv wr => ∃ v : Nat, vv = .int .i64 (v : Int) ∧ v ≤ N ∧ Hid (M τ v wr) ∧ Hid (Blk wr xb [y0, y1, y2, y3, y4] 51)) (fun vv _ => N - (intOf vv).toNat)
                case atStart => exact ⟨0, rfl, Nat.zero_le _, HM, HQa⟩
                case round =>
                  obtain ⟨v, rfl, hv, HMv, HQv⟩ := hrel
                  clear HM HQa
                  by_cases hvn : v < N
                  · have HF := Lib.hid (HRo.out.five τ v wr hτ hvn HMv.out)
                    clear HMv
                    go_wp2_with fail
                    refine (HF.out _ _ _ _ _ _ _ _ _ _ _ _ _ _ _ _ _ _).mono ?_
                    rintro e wb2 ⟨r2, rfl, hM2, hkb⟩
                    have HM2 := Lib.hid hM2
                    have HQ2 := Lib.hid (hkb _ _ _ (Or.inr rfl) HQv.out)
                    clear hM2 hkb HF HQv
                    go_wp2_with fail
                    go_roundw
                    case rel => exact ⟨v + 1, by go_num, by omega, HM2, HQ2⟩
                    case measure => simp [intOf]; omega
                  · obtain rfl : v = N := by omega
                    have r7 := (HRo.out.wM τ v wr HMv.out).cell.1
                    by_cases hl3 : τ + 1 < 3
                    · have HT := Lib.hid (HRo.out.take τ wr hl3 HMv.out)
                      clear HMv
                      go_wp2_with fail
                      refine HT.out.mono ?_
                      rintro e wt ⟨rfl, hA, hkt⟩
                      have HA := Lib.hid hA
                      have hQt := hkt _ _ _ (Or.inr rfl) HQv.out
                      have d0 : wt.cell? ⟨xb, 0, none⟩ = some y0 := hQt.cell 0
                      have d1 : wt.cell? ⟨xb, 1, none⟩ = some y1 := hQt.cell 1
                      have d2 : wt.cell? ⟨xb, 2, none⟩ = some y2 := hQt.cell 2
                      have d3 : wt.cell? ⟨xb, 3, none⟩ = some y3 := hQt.cell 3
                      have d4 : wt.cell? ⟨xb, 4, none⟩ = some y4 := hQt.cell 4
                      have hfr : ∀ j, wt.frozen? ⟨xb, j, none⟩ = false := fun j => hQt.free j
                      have hxl := hQt.lt
                      have HQt := Lib.hid hQt
                      clear hA hkt HT HQv r7 hQt
                      unfold noAnswer
                      go_wp2_with fail
                      go_roundw
                      case rel =>
                        obtain ⟨u1, u2⟩ := ans_set5 (w0 := w) HQt.out (by omega) (.int .i64 0) (.int .i64 0) (.int .i64 0) (.slice none 0 0) (.slice none 0 0)
                        exact ⟨τ + 1, by go_num, Or.inl ⟨rfl, hl3, Lib.hid (HRo.out.qA (τ + 1) _ _ HA.out u2), _, _, _, _, _, Lib.hid u1⟩⟩
                      case measure => simp [intOf]; omega
                    · obtain rfl : τ = 2 := by omega
                      have HT := Lib.hid (HRo.out.last wr HMv.out)
                      clear HMv
                      go_wp2_with fail
                      refine HT.out.mono ?_
                      rintro e wt ⟨fa, fl, fc, ma, mc, rfl, hA, hkt⟩
                      have HA := Lib.hid hA
                      have hQt := hkt _ _ _ (Or.inr rfl) HQv.out
                      have d0 : wt.cell? ⟨xb, 0, none⟩ = some y0 := hQt.cell 0
                      have d1 : wt.cell? ⟨xb, 1, none⟩ = some y1 := hQt.cell 1
                      have d2 : wt.cell? ⟨xb, 2, none⟩ = some y2 := hQt.cell 2
                      have d3 : wt.cell? ⟨xb, 3, none⟩ = some y3 := hQt.cell 3
                      have d4 : wt.cell? ⟨xb, 4, none⟩ = some y4 := hQt.cell 4
                      have hfr : ∀ j, wt.frozen? ⟨xb, j, none⟩ = false := fun j => hQt.free j
                      have hxl := hQt.lt
                      have HQt := Lib.hid hQt
                      clear hA hkt HT HQv r7 hQt
                      go_wp2_with fail
                      go_roundw
                      case rel =>
                        obtain ⟨u1, u2⟩ := ans_set5 (w0 := w) HQt.out (by omega) (.int .i64 0) (.int .i64 (g : Int)) (.int .i64 0) (.slice fa fl fc) (.slice ma 0 mc)
                        exact ⟨3, by go_num, Or.inr ⟨rfl, rfl, Lib.hid (HRo.out.qE _ _ HA.out u2), fa, fl, fc, ma, mc, Lib.hid u1⟩⟩
                      case measure => simp [intOf]
              · have d0 : wr.cell? ⟨xb, 0, none⟩ = some (.int .i64 0) := HQ.out.cell 0
                have d1 : wr.cell? ⟨xb, 1, none⟩ = some (.int .i64 (g : Int)) := HQ.out.cell 1
                have HIn := Lib.hid ((HEI.out wr HE.out).mono (show 5000 * i + 5000 ≤ 5000 * (i + 1) by omega) (show 1100000 * i + 1100000 ≤ 1100000 * (i + 1) by omega))
                go_wp2_with fail
                go_roundw
                case rel => exact ⟨g + 1, i + 1, by go_num, by go_num, by omega, by omega, by omega, HIn⟩
                case measure => simp [intOf]; omega
          · have hf := HN.out hE
            unfold Fails at hf
            have HF := Lib.hid hf
            clear hf HY HN
            go_upto_region 12 with fail
            go_wp2_with fail
            refine HF.out.mono ?_
            rintro e w7 ⟨rfl, hI7, _⟩
            have HI7 := Lib.hid hI7
            clear hI7 HF r6
            go_upto_region 13 with fail
            have B8 := (Below.refl w7.heap.size w7).alloc (Nat.le_refl _) (.cells #[.int .i64 EE, .int .i64 0, .int .i64 0, .slice none 0 0, .slice none 0 0] 51)
            have Q8 := Blk.new w7 [.int .i64 EE, .int .i64 0, .int .i64 0, .slice none 0 0, .slice none 0 0] 51
            generalize w7.alloc (.cells #[.int .i64 EE, .int .i64 0, .int .i64 0, .slice none 0 0, .slice none 0 0] 51) = w8 at B8 Q8 ⊢
            have HI8 := Lib.hid ((HI7.out.keepA (KA.of_below B8)).mono (show 5000 * i ≤ 5000 * (i + 1) by omega) (show 1100000 * i ≤ 1100000 * (i + 1) by omega))
            have d0 : w8.cell? ⟨w7.heap.size, 0, none⟩ = some (.int .i64 EE) := Q8.cell 0
            have e1 : (EE != EE) = false := by simp
            have e2 : (EE == 0) = false := by rw [beq_eq_false_iff_ne]; exact hE
            clear HI7 B8 Q8 hE
            go_wp2_with fail
            go_loopw [12, 13] (fun okv tv wx => okv = .bool true ∧ tv = .int .i64 0 ∧ wx = w8) (fun _ _ _ => 0)
            case atStart => exact ⟨rfl, rfl, rfl⟩
            case round =>
              obtain ⟨rfl, rfl, rfl⟩ := hrel
              go_wp2_with fail
              go_roundw
              case rel => exact ⟨g, i + 1, by go_num, by go_num, by omega, by omega, by omega, HI8⟩
              case measure => simp [intOf]; omega
        · have HI8 := Lib.hid (HX.out.mono (show 5000 * i ≤ 25000 by omega) (show 1100000 * i ≤ 5500000 by omega))
          clear HX
          go_wp2_with fail
          all_goals go_meet
          all_goals exact ⟨g, rfl, by omega, HI8⟩
    case rest =>
      obtain ⟨g, rfl, hg5, HI9⟩ := hcut
      clear HI
      have r0 := HI9.out.rw.cell.1
      have HAs := Lib.hid (idl_list hn1 hn9 hg5 (by omega) (by omega) Hm0.out HI9.out)
      clear HI9
      go_wp2_with fail
      refine HAs.out.mono ?_
      rintro e w2 ⟨rfl, _, hrw2, T, A, M, E, hR, hA0, hEI, hT0⟩
      have r2 := hrw2.cell.1
      have HRo := Lib.hid hR
      have HEI := Lib.hid hEI
      have HT0 := Lib.hid (hT0 w2 hA0)
      have hTp := hR.pos
      clear hR hA0 hEI hT0 HAs hrw2 r0
      go_upto_region 27 with fail
      go_wp2_with fail
      refine HT0.out.mono ?_
      rintro e w7 ⟨rfl, hA7, _⟩
      have HA7 := Lib.hid hA7
      have hrw7 := HRo.out.wA 0 w7 hA7
      have hz7 := hrw7.cell.2.size
      clear hA7 HT0 r2 hrw7
      unfold noAnswer
      go_upto_region 28 with fail
      have B8 := (Below.refl w7.heap.size w7).alloc (Nat.le_refl _) (.cells #[.int .i64 0, .int .i64 0, .int .i64 0, .slice none 0 0, .slice none 0 0] 51)
      have Q8 := Blk.new w7 [.int .i64 0, .int .i64 0, .int .i64 0, .slice none 0 0, .slice none 0 0] 51
      generalize w7.alloc (.cells #[.int .i64 0, .int .i64 0, .int .i64 0, .slice none 0 0, .slice none 0 0] 51) = w8 at B8 Q8 ⊢
      have HA8 := Lib.hid (HRo.out.qA 0 _ _ HA7.out (KA.of_below B8))
      generalize w7.heap.size = xb at Q8 hz7 ⊢
      have HQ8 := Lib.hid Q8
      clear HA7 B8 Q8
      go_wp2_with fail
      go_loopw [16, 17] (fun okv tv wr => ∃ τ : Nat, tv = .int .i64 (τ : Int) ∧ ((okv = .bool false ∧ τ < T ∧ Hid (A τ wr) ∧ ∃ y0 y1 y2 y3 y4, Hid (Blk wr xb [y0, y1, y2, y3, y4] 51)) ∨ (okv = .bool true ∧ τ = T ∧ Hid (E wr) ∧ ∃ (fa : Option Addr) (fl fc : Nat) (ma : Option Addr) (mc : Nat), Hid (Blk wr xb [.int .i64 0, .int .i64 (g : Int), .int .i64 0, .slice fa fl fc, .slice ma g mc] 51)))) (fun _ tv _ => T - (intOf tv).toNat)
      case atStart => exact ⟨0, rfl, Or.inl ⟨rfl, by omega, HA8, _, _, _, _, _, HQ8⟩⟩
      case round =>
        obtain ⟨τ, rfl, hcase⟩ := hrel
        clear HA8 HQ8
        rcases hcase with ⟨rfl, hτ, HA, y0, y1, y2, y3, y4, HQ⟩ | ⟨rfl, rfl, HE, fa, fl, fc, ma, mc, HQ⟩
        · have HT := Lib.hid (HRo.out.tick τ wr hτ HA.out)
          clear HA
          go_wp2_with fail
          refine (HT.out _ _ _ _ _ _ _ _ _ _ _ _ _ _ _ _ _ _ _).mono ?_
          rintro e wa ⟨r, rfl, hM, hka⟩
          have HM := Lib.hid hM
          have HQa := Lib.hid (hka _ _ _ (Or.inr rfl) HQ.out)
          clear hM hka HT HQ
          go_wp2_with fail
          go_loopw [18] (fun vv wr => ∃ v : Nat, vv = .int .i64 (v : Int) ∧ v ≤ N ∧ Hid (M τ v wr) ∧ Hid (Blk wr xb [y0, y1, y2, y3, y4] 51)) (fun vv _ => N - (intOf vv).toNat)
          case atStart => exact ⟨0, rfl, Nat.zero_le _, HM, HQa⟩
          case round =>
            obtain ⟨v, rfl, hv, HMv, HQv⟩ := hrel
            clear HM HQa
            by_cases hvn : v < N
            · have HF := Lib.hid (HRo.out.five τ v wr hτ hvn HMv.out)
              clear HMv
              go_wp2_with fail
              refine (HF.out _ _ _ _ _ _ _ _ _ _ _ _ _ _ _ _ _ _).mono ?_
              rintro e wb2 ⟨r2, rfl, hM2, hkb⟩
              have HM2 := Lib.hid hM2
              have HQ2 := Lib.hid (hkb _ _ _ (Or.inr rfl) HQv.out)
              clear hM2 hkb HF HQv
              go_wp2_with fail
              go_roundw
              case rel => exact ⟨v + 1, by go_num, by omega, HM2, HQ2⟩
              case measure => simp [intOf]; omega
            · obtain rfl : v = N := by omega
              have r7 := (HRo.out.wM τ v wr HMv.out).cell.1
              by_cases hl3 : τ + 1 < T
              · have HT := Lib.hid (HRo.out.take τ wr hl3 HMv.out)
                clear HMv
                go_wp2_with fail
                refine HT.out.mono ?_
                rintro e wt ⟨rfl, hA, hkt⟩
                have HA := Lib.hid hA
                have hQt := hkt _ _ _ (Or.inr rfl) HQv.out
                have d0 : wt.cell? ⟨xb, 0, none⟩ = some y0 := hQt.cell 0
                have d1 : wt.cell? ⟨xb, 1, none⟩ = some y1 := hQt.cell 1
                have d2 : wt.cell? ⟨xb, 2, none⟩ = some y2 := hQt.cell 2
                have d3 : wt.cell? ⟨xb, 3, none⟩ = some y3 := hQt.cell 3
                have d4 : wt.cell? ⟨xb, 4, none⟩ = some y4 := hQt.cell 4
                have hfr : ∀ j, wt.frozen? ⟨xb, j, none⟩ = false := fun j => hQt.free j
                have hxl := hQt.lt
                have HQt := Lib.hid hQt
                clear hA hkt HT HQv r7 hQt
                unfold noAnswer
                go_wp2_with fail
                go_roundw
                case rel =>
                  obtain ⟨u1, u2⟩ := ans_set5 (w0 := w) HQt.out (by omega) (.int .i64 0) (.int .i64 0) (.int .i64 0) (.slice none 0 0) (.slice none 0 0)
                  exact ⟨τ + 1, by go_num, Or.inl ⟨rfl, hl3, Lib.hid (HRo.out.qA (τ + 1) _ _ HA.out u2), _, _, _, _, _, Lib.hid u1⟩⟩
                case measure => simp [intOf]; omega
              · have hMl : M (T - 1) v wr := by rw [show T - 1 = τ by omega]; exact HMv.out
                have HT := Lib.hid (HRo.out.last wr hMl)
                clear HMv hMl
                go_wp2_with fail
                refine HT.out.mono ?_
                rintro e wt ⟨fa, fl, fc, ma, mc, rfl, hA, hkt⟩
                have HA := Lib.hid hA
                have hQt := hkt _ _ _ (Or.inr rfl) HQv.out
                have d0 : wt.cell? ⟨xb, 0, none⟩ = some y0 := hQt.cell 0
                have d1 : wt.cell? ⟨xb, 1, none⟩ = some y1 := hQt.cell 1
                have d2 : wt.cell? ⟨xb, 2, none⟩ = some y2 := hQt.cell 2
                have d3 : wt.cell? ⟨xb, 3, none⟩ = some y3 := hQt.cell 3
                have d4 : wt.cell? ⟨xb, 4, none⟩ = some y4 := hQt.cell 4
                have hfr : ∀ j, wt.frozen? ⟨xb, j, none⟩ = false := fun j => hQt.free j
                have hxl := hQt.lt
                have HQt := Lib.hid hQt
                clear hA hkt HT HQv r7 hQt
                go_wp2_with fail
                go_roundw
                case rel =>
                  obtain ⟨u1, u2⟩ := ans_set5 (w0 := w) HQt.out (by omega) (.int .i64 0) (.int .i64 (g : Int)) (.int .i64 0) (.slice fa fl fc) (.slice ma g mc)
                  exact ⟨τ + 1, by go_num, Or.inr ⟨rfl, by omega, Lib.hid (HRo.out.qE _ _ HA.out u2), fa, fl, fc, ma, mc, Lib.hid u1⟩⟩
                case measure => simp [intOf]; omega
        · have d0 : wr.cell? ⟨xb, 0, none⟩ = some (.int .i64 0) := HQ.out.cell 0
          have d1 : wr.cell? ⟨xb, 1, none⟩ = some (.int .i64 (g : Int)) := HQ.out.cell 1
          have d2 : wr.cell? ⟨xb, 2, none⟩ = some (.int .i64 0) := HQ.out.cell 2
          have d4 : wr.cell? ⟨xb, 4, none⟩ = some (.slice ma g mc) := HQ.out.cell 4
          have HBw := Lib.hid (HEI.out wr HE.out).cell.2
          go_wp2_with fail
          refine (awake_any _).mono ?_
          rintro e w9 ⟨rfl, hb9⟩
          have HB9 := Lib.hid (HBw.out.trans (hb9.mono HBw.out.size))
          go_wp2_with fail
          go_ret
          exact ⟨rfl, HB9.out⟩
  · have hnk : ¬ NewOk 1 n 4 := by unfold NewOk; omega
    clear hn
    go_enter Tryz.func5, Tryz.ntmps5
    go_wp2_with fail
    refine (fresh_no 1 n 4 _ hnk).mono ?_
    rintro e w1 ⟨rfl, hb1⟩
    go_wp2_with fail
    refine (awake_any _).mono ?_
    rintro e w2 ⟨rfl, hb2⟩
    go_wp2_with fail
    go_ret
    exact ⟨rfl, below_step hb1 hb2⟩
end Go.Proofs.YtaemlplcjjbamaaGreatDoor
