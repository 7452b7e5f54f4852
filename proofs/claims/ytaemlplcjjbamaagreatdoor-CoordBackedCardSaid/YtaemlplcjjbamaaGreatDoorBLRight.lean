/- The walk of the document's Right (layer 17) at whatever mess -/
import Derived.Test.YtaemlplcjjbamaaGreatDoorBCRight
namespace Go.Proofs.YtaemlplcjjbamaaGreatDoor
open Go.Lib (hid)
set_option maxRecDepth 100000
set_option maxHeartbeats 8000000
open Go Go.RowKit
set_option linter.unusedVariables false
def fitsB (n : Int) : Bool := decide (0 ≤ n ∧ n ≤ 4611686018427387903)
theorem fits_all (n : Int) (w : World) : Calls Tryz.prog 77 #[.int .i64 n] w fun e w' => e = .returned (.bool (fitsB n)) ∧ w = w' := by
 unfold fitsB
 by_cases h0 : 0 ≤ n
 ·by_cases h1 : n ≤ 4611686018427387903
  ·rw [decide_eq_true ⟨h0, h1⟩]
   exact fits_any n w h0 h1
  ·rw [decide_eq_false (fun h => h1 h.2)]
   go_enter Tryz.func77, Tryz.ntmps77
   go_wp2
   go_ret
   exact ⟨rfl, rfl⟩
 ·rw [decide_eq_false (fun h => h0 h.1)]
  go_enter Tryz.func77, Tryz.ntmps77
  go_wp2
  go_ret
  exact ⟨rfl, rfl⟩
def ABool (w : World) (e : Ending) (w' : World) : Prop := (∃ b : Bool, e = .returned (.bool b)) ∧ Below w.heap.size w w'
theorem zIw (m : MG) (hk : ¬ zCG m.k) (w : World) : Calls Tryz.prog 46 #[.agg #[.int .i64 m.k, .int .i64 m.fr, .int .i64 m.to_, .int .i64 m.bal, .int .i64 m.gen, .int .i64 m.bas, .int .i64 m.fl, .int .i64 m.tp, .int .i64 m.rd, .string m.mrk, .int .i64 m.pa, .int .i64 m.po, .string m.pt, .slice m.la m.ll m.lc]] w (ABool w) := by
 have HB := hid ((Below.refl w.heap.size w).alloc (Nat.le_refl _) (.cells #[.int .i64 m.k, .int .i64 m.fr, .int .i64 m.to_, .int .i64 m.bal, .int .i64 m.gen, .int .i64 m.bas, .int .i64 m.fl, .int .i64 m.tp, .int .i64 m.rd, .string m.mrk, .int .i64 m.pa, .int .i64 m.po, .string m.pt, .slice m.la m.ll m.lc] 30))
 have HFd := hid (fun w1 => (show Calls Tryz.prog 48 #[.int .i64 m.k] w1 fun e w' => e = .returned (.string ⟨#[]⟩) ∧ w1 = w' by rw [← zCq hk]; exact zFV m.k w1))
 clear hk
 go_enter Tryz.func46, Tryz.ntmps46
 go_wp2_with fail
 refine (HFd.out _).mono ?_
 rintro e w1 ⟨rfl, rfl⟩
 go_wp2_with fail
 go_ret
 exact ⟨⟨_, rfl⟩, HB.out⟩
theorem zIL (m : MG) (hkd : zCG m.k) (hll : m.ll = 0) (w : World) : Calls Tryz.prog 46 #[.agg #[.int .i64 m.k, .int .i64 m.fr, .int .i64 m.to_, .int .i64 m.bal, .int .i64 m.gen, .int .i64 m.bas, .int .i64 m.fl, .int .i64 m.tp, .int .i64 m.rd, .string m.mrk, .int .i64 m.pa, .int .i64 m.po, .string m.pt, .slice m.la m.ll m.lc]] w (ABool w) := by
 have Hll := hid hll
 have HB := hid ((Below.refl w.heap.size w).alloc (Nat.le_refl _) (.cells #[.int .i64 m.k, .int .i64 m.fr, .int .i64 m.to_, .int .i64 m.bal, .int .i64 m.gen, .int .i64 m.bas, .int .i64 m.fl, .int .i64 m.tp, .int .i64 m.rd, .string m.mrk, .int .i64 m.pa, .int .i64 m.po, .string m.pt, .slice m.la m.ll m.lc] 30))
 have HQ := hid (Blk.new w [.int .i64 m.k, .int .i64 m.fr, .int .i64 m.to_, .int .i64 m.bal, .int .i64 m.gen, .int .i64 m.bas, .int .i64 m.fl, .int .i64 m.tp, .int .i64 m.rd, .string m.mrk, .int .i64 m.pa, .int .i64 m.po, .string m.pt, .slice m.la m.ll m.lc] 30)
 have HFd := hid (fun w1 => zDP m.k hkd w1)
 have HHs := hid (fun x w1 => lawHas_any m.k x hkd w1)
 clear hll hkd
 go_enter Tryz.func46, Tryz.ntmps46
 go_upto_region 1 with fail
 generalize w.alloc (.cells #[.int .i64 m.k, .int .i64 m.fr, .int .i64 m.to_, .int .i64 m.bal, .int .i64 m.gen, .int .i64 m.bas, .int .i64 m.fl, .int .i64 m.tp, .int .i64 m.rd, .string m.mrk, .int .i64 m.pa, .int .i64 m.po, .string m.pt, .slice m.la m.ll m.lc] 30) = w1 at HB HQ ⊢
 obtain ⟨q, hq⟩ : ∃ q, q = w.heap.size := ⟨_, rfl⟩
 rw [← hq] at HQ ⊢
 have hqw : w.heap.size ≤ q := by omega
 clear hq
 obtain ⟨q0, q1, q2, q3, q4, q5, q6, q7, q8, q9, q10, q11, q12, q13⟩ := (blk14 HQ.out).1
 go_cut [32] (fun v wx => ∃ b : Bool, v = .bool b ∧ w1 = wx)
 case first =>
  as_aux_lemma =>
   cases hem : (fieldsOf m.k).toList.isEmpty with
   | true =>
    go_wp2_with fail
    refine (HFd.out _).mono ?_
    rintro e w' ⟨rfl, rfl⟩
    go_wp2_with fail
    go_meet
    exact ⟨_, rfl, rfl⟩
   | false =>
    go_wp2_with fail
    refine (HFd.out _).mono ?_
    rintro e w' ⟨rfl, rfl⟩
    by_cases h1 : m.fr < 0
    ·go_wp2_with fail
     go_meet
     exact ⟨_, rfl, rfl⟩
    ·by_cases h2 : (255 : Int) < m.fr
     ·go_wp2_with fail
      go_meet
      exact ⟨_, rfl, rfl⟩
     ·by_cases h3 : m.to_ < 0
      ·go_wp2_with fail
       go_meet
       exact ⟨_, rfl, rfl⟩
      ·by_cases h4 : (255 : Int) < m.to_
       ·go_wp2_with fail
        go_meet
        exact ⟨_, rfl, rfl⟩
       ·go_wp2_with fail
        go_meet
        exact ⟨_, rfl, rfl⟩
 case rest =>
  obtain ⟨b, rfl, rfl⟩ := hcut
  clear q0 q1 q2 q3 q4 q5 q6 q7 q8 q9 q10 q11 q12 q13 HFd
  cases b with
  | true =>
   go_wp2_with fail
   go_ret
   exact ⟨⟨_, rfl⟩, HB.out⟩
  | false =>
   go_wp2_with fail
   go_loopw [4, 5] (fun i _ wr => ∃ k : Nat, i = .int .i64 k ∧ k ≤ 6 ∧ Hid (Blk wr q [.int .i64 m.k, .int .i64 m.fr, .int .i64 m.to_, .int .i64 m.bal, .int .i64 m.gen, .int .i64 m.bas, .int .i64 m.fl, .int .i64 m.tp, .int .i64 m.rd, .string m.mrk, .int .i64 m.pa, .int .i64 m.po, .string m.pt, .slice m.la m.ll m.lc] 30) ∧ Below w.heap.size w wr) (fun i _ _ => 6 - (intOf i).toNat)
   case atStart => exact ⟨0, rfl, by omega, HQ, HB.out⟩
   case round =>
    obtain ⟨k, rfl, hk, HQ2, hbr⟩ := hrel
    clear HQ HB
    obtain ⟨q0, q1, q2, q3, q4, q5, q6, q7, q8, q9, q10, q11, q12, q13⟩ := (blk14 HQ2.out).1
    have hql := HQ2.out.lt
    by_cases hlt : k < 6
    ·have hnl : NumL (((⟨#[66, 71, 83, 70, 84, 82]⟩ : ByteArray)[k]'(show k < 6 from hlt)).toNat : Int) := six_num k hlt
     have HN := hid (fun w1 => zFS m (((⟨#[66, 71, 83, 70, 84, 82]⟩ : ByteArray)[k]'(show k < 6 from hlt)).toNat : Int) hnl w1)
     have HH := hid (fun w1 => HHs.out (((⟨#[66, 71, 83, 70, 84, 82]⟩ : ByteArray)[k]'(show k < 6 from hlt)).toNat : Int) w1)
     obtain ⟨nv, hnv⟩ : ∃ nv, nv = m.num (((⟨#[66, 71, 83, 70, 84, 82]⟩ : ByteArray)[k]'(show k < 6 from hlt)).toNat : Int) := ⟨_, rfl⟩
     rw [← hnv] at HN
     obtain ⟨hv, hhv⟩ : ∃ hv, hv = hasB (fieldsOf m.k) (((⟨#[66, 71, 83, 70, 84, 82]⟩ : ByteArray)[k]'(show k < 6 from hlt)).toNat : Int) := ⟨_, rfl⟩
     rw [← hhv] at HH
     have hks : k < (⟨#[66, 71, 83, 70, 84, 82]⟩ : ByteArray).size := hlt
     clear hnl hnv hhv
     go_upto_region 7 with fail
     go_still_tail 4, (by kernel_rfl)
     change wpList _ _ _ _ _ wr.drew
     have HQ3 := hid HQ2.out.drew
     have hbr3 := hbr.drew
     have hql3 : q < wr.drew.heap.size := hql
     generalize wr.drew = w3 at HQ3 hbr3 hql3 ⊢
     clear q0 q1 q2 q3 q4 q5 q6 q7 q8 q9 q10 q11 q12 q13 HQ2 hbr hql
     go_wp2_with fail
     refine (HN.out _).mono ?_
     rintro e w4 ⟨rfl, hb4⟩
     have HQ4 := hid (HQ3.out.below hb4)
     have hbr4 := zAd hbr3 hb4
     have p0 : w4.cell? ⟨q, 0, none⟩ = some (.int .i64 m.k) := HQ4.out.cell 0
     clear HQ3 hbr3 hb4 HN
     have HF := hid (fun w1 => fits_all nv w1)
     generalize fitsB nv = fb at HF
     cases hv with
     | true =>
      cases fb with
      | true =>
       go_wp2_with fail
       go_quiet (first | (go_at_call 76; first | exact zAf (HH.out _) | exact quiet_add_left (HH.out _)) | (go_at_call 77; first | exact zAf (HF.out _) | exact quiet_add_left (HF.out _)))
       go_wp2_with fail
       go_roundw
       case rel => exact ⟨k + 1, by go_num, by omega, hid HQ4.out.drew, below_drewN hbr4 _⟩
       case measure => simp [intOf]; omega
      | false =>
       go_wp2_with fail
       go_quiet (first | (go_at_call 76; first | exact zAf (HH.out _) | exact quiet_add_left (HH.out _)) | (go_at_call 77; first | exact zAf (HF.out _) | exact quiet_add_left (HF.out _)))
       go_wp2_with fail
       go_ret
       exact ⟨⟨_, rfl⟩, below_drewN hbr4 _⟩
     | false =>
      cases hz : (nv != 0) with
      | true =>
       go_wp2_with fail
       go_quiet (first | (go_at_call 76; first | exact zAf (HH.out _) | exact quiet_add_left (HH.out _)) | (go_at_call 77; first | exact zAf (HF.out _) | exact quiet_add_left (HF.out _)))
       go_wp2_with fail
       go_ret
       exact ⟨⟨_, rfl⟩, below_drewN hbr4 _⟩
      | false =>
       go_wp2_with fail
       go_quiet (first | (go_at_call 76; first | exact zAf (HH.out _) | exact quiet_add_left (HH.out _)) | (go_at_call 77; first | exact zAf (HF.out _) | exact quiet_add_left (HF.out _)))
       go_wp2_with fail
       go_roundw
       case rel => exact ⟨k + 1, by go_num, by omega, hid HQ4.out.drew, below_drewN hbr4 _⟩
       case measure => simp [intOf]; omega
    ·obtain rfl : k = 6 := by omega
     have H76 := hid (fun w1 => HHs.out 76 w1)
     have H77 := hid (fun w1 => HHs.out 77 w1)
     have H80 := hid (fun w1 => HHs.out 80 w1)
     clear hlt hk HHs
     generalize hasB (fieldsOf m.k) 76 = b76 at H76
     generalize hasB (fieldsOf m.k) 77 = b77 at H77
     generalize hasB (fieldsOf m.k) 80 = b80 at H80
     rw [Hll.out] at q13
     go_upto_region 10 with fail
     go_cut [85] (fun v wx => ∃ b : Bool, v = .bool b ∧ wr = wx)
     case first =>
      cases b77 with
      | true =>
       cases e32 : ((m.mrk.size : Int) != 32) with
       | true =>
        go_wp2_with fail
        refine (H77.out _).mono ?_
        rintro e w' ⟨rfl, rfl⟩
        go_wp2_with fail
        go_meet
        exact ⟨_, rfl, rfl⟩
       | false =>
        go_wp2_with fail
        refine (H77.out _).mono ?_
        rintro e w' ⟨rfl, rfl⟩
        go_wp2_with fail
        refine (H77.out _).mono ?_
        rintro e w' ⟨rfl, rfl⟩
        go_wp2_with fail
        go_meet
        exact ⟨_, rfl, rfl⟩
      | false =>
       go_wp2_with fail
       refine (H77.out _).mono ?_
       rintro e w' ⟨rfl, rfl⟩
       go_wp2_with fail
       refine (H77.out _).mono ?_
       rintro e w' ⟨rfl, rfl⟩
       go_wp2_with fail
       go_meet
       exact ⟨_, rfl, rfl⟩
     case rest =>
      obtain ⟨b, rfl, rfl⟩ := hcut
      cases b with
      | true =>
       go_wp2_with fail
       go_ret
       exact ⟨⟨_, rfl⟩, hbr⟩
      | false =>
       have b2 := hbr.alloc hbr.size (.cells #[.int .i64 m.pa, .int .i64 m.po, .string m.pt] 27)
       have P2 := Blk.new wr [.int .i64 m.pa, .int .i64 m.po, .string m.pt] 27
       have Q2 := HQ2.out.alloc (.cells #[.int .i64 m.pa, .int .i64 m.po, .string m.pt] 27)
       go_upto_region 13 with fail
       clear q0 q1 q2 q3 q4 q5 q6 q7 q8 q9 q10 q11 q12 q13 HQ2 hbr
       generalize wr.alloc (.cells #[.int .i64 m.pa, .int .i64 m.po, .string m.pt] 27) = w5 at b2 P2 Q2 ⊢
       generalize wr.heap.size = g at P2 ⊢
       have q0 : w5.cell? ⟨q, 0, none⟩ = some (.int .i64 m.k) := Q2.cell 0
       have p0 : w5.cell? ⟨g, 0, none⟩ = some (.int .i64 m.pa) := P2.cell 0
       have p1 : w5.cell? ⟨g, 1, none⟩ = some (.int .i64 m.po) := P2.cell 1
       have p2 : w5.cell? ⟨g, 2, none⟩ = some (.string m.pt) := P2.cell 2
       have q13 : w5.cell? ⟨q, 13, none⟩ = some (.slice m.la 0 m.lc) := by rw [← Hll.out]; exact Q2.cell 13
       have HB5 := hid b2
       clear b2 P2 Q2
       go_cut [137] (fun v wx => ∃ b : Bool, v = .bool b ∧ w5 = wx)
       case first =>
        as_aux_lemma =>
         cases b80 with
         | true =>
          by_cases t1 : m.pa < 0
          ·go_wp2_with fail
           refine (H80.out _).mono ?_
           rintro e w' ⟨rfl, rfl⟩
           go_wp2_with fail
           go_meet
           exact ⟨_, rfl, rfl⟩
          ·by_cases t2 : (4096 : Int) < m.pa
           ·go_wp2_with fail
            refine (H80.out _).mono ?_
            rintro e w' ⟨rfl, rfl⟩
            go_wp2_with fail
            go_meet
            exact ⟨_, rfl, rfl⟩
           ·by_cases t3 : m.po < 0
            ·go_wp2_with fail
             refine (H80.out _).mono ?_
             rintro e w' ⟨rfl, rfl⟩
             go_wp2_with fail
             go_meet
             exact ⟨_, rfl, rfl⟩
            ·by_cases t4 : (4096 : Int) < m.po
             ·go_wp2_with fail
              refine (H80.out _).mono ?_
              rintro e w' ⟨rfl, rfl⟩
              go_wp2_with fail
              go_meet
              exact ⟨_, rfl, rfl⟩
             ·by_cases t5 : (1024 : Int) < (m.pt.size : Int)
              ·go_wp2_with fail
               refine (H80.out _).mono ?_
               rintro e w' ⟨rfl, rfl⟩
               go_wp2_with fail
               go_meet
               exact ⟨_, rfl, rfl⟩
              ·go_wp2_with fail
               refine (H80.out _).mono ?_
               rintro e w' ⟨rfl, rfl⟩
               go_wp2_with fail
               refine (H80.out _).mono ?_
               rintro e w' ⟨rfl, rfl⟩
               go_wp2_with fail
               go_meet
               exact ⟨_, rfl, rfl⟩
         | false =>
          cases t1 : (m.pa != 0) with
          | true =>
           go_wp2_with fail
           refine (H80.out _).mono ?_
           rintro e w' ⟨rfl, rfl⟩
           go_wp2_with fail
           refine (H80.out _).mono ?_
           rintro e w' ⟨rfl, rfl⟩
           go_wp2_with fail
           go_meet
           exact ⟨_, rfl, rfl⟩
          | false =>
           cases t2 : (m.po != 0) with
           | true =>
            go_wp2_with fail
            refine (H80.out _).mono ?_
            rintro e w' ⟨rfl, rfl⟩
            go_wp2_with fail
            refine (H80.out _).mono ?_
            rintro e w' ⟨rfl, rfl⟩
            go_wp2_with fail
            go_meet
            exact ⟨_, rfl, rfl⟩
           | false =>
            go_wp2_with fail
            refine (H80.out _).mono ?_
            rintro e w' ⟨rfl, rfl⟩
            go_wp2_with fail
            refine (H80.out _).mono ?_
            rintro e w' ⟨rfl, rfl⟩
            go_wp2_with fail
            go_meet
            exact ⟨_, rfl, rfl⟩
       case rest =>
        obtain ⟨b, rfl, rfl⟩ := hcut
        clear p0 p1 p2
        cases b with
        | true =>
         go_wp2_with fail
         go_ret
         exact ⟨⟨_, rfl⟩, HB5.out⟩
        | false =>
         cases b76 with
         | false =>
          go_wp2_with fail
          refine (H76.out _).mono ?_
          rintro e w' ⟨rfl, rfl⟩
          go_wp2_with fail
          go_ret
          exact ⟨⟨_, rfl⟩, HB5.out⟩
         | true =>
          go_wp2_with fail
          refine (H76.out _).mono ?_
          rintro e w' ⟨rfl, rfl⟩
          go_wp2_with fail
          go_loopw [7] (fun i wr2 => i = .int .i64 0 ∧ w5 = wr2) (fun _ _ => 0)
          case atStart => exact ⟨rfl, rfl⟩
          case round =>
           obtain ⟨rfl, rfl⟩ := hrel
           go_wp2_with fail
           go_ret
           exact ⟨⟨_, rfl⟩, HB5.out⟩
theorem lright_any (m : MG) (hll : m.ll = 0) (w : World) : Calls Tryz.prog 46 #[.agg #[.int .i64 m.k, .int .i64 m.fr, .int .i64 m.to_, .int .i64 m.bal, .int .i64 m.gen, .int .i64 m.bas, .int .i64 m.fl, .int .i64 m.tp, .int .i64 m.rd, .string m.mrk, .int .i64 m.pa, .int .i64 m.po, .string m.pt, .slice m.la m.ll m.lc]] w (ABool w) := by
 rcases zDO m.k with h | h
 ·exact zIL m h hll w
 ·exact zIw m h w
end Go.Proofs.YtaemlplcjjbamaaGreatDoor
