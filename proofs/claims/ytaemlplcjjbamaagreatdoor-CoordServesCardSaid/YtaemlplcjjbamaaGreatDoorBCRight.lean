/- The walk of the document's Right (layer 17) at any message without a list (printed by wip/mkcright.py). Condition: the message is fit (FitM). -/
import Derived.Test.YtaemlplcjjbamaaGreatDoorBCHas
import Derived.StillTailTactics
namespace Go.Proofs.YtaemlplcjjbamaaGreatDoor
open Go Go.RowKit
set_option linter.unusedVariables false
structure FitM (m : MG) : Prop where
  kind : IsKind m.k
  full : (fieldsOf m.k).toList.isEmpty = false
  fr : 0 ≤ m.fr ∧ m.fr ≤ 255
  to_ : 0 ≤ m.to_ ∧ m.to_ ≤ 255
  num : ∀ c, NumL c → (hasB (fieldsOf m.k) c = true → 0 ≤ m.num c ∧ m.num c ≤ 4611686018427387903) ∧ (hasB (fieldsOf m.k) c = false → m.num c = 0)
  mark1 : hasB (fieldsOf m.k) 77 = true → m.mrk.size = 32
  mark0 : hasB (fieldsOf m.k) 77 = false → m.mrk = ⟨#[]⟩
  part1 : hasB (fieldsOf m.k) 80 = true → 0 ≤ m.pa ∧ m.pa ≤ 4096 ∧ 0 ≤ m.po ∧ m.po ≤ 4096 ∧ m.pt.size ≤ 1024
  part0 : hasB (fieldsOf m.k) 80 = false → m.pa = 0 ∧ m.po = 0 ∧ m.pt = ⟨#[]⟩
  list : hasB (fieldsOf m.k) 76 = false
  ll : m.ll = 0
theorem six_num : ∀ k, ∀ h : k < 6, NumL ((((⟨#[66, 71, 83, 70, 84, 82]⟩ : ByteArray)[k]'(show k < 6 from h)).toNat : Int)) := by
  unfold NumL
  decide
set_option maxRecDepth 100000 in
set_option maxHeartbeats 16000000 in
theorem lawRight_any (m : MG) (hf : FitM m) (w : World) : Calls Tryz.prog 46 #[.agg #[.int .i64 m.k, .int .i64 m.fr, .int .i64 m.to_, .int .i64 m.bal, .int .i64 m.gen, .int .i64 m.bas, .int .i64 m.fl, .int .i64 m.tp, .int .i64 m.rd, .string m.mrk, .int .i64 m.pa, .int .i64 m.po, .string m.pt, .slice m.la m.ll m.lc]] w fun e w' => e = .returned (.bool true) ∧ Below w.heap.size w w' := by
  obtain ⟨h1, h1'⟩ := hf.fr
  obtain ⟨h2, h2'⟩ := hf.to_
  have hem := hf.full
  have Hll := Lib.hid hf.ll
  have HFit := Lib.hid hf
  have HB := Lib.hid ((Below.refl w.heap.size w).alloc (Nat.le_refl _) (.cells #[.int .i64 m.k, .int .i64 m.fr, .int .i64 m.to_, .int .i64 m.bal, .int .i64 m.gen, .int .i64 m.bas, .int .i64 m.fl, .int .i64 m.tp, .int .i64 m.rd, .string m.mrk, .int .i64 m.pa, .int .i64 m.po, .string m.pt, .slice m.la m.ll m.lc] 30))
  have HQ := Lib.hid (Blk.new w [.int .i64 m.k, .int .i64 m.fr, .int .i64 m.to_, .int .i64 m.bal, .int .i64 m.gen, .int .i64 m.bas, .int .i64 m.fl, .int .i64 m.tp, .int .i64 m.rd, .string m.mrk, .int .i64 m.pa, .int .i64 m.po, .string m.pt, .slice m.la m.ll m.lc] 30)
  have HFd := Lib.hid (fun w1 => fields_any m.k hf.kind w1)
  have HHs := Lib.hid (fun x w1 => lawHas_any m.k x hf.kind w1)
  clear hf
  go_enter Tryz.func46, Tryz.ntmps46
  go_wp2_with fail
  refine (HFd.out _).mono ?_
  rintro e w1 ⟨rfl, rfl⟩
  go_wp2_with fail
  go_loopw [4, 5] (fun i _ wr => ∃ k : Nat, i = .int .i64 k ∧ k ≤ 6 ∧ Hid (Blk wr w.heap.size [.int .i64 m.k, .int .i64 m.fr, .int .i64 m.to_, .int .i64 m.bal, .int .i64 m.gen, .int .i64 m.bas, .int .i64 m.fl, .int .i64 m.tp, .int .i64 m.rd, .string m.mrk, .int .i64 m.pa, .int .i64 m.po, .string m.pt, .slice m.la m.ll m.lc] 30) ∧ Below w.heap.size w wr) (fun i _ _ => 6 - (intOf i).toNat)
  case atStart => exact ⟨0, rfl, by omega, HQ, HB.out⟩
  case round =>
    obtain ⟨k, rfl, hk, HQ2, hbr⟩ := hrel
    clear HQ HB
    have q0 : wr.cell? ⟨w.heap.size, 0, none⟩ = some (.int .i64 m.k) := HQ2.out.cell 0
    have q1 : wr.cell? ⟨w.heap.size, 1, none⟩ = some (.int .i64 m.fr) := HQ2.out.cell 1
    have q2 : wr.cell? ⟨w.heap.size, 2, none⟩ = some (.int .i64 m.to_) := HQ2.out.cell 2
    have q3 : wr.cell? ⟨w.heap.size, 3, none⟩ = some (.int .i64 m.bal) := HQ2.out.cell 3
    have q4 : wr.cell? ⟨w.heap.size, 4, none⟩ = some (.int .i64 m.gen) := HQ2.out.cell 4
    have q5 : wr.cell? ⟨w.heap.size, 5, none⟩ = some (.int .i64 m.bas) := HQ2.out.cell 5
    have q6 : wr.cell? ⟨w.heap.size, 6, none⟩ = some (.int .i64 m.fl) := HQ2.out.cell 6
    have q7 : wr.cell? ⟨w.heap.size, 7, none⟩ = some (.int .i64 m.tp) := HQ2.out.cell 7
    have q8 : wr.cell? ⟨w.heap.size, 8, none⟩ = some (.int .i64 m.rd) := HQ2.out.cell 8
    have q9 : wr.cell? ⟨w.heap.size, 9, none⟩ = some (.string m.mrk) := HQ2.out.cell 9
    have q10 : wr.cell? ⟨w.heap.size, 10, none⟩ = some (.int .i64 m.pa) := HQ2.out.cell 10
    have q11 : wr.cell? ⟨w.heap.size, 11, none⟩ = some (.int .i64 m.po) := HQ2.out.cell 11
    have q12 : wr.cell? ⟨w.heap.size, 12, none⟩ = some (.string m.pt) := HQ2.out.cell 12
    have q13 : wr.cell? ⟨w.heap.size, 13, none⟩ = some (.slice m.la m.ll m.lc) := HQ2.out.cell 13
    have hql := HQ2.out.lt
    by_cases hlt : k < 6
    · have hnl : NumL (((⟨#[66, 71, 83, 70, 84, 82]⟩ : ByteArray)[k]'(show k < 6 from hlt)).toNat : Int) := six_num k hlt
      have HN := Lib.hid (fun w1 => number_any m (((⟨#[66, 71, 83, 70, 84, 82]⟩ : ByteArray)[k]'(show k < 6 from hlt)).toNat : Int) hnl w1)
      have HH := Lib.hid (fun w1 => HHs.out (((⟨#[66, 71, 83, 70, 84, 82]⟩ : ByteArray)[k]'(show k < 6 from hlt)).toNat : Int) w1)
      have hnum := HFit.out.num (((⟨#[66, 71, 83, 70, 84, 82]⟩ : ByteArray)[k]'(show k < 6 from hlt)).toNat : Int) hnl
      obtain ⟨nv, hnv⟩ : ∃ nv, nv = m.num (((⟨#[66, 71, 83, 70, 84, 82]⟩ : ByteArray)[k]'(show k < 6 from hlt)).toNat : Int) := ⟨_, rfl⟩
      rw [← hnv] at HN hnum
      obtain ⟨hv, hhv⟩ : ∃ hv, hv = hasB (fieldsOf m.k) (((⟨#[66, 71, 83, 70, 84, 82]⟩ : ByteArray)[k]'(show k < 6 from hlt)).toNat : Int) := ⟨_, rfl⟩
      rw [← hhv] at HH hnum
      have hks : k < (⟨#[66, 71, 83, 70, 84, 82]⟩ : ByteArray).size := hlt
      have Hnum := Lib.hid hnum
      clear hnl hnv hhv hnum
      go_upto_region 7 with fail
      go_still_tail 4, (by kernel_rfl)
      change wpList _ _ _ _ _ wr.drew
      have HQ3 := Lib.hid HQ2.out.drew
      have hbr3 := hbr.drew
      have hql3 : w.heap.size < wr.drew.heap.size := hql
      generalize wr.drew = w3 at HQ3 hbr3 hql3 ⊢
      clear q0 q1 q2 q3 q4 q5 q6 q7 q8 q9 q10 q11 q12 q13 HQ2 hbr hql
      go_wp2_with fail
      refine (HN.out _).mono ?_
      rintro e w4 ⟨rfl, hb4⟩
      have HQ4 := Lib.hid (HQ3.out.below hb4)
      have hbr4 := below_step hbr3 hb4
      have p0 : w4.cell? ⟨w.heap.size, 0, none⟩ = some (.int .i64 m.k) := HQ4.out.cell 0
      clear HQ3 hbr3 hb4 HN
      cases hv with
      | true =>
        obtain ⟨hn1, hn2⟩ := Hnum.out.1 rfl
        have HF := Lib.hid (fun w1 => fits_any nv w1 hn1 hn2)
        clear Hnum
        go_wp2_with fail
        go_quiet (first | (go_at_call 76; first | exact quiet_left (HH.out _) | exact quiet_add_left (HH.out _)) | (go_at_call 77; first | exact quiet_left (HF.out _) | exact quiet_add_left (HF.out _)))
        go_wp2_with fail
        go_roundw
        case rel => exact ⟨k + 1, by go_num, by omega, Lib.hid HQ4.out.drew, below_drewN hbr4 _⟩
        case measure => simp [intOf]; omega
      | false =>
        obtain rfl : nv = 0 := Hnum.out.2 rfl
        clear Hnum
        go_wp2_with fail
        go_quiet (first | (go_at_call 76; first | exact quiet_left (HH.out _) | exact quiet_add_left (HH.out _)))
        go_wp2_with fail
        go_roundw
        case rel => exact ⟨k + 1, by go_num, by omega, Lib.hid HQ4.out.drew, below_drewN hbr4 _⟩
        case measure => simp [intOf]; omega
    · obtain rfl : k = 6 := by omega
      have H76 := Lib.hid (fun w1 => (show Calls Tryz.prog 76 #[.int .i64 m.k, .int .u8 76] w1 fun e w' => e = .returned (.bool false) ∧ w1 = w' by rw [← HFit.out.list]; exact HHs.out 76 w1))
      have H77 := Lib.hid (fun w1 => HHs.out 77 w1)
      have H80 := Lib.hid (fun w1 => HHs.out 80 w1)
      have f1 := HFit.out.mark1
      have f0 := HFit.out.mark0
      have g1 := HFit.out.part1
      have g0 := HFit.out.part0
      clear hlt hk HFit HHs HFd
      rw [Hll.out] at q13
      cases hA : hasB (fieldsOf m.k) 77 with
      | true =>
        have hsz := f1 hA
        have e32 : ((m.mrk.size : Int) != 32) = false := by rw [hsz]; rfl
        rw [hA] at H77
        clear f1 f0 hA
        cases hP : hasB (fieldsOf m.k) 80 with
        | true =>
          obtain ⟨p1, p2, p3, p4, p5⟩ := g1 hP
          rw [hP] at H80
          have t1 : ¬ m.pa < 0 := by omega
          have t2 : ¬ 4096 < m.pa := by omega
          have t3 : ¬ m.po < 0 := by omega
          have t4 : ¬ 4096 < m.po := by omega
          have t5 : ¬ (1024 : Int) < (m.pt.size : Int) := by omega
          have b2 := hbr.alloc hbr.size (.cells #[.int .i64 m.pa, .int .i64 m.po, .string m.pt] 27)
          clear g1 g0 hP
          go_wp2_with fail
          refine (H77.out _).mono ?_
          rintro e w' ⟨rfl, rfl⟩
          go_wp2_with fail
          refine (H77.out _).mono ?_
          rintro e w' ⟨rfl, rfl⟩
          go_wp2_with fail
          refine (H80.out _).mono ?_
          rintro e w' ⟨rfl, rfl⟩
          go_wp2_with fail
          refine (H80.out _).mono ?_
          rintro e w' ⟨rfl, rfl⟩
          go_wp2_with fail
          refine (H76.out _).mono ?_
          rintro e w' ⟨rfl, rfl⟩
          go_wp2_with fail
          go_ret
          exact ⟨rfl, b2⟩
        | false =>
          obtain ⟨p1, p2, p3⟩ := g0 hP
          rw [hP] at H80
          rw [p1] at q10
          rw [p2] at q11
          rw [p3] at q12
          have b2 := hbr.alloc hbr.size (.cells #[.int .i64 0, .int .i64 0, .string ⟨#[]⟩] 27)
          clear g1 g0 hP p1 p2 p3
          go_wp2_with fail
          refine (H77.out _).mono ?_
          rintro e w' ⟨rfl, rfl⟩
          go_wp2_with fail
          refine (H77.out _).mono ?_
          rintro e w' ⟨rfl, rfl⟩
          go_wp2_with fail
          refine (H80.out _).mono ?_
          rintro e w' ⟨rfl, rfl⟩
          go_wp2_with fail
          refine (H80.out _).mono ?_
          rintro e w' ⟨rfl, rfl⟩
          go_wp2_with fail
          refine (H76.out _).mono ?_
          rintro e w' ⟨rfl, rfl⟩
          go_wp2_with fail
          go_ret
          exact ⟨rfl, b2⟩
      | false =>
        have hmk := f0 hA
        rw [hmk] at q9
        rw [hA] at H77
        clear f1 f0 hA hmk
        cases hP : hasB (fieldsOf m.k) 80 with
        | true =>
          obtain ⟨p1, p2, p3, p4, p5⟩ := g1 hP
          rw [hP] at H80
          have t1 : ¬ m.pa < 0 := by omega
          have t2 : ¬ 4096 < m.pa := by omega
          have t3 : ¬ m.po < 0 := by omega
          have t4 : ¬ 4096 < m.po := by omega
          have t5 : ¬ (1024 : Int) < (m.pt.size : Int) := by omega
          have b2 := hbr.alloc hbr.size (.cells #[.int .i64 m.pa, .int .i64 m.po, .string m.pt] 27)
          clear g1 g0 hP
          go_wp2_with fail
          refine (H77.out _).mono ?_
          rintro e w' ⟨rfl, rfl⟩
          go_wp2_with fail
          refine (H77.out _).mono ?_
          rintro e w' ⟨rfl, rfl⟩
          go_wp2_with fail
          refine (H80.out _).mono ?_
          rintro e w' ⟨rfl, rfl⟩
          go_wp2_with fail
          refine (H80.out _).mono ?_
          rintro e w' ⟨rfl, rfl⟩
          go_wp2_with fail
          refine (H76.out _).mono ?_
          rintro e w' ⟨rfl, rfl⟩
          go_wp2_with fail
          go_ret
          exact ⟨rfl, b2⟩
        | false =>
          obtain ⟨p1, p2, p3⟩ := g0 hP
          rw [hP] at H80
          rw [p1] at q10
          rw [p2] at q11
          rw [p3] at q12
          have b2 := hbr.alloc hbr.size (.cells #[.int .i64 0, .int .i64 0, .string ⟨#[]⟩] 27)
          clear g1 g0 hP p1 p2 p3
          go_wp2_with fail
          refine (H77.out _).mono ?_
          rintro e w' ⟨rfl, rfl⟩
          go_wp2_with fail
          refine (H77.out _).mono ?_
          rintro e w' ⟨rfl, rfl⟩
          go_wp2_with fail
          refine (H80.out _).mono ?_
          rintro e w' ⟨rfl, rfl⟩
          go_wp2_with fail
          refine (H80.out _).mono ?_
          rintro e w' ⟨rfl, rfl⟩
          go_wp2_with fail
          refine (H76.out _).mono ?_
          rintro e w' ⟨rfl, rfl⟩
          go_wp2_with fail
          go_ret
          exact ⟨rfl, b2⟩
end Go.Proofs.YtaemlplcjjbamaaGreatDoor
