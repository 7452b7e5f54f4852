/- The walk of code's reader's End. Condition: the size. -/
import Derived.Test.YtaeklleogniimaaGreatDoorReader
namespace Go.Proofs.YtaeklleogniimaaGreatDoor
open Go Go.RowKit
set_option linter.unusedVariables false

theorem RdAt.low {w : World} {b : Nat} {S : List UInt8} {R : Rr} (h : RdAt w b S R) (n : Nat) : RdAt (w.drewN n) b S R := h.below (below_drewN (Below.refl _ _) n)
theorem byte_err {R : Rr} (n i : Nat) (h : R.byte.2.e ≠ 0) : (if R.e = 0 then rnum R.l i n else (0, R)) = (0, R.byte.2) := by
  obtain ⟨l, e⟩ := R
  unfold Rr.byte at h ⊢
  by_cases he : e = 0
  · subst he
    rw [if_pos rfl] at h
    match l, h with
    | [], _ => rfl
    | c :: r, h => exact absurd rfl h
  · rw [if_neg he, if_neg he]
theorem byte_ok {R : Rr} (h : R.byte.2.e = 0) : ∃ c r, R = ⟨c :: r, 0⟩ := by
  obtain ⟨l, e⟩ := R
  unfold Rr.byte at h
  by_cases he : e = 0
  · subst he
    rw [if_pos rfl] at h
    match l, h with
    | [], h => exact absurd h (by decide)
    | c :: r, h => exact ⟨c, r, rfl⟩
  · rw [if_neg he] at h; exact absurd h he
theorem pow128 (i : Nat) : (128 : Nat) ^ i = 2 ^ (7 * i) := by rw [Nat.pow_mul]
theorem num_bits (n m i : Nat) (hi : i ≤ 8) (hn : n < 128 ^ i) (h8 : i = 8 → m ≤ 63) (hm : m < 256) : bits .or .i64 (n : Int) (RowKit.wrap64 (bits .and .i64 (m : Int) 127 * 2 ^ (7 * i))) = ((n + m % 128 * 128 ^ i : Nat) : Int) := by
  rw [low_and m (by omega)]
  have hlt : m % 128 * 128 ^ i < 4611686018427387904 ∧ n < 4611686018427387904 := by
    by_cases e : i = 8
    · have := h8 e
      subst e
      have e8 : (128 : Nat) ^ 8 = 72057594037927936 := by decide
      rw [e8] at hn ⊢
      omega
    · have h7 : (128 : Nat) ^ i ≤ 128 ^ 7 := Nat.pow_le_pow_right (by decide) (by omega)
      have e7 : (128 : Nat) ^ 7 = 562949953421312 := by decide
      rw [e7] at h7
      have hmul : m % 128 * 128 ^ i ≤ 127 * 562949953421312 := Nat.mul_le_mul (by omega) h7
      omega
  rw [pow128] at hn hlt ⊢
  have hc : ((m % 128 : Nat) : Int) * 2 ^ (7 * i) = ((m % 128 * 2 ^ (7 * i) : Nat) : Int) := by rw [Int.natCast_mul, Int.natCast_pow]; rfl
  rw [hc]
  have hw : RowKit.wrap64 ((m % 128 * 2 ^ (7 * i) : Nat) : Int) = ((m % 128 * 2 ^ (7 * i) : Nat) : Int) := by
    generalize m % 128 * 2 ^ (7 * i) = z at hlt
    unfold RowKit.wrap64
    omega
  rw [hw]
  exact i64_join (7 * i) n (m % 128) hn hlt.1 hlt.2
theorem num_lt_next {n m i : Nat} (hn : n < 128 ^ i) : n + m % 128 * 128 ^ i < 128 ^ (i + 1) := by
  have hp : (128 : Nat) ^ (i + 1) = 128 * 128 ^ i := by rw [Nat.pow_succ, Nat.mul_comm]
  have hmul : m % 128 * 128 ^ i ≤ 127 * 128 ^ i := Nat.mul_le_mul_right _ (by omega)
  omega
set_option maxRecDepth 100000 in
set_option maxHeartbeats 2000000 in
theorem rdNum_any (b : Nat) (S : List UInt8) (R : Rr) (w : World) (h : RdAt w b S R) (hS : S.length ≤ 1099511627776) :
    Calls Tryz.prog 86 #[.pointer (some ⟨b, 0, none⟩)] w fun e w' => e = .returned (.int .i64 (R.num.1 : Nat)) ∧ RdAt w' b S R.num.2 ∧ Touch (fun k => k = b) w w' := by
  have H := Lib.hid h
  clear h
  go_enter Tryz.func86, Tryz.ntmps86
  go_wp2_with fail
  go_loopw [3, 4] (fun nv iv wr => ∃ (n i : Nat) (R' : Rr), nv = .int .i64 (n : Int) ∧ iv = .int .i64 (i : Int) ∧ i ≤ 8 ∧ n < 128 ^ i ∧ Hid (RdAt wr b S R') ∧ Hid (Touch (fun k => k = b) w wr) ∧ Hid (R.num = if R'.e = 0 then rnum R'.l i n else (0, R'))) (fun _ iv _ => 9 - (intOf iv).toNat)
  case atStart => exact ⟨0, 0, R, rfl, rfl, by decide, by decide, H, Lib.hid (Touch.refl _ _), Lib.hid rfl⟩
  case round =>
    obtain ⟨n, i, R', rfl, rfl, hi, hn, HR, HT, HN⟩ := hrel
    clear H
    go_wp2_with fail
    refine (rdByte_any b S R' wr HR.out hS).mono ?_
    rintro e w1 ⟨rfl, hR1, hT1⟩
    have HR1 := Lib.hid hR1
    have HT1 := Lib.hid (HT.out.trans hT1)
    clear hR1 hT1 HR HT
    by_cases he : R'.byte.2.e = 0
    · obtain ⟨c, r, rfl⟩ := byte_ok he
      have HR2 := Lib.hid (show RdAt w1 b S ⟨r, 0⟩ from HR1.out)
      clear HR1 he
      have hby : (Rr.mk (c :: r) 0).byte.1 = c.toNat := rfl
      rw [hby]
      have hc := c.toNat_lt
      have HN2 := Lib.hid (show R.num = if (i = 8 ∧ 63 < c.toNat) ∨ (0 < i ∧ c.toNat = 0) then (0, ⟨r, 5⟩) else if c.toNat < 128 then (n + c.toNat % 128 * 128 ^ i, ⟨r, 0⟩) else rnum r (i + 1) (n + c.toNat % 128 * 128 ^ i) by
        rw [HN.out]; rfl)
      clear HN
      generalize c.toNat = m at hc HN2 ⊢
      by_cases hbad : (i = 8 ∧ 63 < m) ∨ (0 < i ∧ m = 0)
      · have HE := Lib.hid (show R.num = (0, ⟨r, 5⟩) by rw [HN2.out, if_pos hbad])
        have HF := Lib.hid ((rdFail_any b S _ 5 w1 HR2.out rfl).mono (R' := fun e w' => e = .returned (.tuple #[]) ∧ Hid (RdAt w' b S ⟨r, 5⟩) ∧ Hid (Touch (fun k => k = b) w w')) (fun e w' ⟨h1, h2, h3⟩ => ⟨h1, Lib.hid h2, Lib.hid (HT1.out.trans h3)⟩))
        have Hbad := Lib.hid hbad
        clear HN2 hbad
        go_wp2_with fail
        refine (rdOff_any b S _ w1 HR2.out).mono ?_
        rintro e w2 ⟨rfl, rfl⟩
        go_wp2_with fail
        all_goals first
          | (refine HF.out.mono ?_
             rintro e w2 ⟨rfl, HR3, HT3⟩
             go_wp2_with fail
             go_ret
             rw [HE.out]
             exact ⟨rfl, HR3.out, HT3.out⟩)
          | (exfalso
             have hbad := Hbad.out
             (try simp only [beq_iff_eq] at *)
             (try simp only [beq_eq_false_iff_ne, ne_eq] at *)
             omega)
      · have h8 : i = 8 → m ≤ 63 := fun e => by omega
        have HE := Lib.hid (show R.num = if m < 128 then (n + m % 128 * 128 ^ i, ⟨r, 0⟩) else rnum r (i + 1) (n + m % 128 * 128 ^ i) by rw [HN2.out, if_neg hbad])
        have Hbad := Lib.hid hbad
        have hbits := num_bits n m i hi hn h8 (by omega)
        have hnext := Lib.hid (num_lt_next (m := m) hn)
        clear HN2 hbad hn
        by_cases hi8 : i = 8
        · have hm63 := h8 hi8
          subst hi8
          have e56 : (2 : Int) ^ (7 * 8) = 72057594037927936 := by decide
          rw [e56] at hbits
          have Hbits := Lib.hid hbits
          clear hbits h8 hi hnext
          go_wp2_with fail
          refine (rdOff_any b S _ w1 HR2.out).mono ?_
          rintro e w2 ⟨rfl, rfl⟩
          go_wp2_with fail
          all_goals first
            | (exfalso
               have hbad := Hbad.out
               (try simp only [beq_iff_eq] at *)
               (try simp only [beq_eq_false_iff_ne, ne_eq] at *)
               omega)
            | (go_ret
               rw [HE.out, if_pos (by omega)]
               exact ⟨ret_int Hbits.out, HR2.out, HT1.out⟩)
        · have Hbits := Lib.hid hbits
          clear hbits h8
          go_wp2_with fail
          refine (rdOff_any b S _ w1 HR2.out).mono ?_
          rintro e w2 ⟨rfl, rfl⟩
          go_wp2_with fail
          all_goals first
            | (exfalso
               have hbad := Hbad.out
               (try simp only [beq_iff_eq] at *)
               (try simp only [beq_eq_false_iff_ne, ne_eq] at *)
               omega)
            | (go_ret
               rw [HE.out, if_pos (by omega)]
               exact ⟨ret_int Hbits.out, HR2.out, HT1.out⟩)
            | (go_roundw
               case rel => exact ⟨n + m % 128 * 128 ^ i, i + 1, ⟨r, 0⟩, val_int Hbits.out, by go_num, by omega, hnext.out, HR2, HT1, Lib.hid (by rw [HE.out, if_neg (by omega)]; rfl)⟩
               case measure => simp [intOf]; omega)
    · have HE := Lib.hid (show R.num = (0, R'.byte.2) from HN.out.trans (byte_err n i he))
      have H0 := Lib.hid (show (R'.byte.2.e != 0) = true by rw [bne_iff_ne]; exact he)
      clear he HN
      go_wp2_with fail
      refine (rdOff_any b S _ w1 HR1.out).mono ?_
      rintro e w2 ⟨rfl, rfl⟩
      rw [H0.out]
      go_wp2_with fail
      go_ret
      rw [HE.out]
      exact ⟨rfl, HR1.out, HT1.out⟩
/-- raw bytes, whatever number of them is asked -/
def Rr.rawI (R : Rr) (n : Int) : List UInt8 × Rr := if R.e = 0 then (if n < 0 then ([], ⟨R.l, 1⟩) else R.raw n.toNat) else ([], R)
theorem Rr.rawI_nat (R : Rr) (n : Nat) : R.rawI (n : Int) = R.raw n := by
  unfold Rr.rawI Rr.raw
  by_cases h : R.e = 0
  · rw [if_pos h, if_neg (by omega), if_pos h, show ((n : Int)).toNat = n from rfl]
    rw [if_pos h]
  · rw [if_neg h, if_neg h]
theorem ba_slice (S : List UInt8) (a b : Nat) : (ba S).extract a b = ba ((S.drop a).take (b - a)) := by
  apply ByteArray.ext
  apply Array.toList_inj.1
  rw [ByteArray.data_extract]
  simp [ba]
set_option maxRecDepth 100000 in
set_option maxHeartbeats 2000000 in
theorem rdRaw_any (b : Nat) (S : List UInt8) (R : Rr) (n : Int) (w : World) (h : RdAt w b S R) (hS : S.length ≤ 1099511627776) :
    Calls Tryz.prog 89 #[.pointer (some ⟨b, 0, none⟩), .int .i64 n] w fun e w' => e = .returned (.string (ba (R.rawI n).1)) ∧ RdAt w' b S (R.rawI n).2 ∧ Touch (fun k => k = b) w w' := by
  have H := Lib.hid h
  by_cases he : R.e = 0
  · have H0 := Lib.hid (show (R.e != 0) = false by rw [he]; rfl)
    have He := Lib.hid he
    by_cases hn : n < 0
    · have hR : R.rawI n = ([], ⟨R.l, 1⟩) := by unfold Rr.rawI; rw [if_pos he, if_pos hn]
      rw [hR]
      clear h he hR
      go_enter Tryz.func89, Tryz.ntmps89
      go_wp2_with fail
      refine (rdOff_any b S R w H.out).mono ?_
      rintro e w2 ⟨rfl, rfl⟩
      rw [H0.out]
      go_wp2_with fail
      refine (rdFail_any b S R 1 w H.out He.out).mono ?_
      rintro e w2 ⟨rfl, hR, hT⟩
      have HR := Lib.hid hR
      have HT := Lib.hid hT
      clear hR hT
      go_wp2_with fail
      go_ret
      exact ⟨rfl, HR.out, HT.out⟩
    · by_cases hl : ((R.l.length : Nat) : Int) < n
      · have hR : R.rawI n = ([], ⟨R.l, 3⟩) := by
          unfold Rr.rawI
          rw [if_pos he, if_neg hn]
          unfold Rr.raw
          rw [if_pos he, if_pos (by omega)]
        rw [hR]
        clear h he hR
        go_enter Tryz.func89, Tryz.ntmps89
        go_wp2_with fail
        refine (rdOff_any b S R w H.out).mono ?_
        rintro e w2 ⟨rfl, rfl⟩
        rw [H0.out]
        go_wp2_with fail
        refine (rdLeft_any b S R w H.out hS).mono ?_
        rintro e w2 ⟨rfl, m, rfl⟩
        have H1 := Lib.hid (H.out.low m)
        have HT1 := Lib.hid ((Touch.refl (fun k => k = b) w).drewN m)
        generalize w.drewN m = w1 at H1 HT1 ⊢
        clear H
        go_wp2_with fail
        refine (rdFail_any b S R 3 w1 H1.out He.out).mono ?_
        rintro e w2 ⟨rfl, hR, hT⟩
        have HR := Lib.hid hR
        have HT := Lib.hid (HT1.out.trans hT)
        clear hR hT
        go_wp2_with fail
        go_ret
        exact ⟨rfl, HR.out, HT.out⟩
      · obtain ⟨k, rfl⟩ : ∃ k : Nat, n = (k : Int) := ⟨n.toNat, by omega⟩
        have hkl : k ≤ R.l.length := by omega
        have hR : R.rawI (k : Int) = (R.l.take k, ⟨R.l.drop k, 0⟩) := by
          rw [Rr.rawI_nat]
          unfold Rr.raw
          rw [if_pos he, if_neg (by omega)]
        rw [hR]
        obtain ⟨a, hla, hd, c0, c1, c2, hmk, hB⟩ := h.at
        have hf := hB.free 1
        have hlt := hB.lt
        have hsz := ba_size S
        have HB := Lib.hid hB
        have Hmk := Lib.hid hmk
        have Hd := Lib.hid hd
        clear h he hR hn hl hB hmk hd
        go_enter Tryz.func89, Tryz.ntmps89
        go_wp2_with fail
        refine (rdOff_any b S R w H.out).mono ?_
        rintro e w2 ⟨rfl, rfl⟩
        rw [H0.out]
        go_wp2_with fail
        refine (rdLeft_any b S R w H.out hS).mono ?_
        rintro e w2 ⟨rfl, m, rfl⟩
        have c1' : (w.drewN m).cell? ⟨b, 1, none⟩ = some (.int .i64 (a : Int)) := c1
        have hf' : (w.drewN m).frozen? ⟨b, 1, none⟩ = false := hf
        have hlt' : b < (w.drewN m).heap.size := hlt
        have HB' := Lib.hid (HB.out.drewN m)
        have HT1 := Lib.hid ((Touch.refl (fun k => k = b) w).drewN m)
        generalize w.drewN m = w1 at c1' hf' hlt' HB' HT1 ⊢
        clear c0 c1 c2 hf hlt HB H
        go_upto_region 10 with fail
        have HB2 := Lib.hid (HB'.out.set 1 (.int .i64 ((a : Int) + (k : Int))))
        have HT2 := Lib.hid (touchB (o := 1) HT1.out (.int .i64 ((a : Int) + (k : Int))))
        generalize w1.setCell ⟨b, 1, none⟩ (.int .i64 ((a : Int) + (k : Int))) = w2 at HB2 HT2 ⊢
        have d0 : w2.cell? ⟨b, 0, none⟩ = some (.string (ba S)) := HB2.out.cell 0
        have d1 : w2.cell? ⟨b, 1, none⟩ = some (.int .i64 ((a : Int) + (k : Int))) := HB2.out.cell 1
        clear c1' hf' hlt' HB' HT1
        have hwa : IntKind.i64.wrap (a : Int) = (a : Int) := by rw [IntKind.wrap_i64]; omega
        go_quiet (fail)
        rw [ba_slice S a (a + k), Nat.add_sub_cancel_left, Hd.out]
        have HB3 := Lib.hid (HB2.out.drewN nq)
        have HT3 := Lib.hid (HT2.out.drewN nq)
        generalize w2.drewN nq = w3 at HB3 HT3 ⊢
        go_wp2
        go_ret
        refine ⟨rfl, ?_, HT3.out⟩
        have h3 := Hmk.out w3 (R.l.drop k) (a + k) HB3.out (by rw [List.length_drop]; omega) (by rw [← List.drop_drop, Hd.out])
        rw [He.out] at h3
        exact h3
  · have H0 := Lib.hid (show (R.e != 0) = true by rw [bne_iff_ne]; exact he)
    have hR : R.rawI n = ([], R) := by unfold Rr.rawI; rw [if_neg he]
    rw [hR]
    clear h he hR
    go_enter Tryz.func89, Tryz.ntmps89
    go_wp2_with fail
    refine (rdOff_any b S R w H.out).mono ?_
    rintro e w2 ⟨rfl, rfl⟩
    rw [H0.out]
    go_wp2_with fail
    go_ret
    exact ⟨rfl, H.out, Touch.refl _ _⟩
set_option maxRecDepth 100000 in
theorem rdCount_any (b : Nat) (S : List UInt8) (R : Rr) (most : Nat) (w : World) (h : RdAt w b S R) (hS : S.length ≤ 1099511627776) :
    Calls Tryz.prog 224 #[.pointer (some ⟨b, 0, none⟩), .int .i64 (most : Int)] w fun e w' => e = .returned (.int .i64 ((R.count most).1 : Nat)) ∧ RdAt w' b S (R.count most).2 ∧ Touch (fun k => k = b) w w' := by
  have H := Lib.hid h
  clear h
  have Hc := Lib.hid (show R.count most = if R.num.2.e = 0 ∧ most < R.num.1 then (0, ⟨R.num.2.l, 4⟩) else R.num from rfl)
  go_enter Tryz.func224, Tryz.ntmps224
  go_wp2_with fail
  refine (rdNum_any b S R w H.out hS).mono ?_
  rintro e w1 ⟨rfl, hR, hT⟩
  have HR := Lib.hid hR
  have HT := Lib.hid hT
  clear hR hT H
  have HO := Lib.hid (rdOff_any b S R.num.2 w1 HR.out)
  generalize R.num = RN at HR Hc HO ⊢
  obtain ⟨n, R'⟩ := RN
  by_cases hc : R'.e = 0 ∧ most < n
  · have Hc2 := Lib.hid (show R.count most = (0, ⟨R'.l, 4⟩) by rw [Hc.out]; exact if_pos hc)
    have h0 : (R'.e != 0) = false := by rw [hc.1]; rfl
    have hm : most < n := hc.2
    have He := Lib.hid hc.1
    clear hc Hc
    go_wp2_with fail
    refine HO.out.mono ?_
    rintro e w2 ⟨rfl, rfl⟩
    rw [h0]
    go_wp2_with fail
    refine (rdFail_any b S R' 4 w1 HR.out He.out).mono ?_
    rintro e w2 ⟨rfl, hR, hT⟩
    have HR2 := Lib.hid hR
    have HT2 := Lib.hid (HT.out.trans hT)
    clear hR hT
    go_wp2_with fail
    go_ret
    rw [Hc2.out]
    exact ⟨rfl, HR2.out, HT2.out⟩
  · have Hc2 := Lib.hid (show R.count most = (n, R') by rw [Hc.out]; exact if_neg hc)
    clear Hc
    by_cases he : R'.e = 0
    · have h0 : (R'.e != 0) = false := by rw [he]; rfl
      have hm : ¬ most < n := fun h => hc ⟨he, h⟩
      clear hc he
      go_wp2_with fail
      refine HO.out.mono ?_
      rintro e w2 ⟨rfl, rfl⟩
      rw [h0]
      go_wp2_with fail
      go_ret
      rw [Hc2.out]
      exact ⟨rfl, HR.out, HT.out⟩
    · have h0 : (R'.e != 0) = true := by rw [bne_iff_ne]; exact he
      clear hc he
      go_wp2_with fail
      refine HO.out.mono ?_
      rintro e w2 ⟨rfl, rfl⟩
      rw [h0]
      go_wp2_with fail
      go_ret
      rw [Hc2.out]
      exact ⟨rfl, HR.out, HT.out⟩
end Go.Proofs.YtaeklleogniimaaGreatDoor
namespace Go.Proofs.YtaeklleogniimaaGreatDoor
open Go Go.RowKit
set_option linter.unusedVariables false

set_option maxRecDepth 100000 in
theorem rdEnd_any (b : Nat) (S : List UInt8) (R : Rr) (w : World) (h : RdAt w b S R) (hS : S.length ≤ 1099511627776) :
    Calls Tryz.prog 87 #[.pointer (some ⟨b, 0, none⟩)] w fun e w' => e = .returned (.int .i64 R.fin.e) ∧ RdAt w' b S R.fin ∧ Touch (fun k => k = b) w w' := by
  have H := Lib.hid h
  have HO := Lib.hid (rdOff_any b S R w h)
  by_cases he : R.e = 0
  · have h0 : (R.e != 0) = false := by rw [he]; rfl
    have HL := Lib.hid (rdLeft_any b S R w h hS)
    have He := Lib.hid he
    by_cases hl : R.l = []
    · have HF := Lib.hid (show R.fin = R by unfold Rr.fin; rw [if_neg (fun h => h.2 hl)])
      have hz : ((R.l.length : Nat) : Int) = 0 := by rw [hl]; rfl
      rw [hz] at HL
      clear h he hl hz
      go_enter Tryz.func87, Tryz.ntmps87
      go_wp2_with fail
      refine HO.out.mono ?_
      rintro e w2 ⟨rfl, rfl⟩
      rw [h0]
      go_wp2_with fail
      refine HL.out.mono ?_
      rintro e w2 ⟨rfl, m, rfl⟩
      have H2 := Lib.hid (H.out.low m)
      have HT := Lib.hid ((Touch.refl (fun k => k = b) w).drewN m)
      generalize w.drewN m = w1 at H2 HT ⊢
      clear H
      go_wp2_with fail
      refine (rdErr_any b S R w1 H2.out).mono ?_
      rintro e w2 ⟨rfl, rfl⟩
      go_wp2_with fail
      go_ret
      rw [HF.out]
      exact ⟨rfl, H2.out, HT.out⟩
    · have HF := Lib.hid (show R.fin = ⟨R.l, 4⟩ by unfold Rr.fin; rw [if_pos ⟨he, hl⟩])
      have hz : 0 < R.l.length := List.length_pos_iff.2 hl
      clear h he hl
      go_enter Tryz.func87, Tryz.ntmps87
      go_wp2_with fail
      refine HO.out.mono ?_
      rintro e w2 ⟨rfl, rfl⟩
      rw [h0]
      go_wp2_with fail
      refine HL.out.mono ?_
      rintro e w2 ⟨rfl, m, rfl⟩
      have H2 := Lib.hid (H.out.low m)
      have HT := Lib.hid ((Touch.refl (fun k => k = b) w).drewN m)
      generalize w.drewN m = w1 at H2 HT ⊢
      clear H
      go_wp2_with fail
      refine (rdFail_any b S R 4 w1 H2.out He.out).mono ?_
      rintro e w2 ⟨rfl, hR, hT⟩
      have HR := Lib.hid hR
      have HT2 := Lib.hid (HT.out.trans hT)
      clear hR hT H2 HT
      go_wp2_with fail
      refine (rdErr_any b S _ w2 HR.out).mono ?_
      rintro e w3 ⟨rfl, rfl⟩
      go_wp2_with fail
      go_ret
      rw [HF.out]
      exact ⟨rfl, HR.out, HT2.out⟩
  · have h0 : (R.e != 0) = true := by rw [bne_iff_ne]; exact he
    have HF := Lib.hid (show R.fin = R by unfold Rr.fin; rw [if_neg (fun h => he h.1)])
    clear h he
    go_enter Tryz.func87, Tryz.ntmps87
    go_wp2_with fail
    refine HO.out.mono ?_
    rintro e w2 ⟨rfl, rfl⟩
    rw [h0]
    go_wp2_with fail
    refine (rdErr_any b S R w H.out).mono ?_
    rintro e w2 ⟨rfl, rfl⟩
    go_wp2_with fail
    go_ret
    rw [HF.out]
    exact ⟨rfl, H.out, Touch.refl _ _⟩
end Go.Proofs.YtaeklleogniimaaGreatDoor
