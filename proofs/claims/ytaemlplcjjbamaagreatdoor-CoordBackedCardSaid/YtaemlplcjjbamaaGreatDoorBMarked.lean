/- The walks of roll: a text's weak sum, a window that rolls: o -/
import Derived.Test.YtaemlplcjjbamaaGreatDoorBPRow
namespace Go.Proofs.YtaemlplcjjbamaaGreatDoor
open Go.Lib (hid)
set_option maxRecDepth 100000
set_option maxHeartbeats 8000000
open Go Go.RowKit
set_option linter.unusedVariables false
variable {S : List UInt8} {at_ b i j m n p q r size : Nat} {w w' : World}
def rsStep (p : Nat × Nat) (c : UInt8) : Nat × Nat := (p.1 + c.toNat, p.2 + (p.1 + c.toNat))
def rs (l : List UInt8) : Nat × Nat := l.foldl rsStep (0, 0)
theorem rs_snoc (l : List UInt8) (c : UInt8) : rs (l ++ [c]) = rsStep (rs l) c := by unfold rs; rw [List.foldl_append]; rfl
def wsum (s : ByteArray) : Nat := (rs s.data.toList).1 % 65536 + (rs s.data.toList).2 % 65536 * 65536
theorem zEQ (s : ByteArray) : wsum s < 4294967296 := by unfold wsum; omega
theorem zBK (s : ByteArray) (w : World) (hs : s.size ≤ 1048576) :
  Calls Tryz.prog 173 #[.string s] w fun e w' => e = .returned (.int .i64 (wsum s : Nat)) ∧ w = w' := by
 have hdl : s.data.toList.length = s.size := by simp
 go_enter Tryz.func173, Tryz.ntmps173
 go_wp2
 go_loopw [3, 4, 8] (fun av bv kv wr => ∃ a b k : Nat, av = .int .i64 (a : Int) ∧ bv = .int .i64 (b : Int) ∧ kv = .int .i64 (k : Int) ∧ k ≤ s.size ∧ a ≤ 255 * k ∧ b ≤ 267386880 * k ∧ Hid (rs (s.data.toList.take k) = (a, b)) ∧ w = wr) (fun _ _ kv _ => s.size - (intOf kv).toNat)
 case atStart => exact ⟨0, 0, 0, rfl, rfl, rfl, Nat.zero_le _, by omega, by omega, hid rfl, rfl⟩
 case round =>
  obtain ⟨a, b, k, rfl, rfl, rfl, hk, ha, hb, HR, rfl⟩ := hrel
  by_cases hlt : k < s.size
  ·have hc := UInt8.toNat_lt s[k]
   have hk2 : k ≤ 1048575 := by omega
   have HR2 := hid (show rs (s.data.toList.take (k + 1)) = (a + s[k].toNat, b + (a + s[k].toNat)) by
    rw [zHv s k hlt, rs_snoc, HR.out]; rfl)
   go_wp2
   go_roundw
   case rel => exact ⟨a + s[k].toNat, b + (a + s[k].toNat), k + 1, by go_num, by go_num, by go_num, by omega, by omega, by omega, HR2, trivial⟩
   case measure => simp [intOf]; omega
  ·have ha2 : a ≤ 267386880 := by omega
   have hb2 : b ≤ 280375465082880 := by omega
   have HW := hid (show wsum s = a % 65536 + b % 65536 * 65536 by
    have h := HR.out
    rw [List.take_of_length_le (by omega)] at h
    unfold wsum
    rw [h])
   go_wp2
   go_ret
   exact ⟨zAk (by rw [HW.out]; omega), rfl⟩
def zAS (w : World) (r : Nat) (S : List UInt8) (size at_ : Nat) : Prop :=
 ∃ a b : Nat, Blk w r [.string (ba S), .int .i64 (size : Int), .int .i64 (at_ : Int), .int .i64 (a : Int), .int .i64 (b : Int)] 265 ∧ a < 65536 ∧ b < 65536 ∧ at_ + size ≤ S.length
theorem zAS.below (h : zAS w r S size at_) (hb : Below w.heap.size w w') : zAS w' r S size at_ := by
 obtain ⟨a, b, h1, h2, h3, h4⟩ := h
 exact ⟨a, b, h1.below hb, h2, h3, h4⟩
theorem zAS.touch {T : Nat → Prop} (h : zAS w r S size at_) (ht : Touch T w w') (hT : ¬ T r) : zAS w' r S size at_ := by
 obtain ⟨a, b, h1, h2, h3, h4⟩ := h
 exact ⟨a, b, h1.touch ht hT, h2, h3, h4⟩
end Go.Proofs.YtaemlplcjjbamaaGreatDoor
set_option maxRecDepth 100000
set_option maxHeartbeats 8000000
namespace Go.Proofs.YtaemlplcjjbamaaGreatDoor
open Go.Lib (hid)
open Go Go.RowKit
set_option linter.unusedVariables false
theorem RdAt.low {w : World} {b : Nat} {S : List UInt8} {R : Rr} (h : RdAt w b S R) (n : Nat) : RdAt (w.drewN n) b S R := h.below (below_drewN (Below.refl _ _) n)
theorem byte_err {R : Rr} (n i : Nat) (h : R.byte.2.e ≠ 0) : (if R.e = 0 then rnum R.l i n else (0, R)) = (0, R.byte.2) := by
 obtain ⟨l, e⟩ := R
 unfold Rr.byte at h ⊢
 by_cases he : e = 0
 ·subst he
  rw [if_pos rfl] at h
  match l, h with
  | [], _ => rfl
  | c :: r, h => exact absurd rfl h
 ·rw [if_neg he, if_neg he]
theorem byte_ok {R : Rr} (h : R.byte.2.e = 0) : ∃ c r, R = ⟨c :: r, 0⟩ := by
 obtain ⟨l, e⟩ := R
 unfold Rr.byte at h
 by_cases he : e = 0
 ·subst he
  rw [if_pos rfl] at h
  match l, h with
  | [], h => exact absurd h (by decide)
  | c :: r, h => exact ⟨c, r, rfl⟩
 ·rw [if_neg he] at h; exact absurd h he
theorem pow128 (i : Nat) : (128 : Nat) ^ i = 2 ^ (7 * i) := by rw [Nat.pow_mul]
theorem num_bits (n m i : Nat) (hi : i ≤ 8) (hn : n < 128 ^ i) (h8 : i = 8 → m ≤ 63) (hm : m < 256) : bits .or .i64 (n : Int) (RowKit.wrap64 (bits .and .i64 (m : Int) 127 * 2 ^ (7 * i))) = ((n + m % 128 * 128 ^ i : Nat) : Int) := by
 rw [low_and m (by omega)]
 have hlt : m % 128 * 128 ^ i < 4611686018427387904 ∧ n < 4611686018427387904 := by
  by_cases e : i = 8
  ·have := h8 e
   subst e
   have e8 : (128 : Nat) ^ 8 = 72057594037927936 := by decide
   rw [e8] at hn ⊢
   omega
  ·have h7 : (128 : Nat) ^ i ≤ 128 ^ 7 := Nat.pow_le_pow_right (by decide) (by omega)
   have e7 : (128 : Nat) ^ 7 = 562949953421312 := by decide
   rw [e7] at h7
   have hmul : m % 128 * 128 ^ i ≤ 127 * 562949953421312 := Nat.mul_le_mul (by omega) h7
   omega
 rw [pow128] at hn hlt ⊢
 have hc : ((m % 128 : Nat) : Int) * 2 ^ (7 * i) = ((m % 128 * 2 ^ (7 * i) : Nat) : Int) := by rw [Int.natCast_mul, Int.natCast_pow]; rfl
 rw [hc]
 have hw : RowKit.wrap64 ((m % 128 * 2 ^ (7 * i) : Nat) : Int) = ((m % 128 * 2 ^ (7 * i) : Nat) : Int) := by
  generalize m % 128 * 2 ^ (7 * i) = z at hlt
  unfold RowKit.wrap64
  omega
 rw [hw]
 exact i64_join (7 * i) n (m % 128) hn hlt.1 hlt.2
theorem zIW {n m i : Nat} (hn : n < 128 ^ i) : n + m % 128 * 128 ^ i < 128 ^ (i + 1) := by
 have hp : (128 : Nat) ^ (i + 1) = 128 * 128 ^ i := by rw [Nat.pow_succ, Nat.mul_comm]
 have hmul : m % 128 * 128 ^ i ≤ 127 * 128 ^ i := Nat.mul_le_mul_right _ (by omega)
 omega
theorem zHT (b : Nat) (S : List UInt8) (R : Rr) (w : World) (h : RdAt w b S R) (hS : S.length ≤ 1099511627776) :
  Calls Tryz.prog 134 #[.pointer (some ⟨b, 0, none⟩)] w fun e w' => e = .returned (.int .i64 (R.num.1 : Nat)) ∧ RdAt w' b S R.num.2 ∧ Touch (fun k => k = b) w w' := by
 have H := hid h
 clear h
 go_enter Tryz.func134, Tryz.ntmps134
 go_wp2_with fail
 go_loopw [3, 4] (fun nv iv wr => ∃ (n i : Nat) (R' : Rr), nv = .int .i64 (n : Int) ∧ iv = .int .i64 (i : Int) ∧ i ≤ 8 ∧ n < 128 ^ i ∧ Hid (RdAt wr b S R') ∧ Hid (Touch (fun k => k = b) w wr) ∧ Hid (R.num = if R'.e = 0 then rnum R'.l i n else (0, R'))) (fun _ iv _ => 9 - (intOf iv).toNat)
 case atStart => exact ⟨0, 0, R, rfl, rfl, by decide, by decide, H, hid (Touch.refl _ _), hid rfl⟩
 case round =>
  obtain ⟨n, i, R', rfl, rfl, hi, hn, HR, HT, HN⟩ := hrel
  clear H
  go_wp2_with fail
  refine (rdByte_any b S R' wr HR.out hS).mono ?_
  rintro e w1 ⟨rfl, hR1, hT1⟩
  have HR1 := hid hR1
  have HT1 := hid (HT.out.trans hT1)
  clear hR1 hT1 HR HT
  by_cases he : R'.byte.2.e = 0
  ·obtain ⟨c, r, rfl⟩ := byte_ok he
   have HR2 := hid (show RdAt w1 b S ⟨r, 0⟩ from HR1.out)
   clear HR1 he
   have hby : (Rr.mk (c :: r) 0).byte.1 = c.toNat := rfl
   rw [hby]
   have hc := c.toNat_lt
   have HN2 := hid (show R.num = if (i = 8 ∧ 63 < c.toNat) ∨ (0 < i ∧ c.toNat = 0) then (0, ⟨r, 5⟩) else if c.toNat < 128 then (n + c.toNat % 128 * 128 ^ i, ⟨r, 0⟩) else rnum r (i + 1) (n + c.toNat % 128 * 128 ^ i) by
    rw [HN.out]; rfl)
   clear HN
   generalize c.toNat = m at hc HN2 ⊢
   by_cases hbad : (i = 8 ∧ 63 < m) ∨ (0 < i ∧ m = 0)
   ·have HE := hid (show R.num = (0, ⟨r, 5⟩) by rw [HN2.out, if_pos hbad])
    have HF := hid ((zCa b S _ 5 w1 HR2.out rfl).mono (R' := fun e w' => e = .returned (.tuple #[]) ∧ Hid (RdAt w' b S ⟨r, 5⟩) ∧ Hid (Touch (fun k => k = b) w w')) (fun e w' ⟨h1, h2, h3⟩ => ⟨h1, hid h2, hid (HT1.out.trans h3)⟩))
    have Hbad := hid hbad
    clear HN2 hbad
    go_wp2_with fail
    refine (zAJ b S _ w1 HR2.out).mono ?_
    rintro e w2 ⟨rfl, rfl⟩
    go_wp2_with fail
    all_goals first
     | (refine HF.out.mono ?_
        rintro e w2 ⟨rfl, HR3, HT3⟩
        go_wp2_with fail
        go_ret
        rw [HE.out]
        exact ⟨rfl, HR3.out, HT3.out⟩)
     | (exfalso
        have hbad := Hbad.out
        (try simp only [beq_iff_eq] at *)
        (try simp only [beq_eq_false_iff_ne, ne_eq] at *)
        omega)
   ·have h8 : i = 8 → m ≤ 63 := fun e => by omega
    have HE := hid (show R.num = if m < 128 then (n + m % 128 * 128 ^ i, ⟨r, 0⟩) else rnum r (i + 1) (n + m % 128 * 128 ^ i) by rw [HN2.out, if_neg hbad])
    have Hbad := hid hbad
    have hbits := num_bits n m i hi hn h8 (by omega)
    have hnext := hid (zIW (m := m) hn)
    clear HN2 hbad hn
    by_cases hi8 : i = 8
    ·have hm63 := h8 hi8
     subst hi8
     have e56 : (2 : Int) ^ (7 * 8) = 72057594037927936 := by decide
     rw [e56] at hbits
     have Hbits := hid hbits
     clear hbits h8 hi hnext
     go_wp2_with fail
     refine (zAJ b S _ w1 HR2.out).mono ?_
     rintro e w2 ⟨rfl, rfl⟩
     go_wp2_with fail
     all_goals first
      | (exfalso
         have hbad := Hbad.out
         (try simp only [beq_iff_eq] at *)
         (try simp only [beq_eq_false_iff_ne, ne_eq] at *)
         omega)
      | (go_ret
         rw [HE.out, if_pos (by omega)]
         exact ⟨zAk Hbits.out, HR2.out, HT1.out⟩)
    ·have Hbits := hid hbits
     clear hbits h8
     go_wp2_with fail
     refine (zAJ b S _ w1 HR2.out).mono ?_
     rintro e w2 ⟨rfl, rfl⟩
     go_wp2_with fail
     all_goals first
      | (exfalso
         have hbad := Hbad.out
         (try simp only [beq_iff_eq] at *)
         (try simp only [beq_eq_false_iff_ne, ne_eq] at *)
         omega)
      | (go_ret
         rw [HE.out, if_pos (by omega)]
         exact ⟨zAk Hbits.out, HR2.out, HT1.out⟩)
      | (go_roundw
         case rel => exact ⟨n + m % 128 * 128 ^ i, i + 1, ⟨r, 0⟩, zEV Hbits.out, by go_num, by omega, hnext.out, HR2, HT1, hid (by rw [HE.out, if_neg (by omega)]; rfl)⟩
         case measure => simp [intOf]; omega)
  ·have HE := hid (show R.num = (0, R'.byte.2) from HN.out.trans (byte_err n i he))
   have H0 := hid (show (R'.byte.2.e != 0) = true by rw [bne_iff_ne]; exact he)
   clear he HN
   go_wp2_with fail
   refine (zAJ b S _ w1 HR1.out).mono ?_
   rintro e w2 ⟨rfl, rfl⟩
   rw [H0.out]
   go_wp2_with fail
   go_ret
   rw [HE.out]
   exact ⟨rfl, HR1.out, HT1.out⟩
def Rr.rawI (R : Rr) (n : Int) : List UInt8 × Rr := if R.e = 0 then (if n < 0 then ([], ⟨R.l, 1⟩) else R.raw n.toNat) else ([], R)
theorem Rr.rawI_nat (R : Rr) (n : Nat) : R.rawI (n : Int) = R.raw n := by
 unfold Rr.rawI Rr.raw
 by_cases h : R.e = 0
 ·rw [if_pos h, if_neg (by omega), if_pos h, show ((n : Int)).toNat = n from rfl]
  rw [if_pos h]
 ·rw [if_neg h, if_neg h]
theorem zBl (S : List UInt8) (a b : Nat) : (ba S).extract a b = ba ((S.drop a).take (b - a)) := by
 apply ByteArray.ext
 apply Array.toList_inj.1
 rw [ByteArray.data_extract]
 simp [ba]
theorem rdRaw_any (b : Nat) (S : List UInt8) (R : Rr) (n : Int) (w : World) (h : RdAt w b S R) (hS : S.length ≤ 1099511627776) :
  Calls Tryz.prog 160 #[.pointer (some ⟨b, 0, none⟩), .int .i64 n] w fun e w' => e = .returned (.string (ba (R.rawI n).1)) ∧ RdAt w' b S (R.rawI n).2 ∧ Touch (fun k => k = b) w w' := by
 have H := hid h
 by_cases he : R.e = 0
 ·have H0 := hid (show (R.e != 0) = false by rw [he]; rfl)
  have He := hid he
  by_cases hn : n < 0
  ·have hR : R.rawI n = ([], ⟨R.l, 1⟩) := by unfold Rr.rawI; rw [if_pos he, if_pos hn]
   rw [hR]
   clear h he hR
   go_enter Tryz.func160, Tryz.ntmps160
   go_wp2_with fail
   refine (zAJ b S R w H.out).mono ?_
   rintro e w2 ⟨rfl, rfl⟩
   rw [H0.out]
   go_wp2_with fail
   refine (zCa b S R 1 w H.out He.out).mono ?_
   rintro e w2 ⟨rfl, hR, hT⟩
   have HR := hid hR
   have HT := hid hT
   clear hR hT
   go_wp2_with fail
   go_ret
   exact ⟨rfl, HR.out, HT.out⟩
  ·by_cases hl : ((R.l.length : Nat) : Int) < n
   ·have hR : R.rawI n = ([], ⟨R.l, 3⟩) := by
     unfold Rr.rawI
     rw [if_pos he, if_neg hn]
     unfold Rr.raw
     rw [if_pos he, if_pos (by omega)]
    rw [hR]
    clear h he hR
    go_enter Tryz.func160, Tryz.ntmps160
    go_wp2_with fail
    refine (zAJ b S R w H.out).mono ?_
    rintro e w2 ⟨rfl, rfl⟩
    rw [H0.out]
    go_wp2_with fail
    refine (zEa b S R w H.out hS).mono ?_
    rintro e w2 ⟨rfl, m, rfl⟩
    have H1 := hid (H.out.low m)
    have HT1 := hid ((Touch.refl (fun k => k = b) w).drewN m)
    generalize w.drewN m = w1 at H1 HT1 ⊢
    clear H
    go_wp2_with fail
    refine (zCa b S R 3 w1 H1.out He.out).mono ?_
    rintro e w2 ⟨rfl, hR, hT⟩
    have HR := hid hR
    have HT := hid (HT1.out.trans hT)
    clear hR hT
    go_wp2_with fail
    go_ret
    exact ⟨rfl, HR.out, HT.out⟩
   ·obtain ⟨k, rfl⟩ : ∃ k : Nat, n = (k : Int) := ⟨n.toNat, by omega⟩
    have hkl : k ≤ R.l.length := by omega
    have hR : R.rawI (k : Int) = (R.l.take k, ⟨R.l.drop k, 0⟩) := by
     rw [Rr.rawI_nat]
     unfold Rr.raw
     rw [if_pos he, if_neg (by omega)]
    rw [hR]
    obtain ⟨a, hla, hd, c0, c1, c2, hmk, hB⟩ := h.at
    have hf := hB.free 1
    have hlt := hB.lt
    have hsz := zAl S
    have HB := hid hB
    have Hmk := hid hmk
    have Hd := hid hd
    clear h he hR hn hl hB hmk hd
    go_enter Tryz.func160, Tryz.ntmps160
    go_wp2_with fail
    refine (zAJ b S R w H.out).mono ?_
    rintro e w2 ⟨rfl, rfl⟩
    rw [H0.out]
    go_wp2_with fail
    refine (zEa b S R w H.out hS).mono ?_
    rintro e w2 ⟨rfl, m, rfl⟩
    have c1' : (w.drewN m).cell? ⟨b, 1, none⟩ = some (.int .i64 (a : Int)) := c1
    have hf' : (w.drewN m).frozen? ⟨b, 1, none⟩ = false := hf
    have hlt' : b < (w.drewN m).heap.size := hlt
    have HB' := hid (HB.out.drewN m)
    have HT1 := hid ((Touch.refl (fun k => k = b) w).drewN m)
    generalize w.drewN m = w1 at c1' hf' hlt' HB' HT1 ⊢
    clear c0 c1 c2 hf hlt HB H
    go_upto_region 10 with fail
    have HB2 := hid (HB'.out.set 1 (.int .i64 ((a : Int) + (k : Int))))
    have HT2 := hid (zAA (o := 1) HT1.out (.int .i64 ((a : Int) + (k : Int))))
    generalize w1.setCell ⟨b, 1, none⟩ (.int .i64 ((a : Int) + (k : Int))) = w2 at HB2 HT2 ⊢
    have d0 : w2.cell? ⟨b, 0, none⟩ = some (.string (ba S)) := HB2.out.cell 0
    have d1 : w2.cell? ⟨b, 1, none⟩ = some (.int .i64 ((a : Int) + (k : Int))) := HB2.out.cell 1
    clear c1' hf' hlt' HB' HT1
    have hwa : IntKind.i64.wrap (a : Int) = (a : Int) := by rw [IntKind.wrap_i64]; omega
    go_quiet (fail)
    rw [zBl S a (a + k), Nat.add_sub_cancel_left, Hd.out]
    have HB3 := hid (HB2.out.drewN nq)
    have HT3 := hid (HT2.out.drewN nq)
    generalize w2.drewN nq = w3 at HB3 HT3 ⊢
    go_wp2
    go_ret
    refine ⟨rfl, ?_, HT3.out⟩
    have h3 := Hmk.out w3 (R.l.drop k) (a + k) HB3.out (by rw [List.length_drop]; omega) (by rw [← List.drop_drop, Hd.out])
    rw [He.out] at h3
    exact h3
 ·have H0 := hid (show (R.e != 0) = true by rw [bne_iff_ne]; exact he)
  have hR : R.rawI n = ([], R) := by unfold Rr.rawI; rw [if_neg he]
  rw [hR]
  clear h he hR
  go_enter Tryz.func160, Tryz.ntmps160
  go_wp2_with fail
  refine (zAJ b S R w H.out).mono ?_
  rintro e w2 ⟨rfl, rfl⟩
  rw [H0.out]
  go_wp2_with fail
  go_ret
  exact ⟨rfl, H.out, Touch.refl _ _⟩
theorem zDf (b : Nat) (S : List UInt8) (R : Rr) (most : Nat) (w : World) (h : RdAt w b S R) (hS : S.length ≤ 1099511627776) :
  Calls Tryz.prog 132 #[.pointer (some ⟨b, 0, none⟩), .int .i64 (most : Int)] w fun e w' => e = .returned (.int .i64 ((R.count most).1 : Nat)) ∧ RdAt w' b S (R.count most).2 ∧ Touch (fun k => k = b) w w' := by
 have H := hid h
 clear h
 have Hc := hid (show R.count most = if R.num.2.e = 0 ∧ most < R.num.1 then (0, ⟨R.num.2.l, 4⟩) else R.num from rfl)
 go_enter Tryz.func132, Tryz.ntmps132
 go_wp2_with fail
 refine (zHT b S R w H.out hS).mono ?_
 rintro e w1 ⟨rfl, hR, hT⟩
 have HR := hid hR
 have HT := hid hT
 clear hR hT H
 have HO := hid (zAJ b S R.num.2 w1 HR.out)
 generalize R.num = RN at HR Hc HO ⊢
 obtain ⟨n, R'⟩ := RN
 by_cases hc : R'.e = 0 ∧ most < n
 ·have Hc2 := hid (show R.count most = (0, ⟨R'.l, 4⟩) by rw [Hc.out]; exact if_pos hc)
  have h0 : (R'.e != 0) = false := by rw [hc.1]; rfl
  have hm : most < n := hc.2
  have He := hid hc.1
  clear hc Hc
  go_wp2_with fail
  refine HO.out.mono ?_
  rintro e w2 ⟨rfl, rfl⟩
  rw [h0]
  go_wp2_with fail
  refine (zCa b S R' 4 w1 HR.out He.out).mono ?_
  rintro e w2 ⟨rfl, hR, hT⟩
  have HR2 := hid hR
  have HT2 := hid (HT.out.trans hT)
  clear hR hT
  go_wp2_with fail
  go_ret
  rw [Hc2.out]
  exact ⟨rfl, HR2.out, HT2.out⟩
 ·have Hc2 := hid (show R.count most = (n, R') by rw [Hc.out]; exact if_neg hc)
  clear Hc
  by_cases he : R'.e = 0
  ·have h0 : (R'.e != 0) = false := by rw [he]; rfl
   have hm : ¬ most < n := fun h => hc ⟨he, h⟩
   clear hc he
   go_wp2_with fail
   refine HO.out.mono ?_
   rintro e w2 ⟨rfl, rfl⟩
   rw [h0]
   go_wp2_with fail
   go_ret
   rw [Hc2.out]
   exact ⟨rfl, HR.out, HT.out⟩
  ·have h0 : (R'.e != 0) = true := by rw [bne_iff_ne]; exact he
   clear hc he
   go_wp2_with fail
   refine HO.out.mono ?_
   rintro e w2 ⟨rfl, rfl⟩
   rw [h0]
   go_wp2_with fail
   go_ret
   rw [Hc2.out]
   exact ⟨rfl, HR.out, HT.out⟩
end Go.Proofs.YtaemlplcjjbamaaGreatDoor
namespace Go.Proofs.YtaemlplcjjbamaaGreatDoor
open Go.Lib (hid)
open Go Go.RowKit
set_option linter.unusedVariables false
end Go.Proofs.YtaemlplcjjbamaaGreatDoor
namespace Go.Proofs.YtaemlplcjjbamaaGreatDoor
open Go.Lib (hid)
set_option maxRecDepth 100000
set_option maxHeartbeats 8000000
open Go Go.RowKit
set_option linter.unusedVariables false
variable {S : List UInt8} {at_ b i j m n p q r size : Nat} {w w' : World}
theorem zFY (n : Int) (w : World) :
  Calls Tryz.prog 128 #[.int .i64 n] w fun e w' => (∃ b : Nat, e = .returned (.int .i64 (b : Int)) ∧ 16 ≤ b ∧ b ≤ 1024) ∧ w = w' := by
 go_enter Tryz.func128, Tryz.ntmps128
 go_wp2
 go_loopw [3] (fun bv wr => ∃ b : Nat, bv = .int .i64 (b : Int) ∧ (b = 16 ∨ b = 32 ∨ b = 64 ∨ b = 128 ∨ b = 256 ∨ b = 512 ∨ b = 1024) ∧ w = wr) (fun bv _ => 1024 - (intOf bv).toNat)
 case atStart => exact ⟨16, rfl, Or.inl rfl, rfl⟩
 case round =>
  obtain ⟨b, rfl, h, rfl⟩ := hrel
  rcases h with rfl | rfl | rfl | rfl | rfl | rfl | rfl
  all_goals go_wp2
  all_goals first
   | (go_ret; exact ⟨⟨_, rfl, by decide, by decide⟩, rfl⟩)
   | (go_roundw
      case rel => exact ⟨_, rfl, by decide, trivial⟩
      case measure => decide)
theorem zEg (n : Nat) (w : World) (h1 : 16 ≤ n) (h2 : n ≤ 1024) :
  Calls Tryz.prog 170 #[.int .i64 (n : Int)] w fun e w' => e = .returned (.bool true) ∧ w = w' := by
 go_enter Tryz.func170, Tryz.ntmps170
 go_wp2
 go_ret
 exact ⟨zBa (by simp; omega), rfl⟩
def npc (size block : Nat) : Nat := (size + block - 1) / block
theorem zDE (size block : Nat) (w : World) (h1 : 1 ≤ block) (h2 : block ≤ 1024) (hs : size ≤ 1048576) :
  Calls Tryz.prog 171 #[.int .i64 (size : Int), .int .i64 (block : Int)] w fun e w' => e = .returned (.int .i64 (npc size block : Nat)) ∧ w = w' := by
 go_enter Tryz.func171, Tryz.ntmps171
 go_wp2
 go_ret
 refine ⟨zAk ?_, rfl⟩
 unfold npc
 rw [Int.natCast_ediv]
 show ((size : Int) + (block : Int) - 1) / (block : Int) = _
 congr 1
 omega
theorem min_cast (h : m = min q n) : min (q : Int) (n : Int) = (m : Int) := by
 rw [h, Int.min_def, Nat.min_def]
 by_cases hc : q ≤ n
 ·rw [if_pos hc, if_pos (by omega)]
 ·rw [if_neg hc, if_neg (by omega)]
theorem zGP (h : p = i * b) : (i : Int) * (b : Int) = (p : Int) := by rw [h, Int.natCast_mul]
theorem mul_wrap (h : p = i * b) (hp : p ≤ 1099511627776) : RowKit.wrap64 ((i : Int) * (b : Int)) = (p : Int) := by
 rw [zGP h]
 unfold RowKit.wrap64
 omega
theorem succ_wrap (h : j = i + 1) (hp : i ≤ 1099511627776) : RowKit.wrap64 ((i : Int) + 1) = (j : Int) := by
 unfold RowKit.wrap64
 omega
def pcB (S : List UInt8) (block i : Nat) : ByteArray := (ba S).extract (i * block) (min ((i + 1) * block) S.length)
theorem piece_any (S : List UInt8) (block i : Nat) (w : World) (hS : S.length ≤ 1048576) (h1 : 1 ≤ block) (h2 : block ≤ 1024) (hi : i * block ≤ S.length) :
  Calls Tryz.prog 172 #[.string (ba S), .int .i64 (i : Int), .int .i64 (block : Int)] w fun e w' => e = .returned (.string (pcB S block i)) ∧ w = w' := by
 have hsz := zAl S
 have hi2 : i ≤ S.length := Nat.le_trans (Nat.le_mul_of_pos_right i (by omega)) hi
 obtain ⟨p, hp⟩ : ∃ p, p = i * block := ⟨_, rfl⟩
 obtain ⟨j, hj⟩ : ∃ j, j = i + 1 := ⟨_, rfl⟩
 obtain ⟨q, hq⟩ : ∃ q, q = j * block := ⟨_, rfl⟩
 obtain ⟨m, hm⟩ : ∃ m, m = min q S.length := ⟨_, rfl⟩
 have hqp : q = p + block := by rw [hq, hj, Nat.add_mul, Nat.one_mul, hp]
 have hpm : p ≤ m := by omega
 have hmS : m ≤ S.length := by omega
 have hqb : q ≤ 1099511627776 := by omega
 have HE := hid (show pcB S block i = (ba S).extract p m by unfold pcB; rw [← hj, ← hq, ← hp, ← hm])
 have w1 := succ_wrap hj (by omega)
 have w2 := mul_wrap hq hqb
 have w3 := zGP hp
 have w4 := min_cast hm
 clear hi hi2 hp hj hq hm hqp hqb
 go_enter Tryz.func172, Tryz.ntmps172
 go_wp2
 go_ret
 rw [HE.out]
 exact ⟨rfl, rfl⟩
end Go.Proofs.YtaemlplcjjbamaaGreatDoor
set_option maxRecDepth 100000
set_option maxHeartbeats 8000000
namespace Go.Proofs.YtaemlplcjjbamaaGreatDoor
open Go.Lib (hid)
open Go Go.RowKit
set_option linter.unusedVariables false
def pos : List ByteArray → ByteArray → Nat
 | [], _ => 0
 | x :: r, s => if x = s then 0 else pos r s + 1
theorem zGZ : ∀ {B : List ByteArray} {s : ByteArray}, s ∈ B → pos B s < B.length
 | x :: r, s, h => by
  unfold pos
  by_cases e : x = s
  ·rw [if_pos e]; exact Nat.succ_pos _
  ·rw [if_neg e]
   have := zGZ (B := r) (s := s) ((List.mem_cons.1 h).resolve_left (fun h => e h.symm))
   exact Nat.succ_lt_succ this
theorem pos_at : ∀ {B : List ByteArray} {s : ByteArray}, s ∈ B → B[pos B s]? = some s
 | x :: r, s, h => by
  unfold pos
  by_cases e : x = s
  ·rw [if_pos e, e]; rfl
  ·rw [if_neg e]
   exact pos_at (B := r) (s := s) ((List.mem_cons.1 h).resolve_left (fun h => e h.symm))
theorem pos_inj {B : List ByteArray} {s t : ByteArray} (hs : s ∈ B) (ht : t ∈ B) (h : pos B s = pos B t) : s = t := by
 have h1 := pos_at hs
 rw [h, pos_at ht] at h1
 injection h1 with h1
 exact h1.symm
theorem zDQ : ∀ {B : List ByteArray} {s : ByteArray} (l : List ByteArray), s ∈ B → pos (B ++ l) s = pos B s
 | x :: r, s, l, h => by
  show (if x = s then 0 else pos (r ++ l) s + 1) = if x = s then 0 else pos r s + 1
  by_cases e : x = s
  ·rw [if_pos e, if_pos e]
  ·rw [if_neg e, if_neg e, zDQ (B := r) (s := s) l ((List.mem_cons.1 h).resolve_left (fun h => e h.symm))]
theorem zJb : ∀ {B : List ByteArray} {s : ByteArray}, s ∉ B → pos (B ++ [s]) s = B.length
 | [], s, h => by show (if s = s then 0 else _) = 0; rw [if_pos rfl]
 | x :: r, s, h => by
  show (if x = s then 0 else pos (r ++ [s]) s + 1) = r.length + 1
  rw [if_neg (fun e => h (List.mem_cons.2 (Or.inl e.symm))), zJb (B := r) (fun hr => h (List.mem_cons.2 (Or.inr hr)))]
def known (B : List ByteArray) (s : ByteArray) : Bool := B.any fun x => decide (x = s)
theorem zBn {B : List ByteArray} {s : ByteArray} : known B s = true ↔ s ∈ B := by simp [known]
theorem known_not {B : List ByteArray} {s : ByteArray} (h : s ∉ B) : known B s = false := by
 cases e : known B s with
 | false => rfl
 | true => exact absurd (zBn.1 e) h
def seen (B : List ByteArray) (s : ByteArray) : List ByteArray := if known B s = true then B else B ++ [s]
theorem zCN (B : List ByteArray) (s : ByteArray) : s ∈ seen B s := by
 unfold seen
 by_cases h : s ∈ B
 ·rw [if_pos (zBn.2 h)]; exact h
 ·rw [if_neg (fun e => h (zBn.1 e))]; exact List.mem_append.2 (Or.inr (List.mem_cons.2 (Or.inl rfl)))
theorem seen_old {B : List ByteArray} {t : ByteArray} (s : ByteArray) (h : t ∈ B) : t ∈ seen B s ∧ pos (seen B s) t = pos B t := by
 unfold seen
 by_cases hs : s ∈ B
 ·rw [if_pos (zBn.2 hs)]; exact ⟨h, rfl⟩
 ·rw [if_neg (fun e => hs (zBn.1 e))]; exact ⟨List.mem_append.2 (Or.inl h), zDQ _ h⟩
def keyL (s : ByteArray) : Lit := .string s.data.toList
theorem keyL_inj {s t : ByteArray} (h : keyL s = keyL t) : s = t := by
 unfold keyL at h
 injection h with h
 have h2 : s.data = t.data := Array.toList_inj.1 h
 cases s
 cases t
 exact congrArg ByteArray.mk h2
theorem keyL_lit {s : ByteArray} : WideAt.IsKeyLit (keyL s) := by unfold keyL WideAt.IsKeyLit; trivial
structure BookD (D : DataW Unit) (B : List ByteArray) : Prop where
 isMap : Maps.IsMap D
 has : ∀ s, Maps.has D (keyL s) = known B s
 at_ : ∀ s z, s ∈ B → D.atKey (keyL s) z = .lit (.int .i64 ((pos B s : Nat) + 1))
 size : Maps.size D = B.length
theorem BookD.nil : BookD (.map []) [] := ⟨⟨[], rfl⟩, fun s => rfl, fun s z h => (by cases h), rfl⟩
theorem BookD.add {D : DataW Unit} {B : List ByteArray} {s : ByteArray} (h : BookD D B) (ht : Maps.Tidy D) (hs : s ∉ B) : BookD (D.put (keyL s) (.lit (.int .i64 ((B.length : Nat) + 1)))) (B ++ [s]) := by
 refine ⟨h.isMap.put _ _, fun t => ?_, fun t z hm => ?_, ?_⟩
 ·by_cases e : t = s
  ·subst e
   rw [Maps.has_put_same h.isMap keyL_lit]
   exact (zBn.2 (List.mem_append.2 (Or.inr (List.mem_cons.2 (Or.inl rfl))))).symm
  ·rw [Maps.has_put_other (fun h => e (keyL_inj h)), h.has]
   unfold known
   rw [List.any_append]
   simp only [List.any_cons, List.any_nil, Bool.or_false, decide_eq_false (fun h : s = t => e h.symm)]
 ·by_cases e : t = s
  ·subst e
   rw [Maps.atKey_put_same h.isMap keyL_lit, zJb hs]
  ·have hB : t ∈ B := (List.mem_append.1 hm).elim id (fun h => absurd (List.mem_singleton.1 h) e)
   rw [Maps.atKey_put_other (fun h => e (keyL_inj h)), h.at_ t z hB, zDQ _ hB]
 ·have hh : Maps.has D (keyL s) = false := by rw [h.has]; exact known_not hs
  rw [Maps.size_put ht, hh, h.size]
  simp
def numL (n : Nat) : List UInt8 := (List.range 32).map fun i => if i ≤ 7 then UInt8.ofNat (n / 256 ^ i) else 0
def numb (n : Nat) : ByteArray := ⟨(numL n).toArray⟩
theorem zCj (n : Nat) : (numL n).length = 32 := by unfold numL; rw [List.length_map, List.length_range]
theorem numb_size (n : Nat) : (numb n).size = 32 := by
 show (numL n).toArray.size = 32
 rw [List.size_toArray, zCj]
theorem zJv (n i : Nat) (hi : i ≤ 7) : (numL n)[i]? = some (UInt8.ofNat (n / 256 ^ i)) := by
 unfold numL
 rw [List.getElem?_map, List.getElem?_range (by omega)]
 show some (if i ≤ 7 then _ else _) = _
 rw [if_pos hi]
theorem numb_inj {n m : Nat} (hn : n < 18446744073709551616) (hm : m < 18446744073709551616) (h : numb n = numb m) : n = m := by
 have hl : numL n = numL m := by
  unfold numb at h
  injection h with h
  simpa using h
 have key : ∀ i, i ≤ 7 → n / 256 ^ i % 256 = m / 256 ^ i % 256 := fun i hi => by
  have h1 := zJv n i hi
  rw [hl, zJv m i hi] at h1
  injection h1 with h1
  have h2 := congrArg UInt8.toNat h1
  rw [UInt8.toNat_ofNat', UInt8.toNat_ofNat'] at h2
  exact h2.symm
 have k0 := key 0 (by omega)
 have k1 := key 1 (by omega)
 have k2 := key 2 (by omega)
 have k3 := key 3 (by omega)
 have k4 := key 4 (by omega)
 have k5 := key 5 (by omega)
 have k6 := key 6 (by omega)
 have k7 := key 7 (by omega)
 simp only [Nat.reducePow, Nat.div_one] at k0 k1 k2 k3 k4 k5 k6 k7
 omega
def zAt (B : List ByteArray) (s : ByteArray) : ByteArray := numb (pos B s + 1)
theorem mark_inj {B : List ByteArray} {s t : ByteArray} (hs : s ∈ B) (ht : t ∈ B) (hB : B.length ≤ 1000000000) (h : zAt B s = zAt B t) : s = t := by
 have h1 := zGZ hs
 have h2 := zGZ ht
 exact pos_inj hs ht (Nat.succ.inj (numb_inj (by omega) (by omega) h))
end Go.Proofs.YtaemlplcjjbamaaGreatDoor
namespace Go.Proofs.YtaemlplcjjbamaaGreatDoor
open Go.Lib (hid)
open Go Go.RowKit Go.WideMaps Go.Maps
set_option linter.unusedVariables false
structure zAo (w : World) (k mb : Nat) (B : List ByteArray) : Prop where
 at_ : zCu w k mb
 own : ∃ D : DataW Unit, w.ownsMap Tryz.prog 9 (plainElem Tryz.prog 3) mb B.length D ∧ BookD D B
theorem zEw : Keyed Tryz.prog 9 := string_keyed Tryz.underlying9
theorem zHS (w : World) : (zeroValue 3).run Tryz.prog w = .ok (.int .i64 0) w := by kernel_rfl
theorem zGK {s : ByteArray} (h : s.size ≤ maxLen) : keyOf Tryz.prog 9 (.string s) = some (keyL s) := keyOf_string_mk Tryz.underlying9 h
theorem ideal_book (w : World) :
  Calls Tryz.prog 15 #[] w fun e w' => ∃ b m, e = .returned (.pointer (some ⟨b, 0, none⟩)) ∧ w.heap.size ≤ b ∧ w.heap.size ≤ m ∧ zAo w' b m [] ∧ Below w.heap.size w w' := by
 refine (zEF w).mono ?_
 rintro e w' ⟨b, m, rfl, hb, hm, hk, hmap, hB⟩
 refine ⟨b, m, rfl, hb, hm, ⟨hk, .map [], ?_, BookD.nil⟩, hB⟩
 obtain ⟨es, clock, h1, h2, h3, h4⟩ := World.ownsMap_made w Tryz.prog 9 (plainElem (H := Unit) Tryz.prog 3)
 rw [heap_alloc_new] at h1
 injection h1 with h1
 injection h1 with h5 h6
 subst h5
 subst h6
 exact ⟨#[], 0, hmap, h2, h3, h4⟩
theorem zAo.below {w w' : World} {k mb : Nat} {B : List ByteArray} (h : zAo w k mb B) (hb : Below w.heap.size w w') : zAo w' k mb B := by
 obtain ⟨D, h1, h2⟩ := h.own
 obtain ⟨es, clock, k1, k2, k3, k4⟩ := h1
 have hlt : mb < w.heap.size := World.ownsMap.lt ⟨es, clock, k1, k2, k3, k4⟩
 exact ⟨Blk.touch h.at_ (S := fun _ => False) ⟨hb.os, hb.tape, hb.output, hb.size, fun i hi _ => hb.block i hi⟩ id, D, ⟨es, clock, (hb.block mb hlt).trans k1, k2, k3, k4⟩, h2⟩
end Go.Proofs.YtaemlplcjjbamaaGreatDoor
set_option maxRecDepth 100000
set_option maxHeartbeats 8000000
namespace Go.Proofs.YtaemlplcjjbamaaGreatDoor
open Go.Lib (hid)
open Go Go.RowKit
set_option linter.unusedVariables false
def zCK (n k : Nat) : List Value := ((numL n).take k).map (fun b => Value.int .u8 (b.toNat : Int)) ++ List.replicate (32 - k) (.int .u8 0)
theorem zFx (n k : Nat) (h : k ≤ 32) : (zCK n k).length = 32 := by
 unfold zCK
 rw [List.length_append, List.length_map, List.length_take, zCj, List.length_replicate]
 omega
theorem zET (n k : Nat) (h : k < 32) (b : UInt8) (hb : (numL n)[k]? = some b) : (zCK n k).set k (.int .u8 (b.toNat : Int)) = zCK n (k + 1) := by
 have hl := zCj n
 unfold zCK
 have e : ((numL n).take (k + 1)) = (numL n).take k ++ [b] := by
  rw [List.take_add_one, hb]
  rfl
 have hk : (((numL n).take k).map (fun b => Value.int .u8 (b.toNat : Int))).length = k := by rw [List.length_map, List.length_take]; omega
 rw [List.set_append_right _ _ (by omega), hk, Nat.sub_self, e, List.map_append, List.append_assoc]
 obtain ⟨m, hm⟩ : ∃ m, 32 - k = m + 1 := ⟨31 - k, by omega⟩
 rw [hm, show 32 - (k + 1) = m by omega]
 rfl
theorem info_u8b : (Tryz.prog.info? 5).map (fun i => (i.zero, i.size, i.bytes)) = some (some (.int .u8 0), 1, 1) := by kernel_rfl
theorem zCI (n : Nat) (w : World) (hn : n < 4611686018427387904) :
  Calls Tryz.prog 27 #[.int .i64 n] w fun e w' => e = .returned (.string (numb n)) ∧ Below w.heap.size w w' := by
 have hmk : ∀ W : World, (Instr.makeSlice 108 (.int .i64 32) (.int .i64 32)).run Tryz.prog W = .ok (.slice (some ⟨W.heap.size, 0, none⟩) 32 32) (W.alloc (.cells (Array.replicate 32 (.int .u8 0)) 5)) :=
  fun W => zBT 108 5 (.int .u8 0) 1 Tryz.underlying108 info_u8b rfl 32 (by omega) (by omega) W
 go_enter Tryz.func27, Tryz.ntmps27
 go_wp2
 go_loopw [4, 8] (fun _ i wr => ∃ k : Nat, k ≤ 32 ∧ i = .int .i64 k ∧ Hid (Blk wr w.heap.size (zCK n k) 5) ∧ Hid (Below w.heap.size w wr)) (fun _ i _ => 32 - (intOf i).toNat)
 case atStart =>
  refine ⟨0, Nat.zero_le _, rfl, hid ?_, hid ((Below.refl _ _).alloc (Nat.le_refl _) _)⟩
  exact Blk.new w (zCK n 0) _
 case round =>
  obtain ⟨k, hk, rfl, HB, HW⟩ := hrel
  by_cases hlt : k < 32
  ·have hlen := zFx n k hk
   have hlt2 : (k : Int) < 32 := by omega
   have c0 : ∃ v, wr.cell? ⟨w.heap.size, k, none⟩ = some v := ⟨_, (HB.out.cell k).trans (List.getElem?_eq_getElem (by omega))⟩
   obtain ⟨v0, c0⟩ := c0
   have f0 : wr.frozen? ⟨w.heap.size, k, none⟩ = false := HB.out.free k
   by_cases h7 : k ≤ 7
   ·have h7i : (k : Int) ≤ 7 := by omega
    have hmin : min (k : Int) 7 = k := by omega
    have Hset := hid (zET n k hlt (UInt8.ofNat (n / 256 ^ k)) (zJv n k h7))
    have Hv : Hid (((UInt8.ofNat (n / 256 ^ k)).toNat : Int) = (n : Int) / 2 ^ (8 * k) % 256) := hid (by
     rw [UInt8.toNat_ofNat', show (2 : Int) ^ (8 * k) = ((256 ^ k : Nat) : Int) by rw [Int.pow_mul]; norm_cast]
     norm_cast)
    clear hk hlen
    go_wp2
    refine ⟨⟨k + 1, by omega, by go_num, hid ?_, hid (HW.out.setCell (Nat.le_refl _) _)⟩, by simp [intOf]; omega⟩
    rw [← Hset.out, Hv.out]
    exact HB.out.set k _
   ·have h7i : (7 : Int) < (k : Int) := by omega
    have hmin : min (k : Int) 7 = 7 := by omega
    have h0 : (numL n)[k]? = some 0 := by
     unfold numL
     rw [List.getElem?_map, List.getElem?_range hlt]
     show some (if k ≤ 7 then _ else _) = _
     rw [if_neg h7]
    have Hset := hid (zET n k hlt 0 h0)
    clear hk hlen h0
    go_wp2
    refine ⟨⟨k + 1, by omega, by go_num, hid ?_, hid ((HW.out.setCell (Nat.le_refl _) _).setCell (Nat.le_refl _) _)⟩, by simp [intOf]; omega⟩
    have h2 := (HB.out.set k (.int .u8 ((n : Int) / 72057594037927936))).set k (.int .u8 0)
    rw [List.set_set] at h2
    rw [← Hset.out]
    exact h2
  ·have hk32 : k = 32 := by omega
   subst hk32
   have hback : (convert 108 9 (.slice (some ⟨w.heap.size, 0, none⟩) 32 32)).run Tryz.prog wr = .ok (.string (numb n)) wr := by
    refine run_convert_bytes_back wr 108 9 5 ⟨w.heap.size, 0, none⟩ 32 (numL n) Tryz.underlying108 Tryz.underlying5 Tryz.underlying9 ?_
    intro j hj
    first | rw [addr_add, Nat.zero_add] | rw [addr_add]
    refine (HB.out.cell j).trans ?_
    unfold zCK
    rw [List.take_of_length_le (by rw [zCj]; exact Nat.le_refl _), Nat.sub_self, List.replicate_zero, List.append_nil, List.getElem?_map, List.getElem?_eq_getElem hj]
    rfl
   go_wp2
   go_ret
   exact ⟨rfl, HW.out⟩
end Go.Proofs.YtaemlplcjjbamaaGreatDoor
namespace Go.Proofs.YtaemlplcjjbamaaGreatDoor
open Go.Lib (hid)
open Go Go.RowKit Go.WideMaps Go.Maps
set_option linter.unusedVariables false
theorem zAY (a b : ByteArray) : (a.toList == b.toList) = decide (a = b) := by
 rw [ByteArray.toList_eq, ByteArray.toList_eq]
 by_cases h : a = b
 ·subst h; simp
 ·rw [decide_eq_false h]
  simp only [beq_eq_false_iff_ne, ne_eq]
  intro h2
  apply h
  cases a; cases b
  congr
  simpa using h2
def tells (B : List ByteArray) (s m : ByteArray) : Bool := known B s && decide (zAt B s = m)
theorem elem_int {v : Value} {a : Int} {ps : List MemPlace} (h : plainElem (H := Unit) Tryz.prog 3 v = some (.lit (.int .i64 a), ps)) : v = .int .i64 a := by
 unfold plainElem at h
 rw [Tryz.underlying3] at h
 cases v with
 | int q b =>
  simp only at h
  split at h
  ·rename_i hq
   injection h with h
   injection h with h _
   injection h with h
   injection h with h1 h2
   rw [hq.1, h2]
  ·cases h
 | _ => cases h
theorem is_any (k mb : Nat) (B : List ByteArray) (s m : ByteArray) (w : World) (h : zAo w k mb B) (hs : s.size ≤ maxLen) (hB : B.length ≤ 1000000000) :
  Calls Tryz.prog 54 #[.pointer (some ⟨k, 0, none⟩), .string s, .string m] w fun e w' => e = .returned (.bool (tells B s m)) ∧ Below w.heap.size w w' := by
 obtain ⟨hat, D, hown, hD⟩ := h
 have c2 := hat.real
 have c3 := hat.seen
 have HN := hid (zDZ k mb w hat)
 obtain ⟨v, ps, hlook, hv⟩ := hown.look_ok zEw Tryz.underlying89 (zHS w) (zd := .lit (.int .i64 0)) (zp := []) (plainElem_int Tryz.underlying3 (by decide)) (zGK hs)
 rw [hD.has] at hlook
 cases hk : known B s with
 | false =>
  have ht : tells B s m = false := by unfold tells; rw [hk]; rfl
  rw [hk] at hlook
  rw [ht]
  clear hat hown hD hv
  go_enter Tryz.func54, Tryz.ntmps54
  go_wp2_with fail
  refine HN.out.mono ?_
  rintro e w1 ⟨rfl, rfl⟩
  go_wp2_with fail
  go_ret
  exact ⟨rfl, Below.refl _ _⟩
 | true =>
  have hm := zBn.1 hk
  have hp := zGZ hm
  rw [hD.at_ s _ hm] at hv
  have hv2 : v = .int .i64 ((pos B s + 1 : Nat) : Int) := by rw [elem_int hv]; norm_cast
  subst hv2
  have HM := hid (zCI (pos B s + 1) w (by omega))
  have ht : Hid (tells B s m = decide (numb (pos B s + 1) = m)) := hid (by unfold tells; rw [hk]; rfl)
  rw [hk] at hlook
  rw [ht.out]
  clear hat hown hD hv hm hp ht
  generalize pos B s + 1 = N at hlook HM ⊢
  go_enter Tryz.func54, Tryz.ntmps54
  go_wp2_with fail
  refine HN.out.mono ?_
  rintro e w1 ⟨rfl, rfl⟩
  go_wp2_with fail
  refine HM.out.mono ?_
  rintro e w2 ⟨rfl, hb⟩
  have HB := hid hb
  clear hb
  go_wp2_with fail
  rw [zAY]
  go_ret
  exact ⟨rfl, HB.out⟩
theorem zBF (k mb : Nat) (B : List ByteArray) (s : ByteArray) (w : World) (h : zAo w k mb B) (hs : s.size ≤ maxLen) (hB : B.length ≤ 1000000000) (hne : k ≠ mb) :
  Calls Tryz.prog 11 #[.pointer (some ⟨k, 0, none⟩), .string s] w fun e w' => e = .returned (.string (zAt (seen B s) s)) ∧ zAo w' k mb (seen B s) ∧ Touch (fun j => j = mb) w w' := by
 have H := hid h
 obtain ⟨hat, D, hown, hD⟩ := h
 have c2 := hat.real
 have c3 := hat.seen
 have HN := hid (zDZ k mb w hat)
 obtain ⟨v, ps, hlook, hv⟩ := hown.look_ok zEw Tryz.underlying89 (zHS w) (zd := .lit (.int .i64 0)) (zp := []) (plainElem_int Tryz.underlying3 (by decide)) (zGK hs)
 rw [hD.has] at hlook
 cases hk : known B s with
 | true =>
  have hm := zBn.1 hk
  have hp := zGZ hm
  have hsn : seen B s = B := by unfold seen; rw [if_pos hk]
  rw [hD.at_ s _ hm] at hv
  have hv2 : v = .int .i64 ((pos B s + 1 : Nat) : Int) := by rw [elem_int hv]; norm_cast
  subst hv2
  have HM := hid (zCI (pos B s + 1) w (by omega))
  have ht : Hid (zAt (seen B s) s = numb (pos B s + 1)) := hid (by rw [hsn]; rfl)
  rw [hk] at hlook
  rw [ht.out, hsn]
  clear hat hown hD hv hm hp ht hsn
  generalize pos B s + 1 = N at hlook HM ⊢
  go_enter Tryz.func11, Tryz.ntmps11
  go_wp2_with fail
  refine HN.out.mono ?_
  rintro e w1 ⟨rfl, rfl⟩
  go_wp2_with fail
  refine HM.out.mono ?_
  rintro e w2 ⟨rfl, hb⟩
  have HB := hid hb
  clear hb
  go_wp2_with fail
  go_ret
  exact ⟨rfl, H.out.below HB.out, Touch.of_below HB.out⟩
 | false =>
  have hm : s ∉ B := fun h => by rw [zBn.2 h] at hk; cases hk
  have hsn : seen B s = B ++ [s] := by unfold seen; rw [if_neg (by rw [hk]; decide)]
  have hlen := fun ty => hown.len Tryz.underlying89 ty
  rw [hD.size] at hlen
  have Hown := hid hown
  have HD := hid hD
  have Hat := hid hat
  have HT := hid (hown.tidy zEw)
  have hkey := hid (zGK hs)
  have HM := hid (show ∀ w', Calls Tryz.prog 27 #[.int .i64 ((B.length : Int) + 1)] w' fun e w'' => e = .returned (.string (numb (B.length + 1))) ∧ Below w'.heap.size w' w'' from fun w' => by
   have h := zCI (B.length + 1) w' (by omega)
   rwa [show ((B.length + 1 : Nat) : Int) = (B.length : Int) + 1 by norm_cast] at h)
  have ht : Hid (zAt (B ++ [s]) s = numb (B.length + 1)) := hid (by unfold zAt; rw [zJb hm])
  have hwf : (Lit.int .i64 ((B.length : Int) + 1)).wf = true := by
   have := wrap64_wf ((B.length : Int) + 1)
   rw [show wrap64 ((B.length : Int) + 1) = (B.length : Int) + 1 by unfold wrap64; omega] at this
   exact this
  have HV := hid (plainElem_int (H := Unit) Tryz.underlying3 hwf)
  have HX := hid (show B.length < maxLen by unfold maxLen; omega)
  rw [hk] at hlook
  rw [hsn, ht.out]
  clear hown hD hv ht hsn hat
  go_enter Tryz.func11, Tryz.ntmps11
  go_wp2_with fail
  refine HN.out.mono ?_
  rintro e w1 ⟨rfl, rfl⟩
  go_wp2_with (at_mapUpdate; refine wpList_mapUpdate_own _ rfl _ _ _ 89 rfl 9 3 zEw Tryz.underlying89 _ mb B.length _ rfl Hown.out HX.out _ _ _ rfl rfl hkey.out _ [] HV.out ?_)
  intro w1 hown1 hgrow1
  have hb1 : Blk w1 k _ _ := zAr Hat.out hgrow1 (by intro h; injection h with h; exact hne h.symm)
  have HB1 := hid (zAo.mk hb1 ⟨_, (by rw [List.length_append]; exact hown1), HD.out.add HT.out hm⟩)
  clear hown1 hb1
  have HG := hid hgrow1
  clear hgrow1
  go_wp2_with fail
  refine (HM.out _).mono ?_
  rintro e w2 ⟨rfl, hb⟩
  have HB := hid hb
  clear hb
  go_wp2_with fail
  go_ret
  refine ⟨rfl, HB1.out.below HB.out, ?_⟩
  have hT : Touch (fun j => j = mb) w w1 := ⟨HG.out.os, HG.out.tape, HG.out.output, HG.out.size, fun i hi hn => HG.out.block i hi (fun e => hn (by injection e))⟩
  exact hT.trans (Touch.of_below HB.out)
end Go.Proofs.YtaemlplcjjbamaaGreatDoor
namespace Go.Proofs.YtaemlplcjjbamaaGreatDoor
open Go.Lib (hid)
open Go Go.RowKit
set_option linter.unusedVariables false
end Go.Proofs.YtaemlplcjjbamaaGreatDoor

