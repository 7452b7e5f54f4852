/- slices.symMergeCmpFunc at []int, weakly: its general case, a -/
import Derived.Test.YtaemlplcjjbamaaGreatDoorBSort3
namespace Go.Proofs.YtaemlplcjjbamaaGreatDoor
open Go.Lib (hid)
set_option maxRecDepth 100000
set_option maxHeartbeats 8000000
open Go Go.RowKit
set_option linter.unusedVariables false
def zGq (g n m q cp : Nat) (wf : Nat → Nat) (s : Nat) : Prop := ∀ (a c b : Nat) (w : World), b - a < s → RowIn w g n m → CmpAt g q m wf w → a < c → c < b → b ≤ n →
  Calls Tryz.prog 212 #[.slice (some ⟨g, 0, none⟩) n cp, .int .i64 (a : Int), .int .i64 (c : Int), .int .i64 (b : Int), cmpFn q] w (zBw g n m q wf w)
theorem symHi_any (g n m q cp a c b : Nat) (wf : Nat → Nat) (w : World) (ih : zGq g n m q cp wf (b - a)) (h : RowIn w g n m) (hc : CmpAt g q m wf w) (hwf : ∀ j, wf j < 4294967296) (hm : m ≤ 1048576) (hac : a + 1 < c) (hcb : c + 1 < b) (hb : b ≤ n) (hn : n ≤ 1048576) (hside : (a + b) / 2 < c) :
  Calls Tryz.prog 212 #[.slice (some ⟨g, 0, none⟩) n cp, .int .i64 (a : Int), .int .i64 (c : Int), .int .i64 (b : Int), cmpFn q] w (zBw g n m q wf w) := by
 obtain ⟨mid, hmd⟩ : ∃ mid, mid = (a + b) / 2 := ⟨_, rfl⟩
 rw [← hmd] at hside
 obtain ⟨N, hN⟩ : ∃ N, N = mid + c := ⟨_, rfl⟩
 obtain ⟨pp, hpp⟩ : ∃ pp, pp = N - 1 := ⟨_, rfl⟩
 obtain ⟨s0, hs0⟩ : ∃ s0, s0 = N - b := ⟨_, rfl⟩
 obtain ⟨d1, hd1⟩ : ∃ d1, d1 = c - a := ⟨_, rfl⟩
 obtain ⟨d2, hd2⟩ : ∃ d2, d2 = b - c := ⟨_, rfl⟩
 have i1 : (c : Int) - (a : Int) = (d1 : Int) := by omega
 have i2 : (b : Int) - (c : Int) = (d2 : Int) := by omega
 have i3 : ((d1 : Int) == 1) = false := by rw [beq_eq_false_iff_ne]; omega
 have i4 : ((d2 : Int) == 1) = false := by rw [beq_eq_false_iff_ne]; omega
 have i5 : ((a : Int) + (b : Int)) / 2 = (mid : Int) := by omega
 have i6 : (mid : Int) + (c : Int) = (N : Int) := by omega
 have i7 : (N : Int) - 1 = (pp : Int) := by omega
 have i8 : (N : Int) - (b : Int) = (s0 : Int) := by omega
 have F := hid (show a ≤ s0 ∧ s0 ≤ mid ∧ mid ≤ mid ∧ mid ≤ c ∧ N ≤ s0 + b ∧ a < mid ∧ mid < b ∧ N = mid + c ∧ pp = N - 1 by omega)
 have hNn : N ≤ 2097152 := by omega
 have hmn : mid ≤ 1048576 := by omega
 have H := hid h
 have HC := hid hc
 have Hwf := hid hwf
 have IH := hid ih
 have Hac := hid hac
 have Hcb := hid hcb
 clear h hc hwf ih hmd hN hpp hd1 hd2 hs0
 unfold cmpFn
 go_enter Tryz.func212, Tryz.ntmps212
 go_upto_region 33 with fail
 go_loopw [20, 21] (fun iv_ jv wr => ∃ i j : Nat, iv_ = .int .i64 (i : Int) ∧ jv = .int .i64 (j : Int) ∧ s0 ≤ i ∧ i ≤ j ∧ j ≤ mid ∧ Hid (RowIn wr g n m) ∧ Hid (Touch (fun k => k = g) w wr)) (fun iv_ jv _ => (intOf jv).toNat - (intOf iv_).toNat)
 case atStart => exact ⟨_, _, rfl, rfl, Nat.le_refl _, F.out.2.1, Nat.le_refl _, H, hid (Touch.refl _ _)⟩
 case round =>
  obtain ⟨i, j, rfl, rfl, hi, hij, hj, HR, HT⟩ := hrel
  clear H
  by_cases hlt : i < j
  ·obtain ⟨e, he⟩ : ∃ e, e = (i + j) / 2 := ⟨_, rfl⟩
   have he1 := zFb hlt
   rw [← he] at he1
   obtain ⟨he1, he2⟩ := he1
   have hhalf : ((i : Int) + (j : Int)) / 2 = (e : Int) := by omega
   have hen : e < n := by have := F.out; omega
   obtain ⟨y1, hy1⟩ : ∃ y1, y1 = pp - e := ⟨_, rfl⟩
   have i9 : (pp : Int) - (e : Int) = (y1 : Int) := by have := F.out; omega
   have hyn : y1 < n := by have := F.out; omega
   have hj2 : j ≤ 1048576 := by have := F.out; omega
   clear hy1 he
   obtain ⟨x, hx, e1⟩ := HR.out.at hyn
   obtain ⟨y, hy, e2⟩ := HR.out.at hen
   have HCm := hid (fun k => zEJ g q m x y wf (wr.drewN k) ((HC.out.touch HT.out).touch ((Touch.refl _ wr).drewN k)) Hwf.out hx hy hm)
   go_upto_region 35 with fail
   go_quiet ((go_at_call 195; exact zBg (HCm.out _)))
   obtain ⟨ws, hws⟩ : ∃ ws, ws = wr.drewN nq := ⟨_, rfl⟩
   have HR3 := hid (show RowIn ws g n m by rw [hws]; exact HR.out.drewN nq)
   have HT3 := hid (show Touch (fun k => k = g) w ws by rw [hws]; exact HT.out.trans ((Touch.refl _ _).drewN nq))
   rw [← hws]
   clear hws HCm HR HT e1 e2
   by_cases hcm : ((wf x : Int) - (wf y : Int) < 0)
   ·rw [decide_eq_true hcm]
    go_wp2_with fail
    go_roundw
    case rel => exact ⟨i, e, rfl, rfl, hi, by omega, by omega, HR3, HT3⟩
    case measure => simp [intOf]; omega
   ·rw [decide_eq_false hcm]
    go_wp2_with fail
    go_roundw
    case rel => exact ⟨e + 1, j, by go_num, rfl, by omega, by omega, hj, HR3, HT3⟩
    case measure => simp [intOf]; omega
  ·obtain ⟨z, hz⟩ : ∃ z, z = N - i := ⟨_, rfl⟩
   have i9 : (N : Int) - (i : Int) = (z : Int) := by have := F.out; omega
   have hj2 : j ≤ 1048576 := by have := F.out; omega
   have hzb : z ≤ b := by have := F.out; omega
   clear hz
   by_cases h1 : i < c
   ·by_cases h2 : c < z
    ·skip
     by_cases h3 : a < i
     ·by_cases h4 : i < mid
      ·skip
       by_cases h5 : mid < z
       ·by_cases h6 : z < b
        ·skip
         have HS1 := hid (zAu g n m q cp i c z wf wr HR.out h1 h2 (by omega) hn)
         unfold cmpFn at HS1
         go_wp2_with fail
         refine HS1.out.mono ?_
         clear HS1
         rintro ee w1 ⟨rfl, hR1, hT1⟩
         have HR1' := hid hR1
         have HT1' := hid (HT.out.trans hT1)
         clear hR1 hT1 HR HT
         have HS2 := hid (IH.out a i mid w1 (by have := F.out; omega) HR1'.out (HC.out.touch HT1'.out) h3 h4 (by have := F.out; omega))
         unfold cmpFn at HS2
         go_wp2_with fail
         refine HS2.out.mono ?_
         clear HS2
         rintro ee w2 ⟨rfl, hR2, hT2⟩
         have HR2' := hid hR2
         have HT2' := hid (HT1'.out.trans hT2)
         clear hR2 hT2 HR1' HT1'
         have HS3 := hid (IH.out mid z b w2 (by have := F.out; omega) HR2'.out (HC.out.touch HT2'.out) h5 h6 (by have := F.out; omega))
         unfold cmpFn at HS3
         go_wp2_with fail
         refine HS3.out.mono ?_
         clear HS3
         rintro ee w3 ⟨rfl, hR3, hT3⟩
         have HR3' := hid hR3
         have HT3' := hid (HT2'.out.trans hT3)
         clear hR3 hT3 HR2' HT2'
         go_wp2_with fail
         go_end0
         exact ⟨rfl, HR3'.out, HT3'.out⟩
        ·skip
         have HS1 := hid (zAu g n m q cp i c z wf wr HR.out h1 h2 (by omega) hn)
         unfold cmpFn at HS1
         go_wp2_with fail
         refine HS1.out.mono ?_
         clear HS1
         rintro ee w1 ⟨rfl, hR1, hT1⟩
         have HR1' := hid hR1
         have HT1' := hid (HT.out.trans hT1)
         clear hR1 hT1 HR HT
         have HS2 := hid (IH.out a i mid w1 (by have := F.out; omega) HR1'.out (HC.out.touch HT1'.out) h3 h4 (by have := F.out; omega))
         unfold cmpFn at HS2
         go_wp2_with fail
         refine HS2.out.mono ?_
         clear HS2
         rintro ee w2 ⟨rfl, hR2, hT2⟩
         have HR2' := hid hR2
         have HT2' := hid (HT1'.out.trans hT2)
         clear hR2 hT2 HR1' HT1'
         go_wp2_with fail
         go_end0
         exact ⟨rfl, HR2'.out, HT2'.out⟩
       ·skip
        have HS1 := hid (zAu g n m q cp i c z wf wr HR.out h1 h2 (by omega) hn)
        unfold cmpFn at HS1
        go_wp2_with fail
        refine HS1.out.mono ?_
        clear HS1
        rintro ee w1 ⟨rfl, hR1, hT1⟩
        have HR1' := hid hR1
        have HT1' := hid (HT.out.trans hT1)
        clear hR1 hT1 HR HT
        have HS2 := hid (IH.out a i mid w1 (by have := F.out; omega) HR1'.out (HC.out.touch HT1'.out) h3 h4 (by have := F.out; omega))
        unfold cmpFn at HS2
        go_wp2_with fail
        refine HS2.out.mono ?_
        clear HS2
        rintro ee w2 ⟨rfl, hR2, hT2⟩
        have HR2' := hid hR2
        have HT2' := hid (HT1'.out.trans hT2)
        clear hR2 hT2 HR1' HT1'
        go_wp2_with fail
        go_end0
        exact ⟨rfl, HR2'.out, HT2'.out⟩
      ·skip
       by_cases h5 : mid < z
       ·by_cases h6 : z < b
        ·skip
         have HS1 := hid (zAu g n m q cp i c z wf wr HR.out h1 h2 (by omega) hn)
         unfold cmpFn at HS1
         go_wp2_with fail
         refine HS1.out.mono ?_
         clear HS1
         rintro ee w1 ⟨rfl, hR1, hT1⟩
         have HR1' := hid hR1
         have HT1' := hid (HT.out.trans hT1)
         clear hR1 hT1 HR HT
         have HS2 := hid (IH.out mid z b w1 (by have := F.out; omega) HR1'.out (HC.out.touch HT1'.out) h5 h6 (by have := F.out; omega))
         unfold cmpFn at HS2
         go_wp2_with fail
         refine HS2.out.mono ?_
         clear HS2
         rintro ee w2 ⟨rfl, hR2, hT2⟩
         have HR2' := hid hR2
         have HT2' := hid (HT1'.out.trans hT2)
         clear hR2 hT2 HR1' HT1'
         go_wp2_with fail
         go_end0
         exact ⟨rfl, HR2'.out, HT2'.out⟩
        ·skip
         have HS1 := hid (zAu g n m q cp i c z wf wr HR.out h1 h2 (by omega) hn)
         unfold cmpFn at HS1
         go_wp2_with fail
         refine HS1.out.mono ?_
         clear HS1
         rintro ee w1 ⟨rfl, hR1, hT1⟩
         have HR1' := hid hR1
         have HT1' := hid (HT.out.trans hT1)
         clear hR1 hT1 HR HT
         go_wp2_with fail
         go_end0
         exact ⟨rfl, HR1'.out, HT1'.out⟩
       ·skip
        have HS1 := hid (zAu g n m q cp i c z wf wr HR.out h1 h2 (by omega) hn)
        unfold cmpFn at HS1
        go_wp2_with fail
        refine HS1.out.mono ?_
        clear HS1
        rintro ee w1 ⟨rfl, hR1, hT1⟩
        have HR1' := hid hR1
        have HT1' := hid (HT.out.trans hT1)
        clear hR1 hT1 HR HT
        go_wp2_with fail
        go_end0
        exact ⟨rfl, HR1'.out, HT1'.out⟩
     ·skip
      by_cases h5 : mid < z
      ·by_cases h6 : z < b
       ·skip
        have HS1 := hid (zAu g n m q cp i c z wf wr HR.out h1 h2 (by omega) hn)
        unfold cmpFn at HS1
        go_wp2_with fail
        refine HS1.out.mono ?_
        clear HS1
        rintro ee w1 ⟨rfl, hR1, hT1⟩
        have HR1' := hid hR1
        have HT1' := hid (HT.out.trans hT1)
        clear hR1 hT1 HR HT
        have HS2 := hid (IH.out mid z b w1 (by have := F.out; omega) HR1'.out (HC.out.touch HT1'.out) h5 h6 (by have := F.out; omega))
        unfold cmpFn at HS2
        go_wp2_with fail
        refine HS2.out.mono ?_
        clear HS2
        rintro ee w2 ⟨rfl, hR2, hT2⟩
        have HR2' := hid hR2
        have HT2' := hid (HT1'.out.trans hT2)
        clear hR2 hT2 HR1' HT1'
        go_wp2_with fail
        go_end0
        exact ⟨rfl, HR2'.out, HT2'.out⟩
       ·skip
        have HS1 := hid (zAu g n m q cp i c z wf wr HR.out h1 h2 (by omega) hn)
        unfold cmpFn at HS1
        go_wp2_with fail
        refine HS1.out.mono ?_
        clear HS1
        rintro ee w1 ⟨rfl, hR1, hT1⟩
        have HR1' := hid hR1
        have HT1' := hid (HT.out.trans hT1)
        clear hR1 hT1 HR HT
        go_wp2_with fail
        go_end0
        exact ⟨rfl, HR1'.out, HT1'.out⟩
      ·skip
       have HS1 := hid (zAu g n m q cp i c z wf wr HR.out h1 h2 (by omega) hn)
       unfold cmpFn at HS1
       go_wp2_with fail
       refine HS1.out.mono ?_
       clear HS1
       rintro ee w1 ⟨rfl, hR1, hT1⟩
       have HR1' := hid hR1
       have HT1' := hid (HT.out.trans hT1)
       clear hR1 hT1 HR HT
       go_wp2_with fail
       go_end0
       exact ⟨rfl, HR1'.out, HT1'.out⟩
    ·skip
     by_cases h3 : a < i
     ·by_cases h4 : i < mid
      ·skip
       by_cases h5 : mid < z
       ·by_cases h6 : z < b
        ·skip
         have HS1 := hid (IH.out a i mid wr (by have := F.out; omega) HR.out (HC.out.touch HT.out) h3 h4 (by have := F.out; omega))
         unfold cmpFn at HS1
         go_wp2_with fail
         refine HS1.out.mono ?_
         clear HS1
         rintro ee w1 ⟨rfl, hR1, hT1⟩
         have HR1' := hid hR1
         have HT1' := hid (HT.out.trans hT1)
         clear hR1 hT1 HR HT
         have HS2 := hid (IH.out mid z b w1 (by have := F.out; omega) HR1'.out (HC.out.touch HT1'.out) h5 h6 (by have := F.out; omega))
         unfold cmpFn at HS2
         go_wp2_with fail
         refine HS2.out.mono ?_
         clear HS2
         rintro ee w2 ⟨rfl, hR2, hT2⟩
         have HR2' := hid hR2
         have HT2' := hid (HT1'.out.trans hT2)
         clear hR2 hT2 HR1' HT1'
         go_wp2_with fail
         go_end0
         exact ⟨rfl, HR2'.out, HT2'.out⟩
        ·skip
         have HS1 := hid (IH.out a i mid wr (by have := F.out; omega) HR.out (HC.out.touch HT.out) h3 h4 (by have := F.out; omega))
         unfold cmpFn at HS1
         go_wp2_with fail
         refine HS1.out.mono ?_
         clear HS1
         rintro ee w1 ⟨rfl, hR1, hT1⟩
         have HR1' := hid hR1
         have HT1' := hid (HT.out.trans hT1)
         clear hR1 hT1 HR HT
         go_wp2_with fail
         go_end0
         exact ⟨rfl, HR1'.out, HT1'.out⟩
       ·skip
        have HS1 := hid (IH.out a i mid wr (by have := F.out; omega) HR.out (HC.out.touch HT.out) h3 h4 (by have := F.out; omega))
        unfold cmpFn at HS1
        go_wp2_with fail
        refine HS1.out.mono ?_
        clear HS1
        rintro ee w1 ⟨rfl, hR1, hT1⟩
        have HR1' := hid hR1
        have HT1' := hid (HT.out.trans hT1)
        clear hR1 hT1 HR HT
        go_wp2_with fail
        go_end0
        exact ⟨rfl, HR1'.out, HT1'.out⟩
      ·skip
       by_cases h5 : mid < z
       ·by_cases h6 : z < b
        ·skip
         have HS1 := hid (IH.out mid z b wr (by have := F.out; omega) HR.out (HC.out.touch HT.out) h5 h6 (by have := F.out; omega))
         unfold cmpFn at HS1
         go_wp2_with fail
         refine HS1.out.mono ?_
         clear HS1
         rintro ee w1 ⟨rfl, hR1, hT1⟩
         have HR1' := hid hR1
         have HT1' := hid (HT.out.trans hT1)
         clear hR1 hT1 HR HT
         go_wp2_with fail
         go_end0
         exact ⟨rfl, HR1'.out, HT1'.out⟩
        ·skip
         go_wp2_with fail
         go_end0
         exact ⟨rfl, HR.out, HT.out⟩
       ·skip
        go_wp2_with fail
        go_end0
        exact ⟨rfl, HR.out, HT.out⟩
     ·skip
      by_cases h5 : mid < z
      ·by_cases h6 : z < b
       ·skip
        have HS1 := hid (IH.out mid z b wr (by have := F.out; omega) HR.out (HC.out.touch HT.out) h5 h6 (by have := F.out; omega))
        unfold cmpFn at HS1
        go_wp2_with fail
        refine HS1.out.mono ?_
        clear HS1
        rintro ee w1 ⟨rfl, hR1, hT1⟩
        have HR1' := hid hR1
        have HT1' := hid (HT.out.trans hT1)
        clear hR1 hT1 HR HT
        go_wp2_with fail
        go_end0
        exact ⟨rfl, HR1'.out, HT1'.out⟩
       ·skip
        go_wp2_with fail
        go_end0
        exact ⟨rfl, HR.out, HT.out⟩
      ·skip
       go_wp2_with fail
       go_end0
       exact ⟨rfl, HR.out, HT.out⟩
   ·skip
    by_cases h3 : a < i
    ·by_cases h4 : i < mid
     ·skip
      by_cases h5 : mid < z
      ·by_cases h6 : z < b
       ·skip
        have HS1 := hid (IH.out a i mid wr (by have := F.out; omega) HR.out (HC.out.touch HT.out) h3 h4 (by have := F.out; omega))
        unfold cmpFn at HS1
        go_wp2_with fail
        refine HS1.out.mono ?_
        clear HS1
        rintro ee w1 ⟨rfl, hR1, hT1⟩
        have HR1' := hid hR1
        have HT1' := hid (HT.out.trans hT1)
        clear hR1 hT1 HR HT
        have HS2 := hid (IH.out mid z b w1 (by have := F.out; omega) HR1'.out (HC.out.touch HT1'.out) h5 h6 (by have := F.out; omega))
        unfold cmpFn at HS2
        go_wp2_with fail
        refine HS2.out.mono ?_
        clear HS2
        rintro ee w2 ⟨rfl, hR2, hT2⟩
        have HR2' := hid hR2
        have HT2' := hid (HT1'.out.trans hT2)
        clear hR2 hT2 HR1' HT1'
        go_wp2_with fail
        go_end0
        exact ⟨rfl, HR2'.out, HT2'.out⟩
       ·skip
        have HS1 := hid (IH.out a i mid wr (by have := F.out; omega) HR.out (HC.out.touch HT.out) h3 h4 (by have := F.out; omega))
        unfold cmpFn at HS1
        go_wp2_with fail
        refine HS1.out.mono ?_
        clear HS1
        rintro ee w1 ⟨rfl, hR1, hT1⟩
        have HR1' := hid hR1
        have HT1' := hid (HT.out.trans hT1)
        clear hR1 hT1 HR HT
        go_wp2_with fail
        go_end0
        exact ⟨rfl, HR1'.out, HT1'.out⟩
      ·skip
       have HS1 := hid (IH.out a i mid wr (by have := F.out; omega) HR.out (HC.out.touch HT.out) h3 h4 (by have := F.out; omega))
       unfold cmpFn at HS1
       go_wp2_with fail
       refine HS1.out.mono ?_
       clear HS1
       rintro ee w1 ⟨rfl, hR1, hT1⟩
       have HR1' := hid hR1
       have HT1' := hid (HT.out.trans hT1)
       clear hR1 hT1 HR HT
       go_wp2_with fail
       go_end0
       exact ⟨rfl, HR1'.out, HT1'.out⟩
     ·skip
      by_cases h5 : mid < z
      ·by_cases h6 : z < b
       ·skip
        have HS1 := hid (IH.out mid z b wr (by have := F.out; omega) HR.out (HC.out.touch HT.out) h5 h6 (by have := F.out; omega))
        unfold cmpFn at HS1
        go_wp2_with fail
        refine HS1.out.mono ?_
        clear HS1
        rintro ee w1 ⟨rfl, hR1, hT1⟩
        have HR1' := hid hR1
        have HT1' := hid (HT.out.trans hT1)
        clear hR1 hT1 HR HT
        go_wp2_with fail
        go_end0
        exact ⟨rfl, HR1'.out, HT1'.out⟩
       ·skip
        go_wp2_with fail
        go_end0
        exact ⟨rfl, HR.out, HT.out⟩
      ·skip
       go_wp2_with fail
       go_end0
       exact ⟨rfl, HR.out, HT.out⟩
    ·skip
     by_cases h5 : mid < z
     ·by_cases h6 : z < b
      ·skip
       have HS1 := hid (IH.out mid z b wr (by have := F.out; omega) HR.out (HC.out.touch HT.out) h5 h6 (by have := F.out; omega))
       unfold cmpFn at HS1
       go_wp2_with fail
       refine HS1.out.mono ?_
       clear HS1
       rintro ee w1 ⟨rfl, hR1, hT1⟩
       have HR1' := hid hR1
       have HT1' := hid (HT.out.trans hT1)
       clear hR1 hT1 HR HT
       go_wp2_with fail
       go_end0
       exact ⟨rfl, HR1'.out, HT1'.out⟩
      ·skip
       go_wp2_with fail
       go_end0
       exact ⟨rfl, HR.out, HT.out⟩
     ·skip
      go_wp2_with fail
      go_end0
      exact ⟨rfl, HR.out, HT.out⟩
theorem symLo_any (g n m q cp a c b : Nat) (wf : Nat → Nat) (w : World) (ih : zGq g n m q cp wf (b - a)) (h : RowIn w g n m) (hc : CmpAt g q m wf w) (hwf : ∀ j, wf j < 4294967296) (hm : m ≤ 1048576) (hac : a + 1 < c) (hcb : c + 1 < b) (hb : b ≤ n) (hn : n ≤ 1048576) (hside : c ≤ (a + b) / 2) :
  Calls Tryz.prog 212 #[.slice (some ⟨g, 0, none⟩) n cp, .int .i64 (a : Int), .int .i64 (c : Int), .int .i64 (b : Int), cmpFn q] w (zBw g n m q wf w) := by
 obtain ⟨mid, hmd⟩ : ∃ mid, mid = (a + b) / 2 := ⟨_, rfl⟩
 rw [← hmd] at hside
 obtain ⟨N, hN⟩ : ∃ N, N = mid + c := ⟨_, rfl⟩
 obtain ⟨pp, hpp⟩ : ∃ pp, pp = N - 1 := ⟨_, rfl⟩
 skip
 obtain ⟨d1, hd1⟩ : ∃ d1, d1 = c - a := ⟨_, rfl⟩
 obtain ⟨d2, hd2⟩ : ∃ d2, d2 = b - c := ⟨_, rfl⟩
 have i1 : (c : Int) - (a : Int) = (d1 : Int) := by omega
 have i2 : (b : Int) - (c : Int) = (d2 : Int) := by omega
 have i3 : ((d1 : Int) == 1) = false := by rw [beq_eq_false_iff_ne]; omega
 have i4 : ((d2 : Int) == 1) = false := by rw [beq_eq_false_iff_ne]; omega
 have i5 : ((a : Int) + (b : Int)) / 2 = (mid : Int) := by omega
 have i6 : (mid : Int) + (c : Int) = (N : Int) := by omega
 have i7 : (N : Int) - 1 = (pp : Int) := by omega
 skip
 have F := hid (show a ≤ a ∧ a ≤ c ∧ c ≤ mid ∧ c ≤ c ∧ N ≤ a + b ∧ a < mid ∧ mid < b ∧ N = mid + c ∧ pp = N - 1 by omega)
 have hNn : N ≤ 2097152 := by omega
 have hmn : mid ≤ 1048576 := by omega
 have H := hid h
 have HC := hid hc
 have Hwf := hid hwf
 have IH := hid ih
 have Hac := hid hac
 have Hcb := hid hcb
 clear h hc hwf ih hmd hN hpp hd1 hd2
 unfold cmpFn
 go_enter Tryz.func212, Tryz.ntmps212
 go_upto_region 33 with fail
 go_loopw [20, 21] (fun iv_ jv wr => ∃ i j : Nat, iv_ = .int .i64 (i : Int) ∧ jv = .int .i64 (j : Int) ∧ a ≤ i ∧ i ≤ j ∧ j ≤ c ∧ Hid (RowIn wr g n m) ∧ Hid (Touch (fun k => k = g) w wr)) (fun iv_ jv _ => (intOf jv).toNat - (intOf iv_).toNat)
 case atStart => exact ⟨_, _, rfl, rfl, Nat.le_refl _, F.out.2.1, Nat.le_refl _, H, hid (Touch.refl _ _)⟩
 case round =>
  obtain ⟨i, j, rfl, rfl, hi, hij, hj, HR, HT⟩ := hrel
  clear H
  by_cases hlt : i < j
  ·obtain ⟨e, he⟩ : ∃ e, e = (i + j) / 2 := ⟨_, rfl⟩
   have he1 := zFb hlt
   rw [← he] at he1
   obtain ⟨he1, he2⟩ := he1
   have hhalf : ((i : Int) + (j : Int)) / 2 = (e : Int) := by omega
   have hen : e < n := by have := F.out; omega
   obtain ⟨y1, hy1⟩ : ∃ y1, y1 = pp - e := ⟨_, rfl⟩
   have i9 : (pp : Int) - (e : Int) = (y1 : Int) := by have := F.out; omega
   have hyn : y1 < n := by have := F.out; omega
   have hj2 : j ≤ 1048576 := by have := F.out; omega
   clear hy1 he
   obtain ⟨x, hx, e1⟩ := HR.out.at hyn
   obtain ⟨y, hy, e2⟩ := HR.out.at hen
   have HCm := hid (fun k => zEJ g q m x y wf (wr.drewN k) ((HC.out.touch HT.out).touch ((Touch.refl _ wr).drewN k)) Hwf.out hx hy hm)
   go_upto_region 35 with fail
   go_quiet ((go_at_call 195; exact zBg (HCm.out _)))
   obtain ⟨ws, hws⟩ : ∃ ws, ws = wr.drewN nq := ⟨_, rfl⟩
   have HR3 := hid (show RowIn ws g n m by rw [hws]; exact HR.out.drewN nq)
   have HT3 := hid (show Touch (fun k => k = g) w ws by rw [hws]; exact HT.out.trans ((Touch.refl _ _).drewN nq))
   rw [← hws]
   clear hws HCm HR HT e1 e2
   by_cases hcm : ((wf x : Int) - (wf y : Int) < 0)
   ·rw [decide_eq_true hcm]
    go_wp2_with fail
    go_roundw
    case rel => exact ⟨i, e, rfl, rfl, hi, by omega, by omega, HR3, HT3⟩
    case measure => simp [intOf]; omega
   ·rw [decide_eq_false hcm]
    go_wp2_with fail
    go_roundw
    case rel => exact ⟨e + 1, j, by go_num, rfl, by omega, by omega, hj, HR3, HT3⟩
    case measure => simp [intOf]; omega
  ·obtain ⟨z, hz⟩ : ∃ z, z = N - i := ⟨_, rfl⟩
   have i9 : (N : Int) - (i : Int) = (z : Int) := by have := F.out; omega
   have hj2 : j ≤ 1048576 := by have := F.out; omega
   have hzb : z ≤ b := by have := F.out; omega
   clear hz
   by_cases h1 : i < c
   ·by_cases h2 : c < z
    ·skip
     by_cases h3 : a < i
     ·by_cases h4 : i < mid
      ·skip
       by_cases h5 : mid < z
       ·by_cases h6 : z < b
        ·skip
         have HS1 := hid (zAu g n m q cp i c z wf wr HR.out h1 h2 (by omega) hn)
         unfold cmpFn at HS1
         go_wp2_with fail
         refine HS1.out.mono ?_
         clear HS1
         rintro ee w1 ⟨rfl, hR1, hT1⟩
         have HR1' := hid hR1
         have HT1' := hid (HT.out.trans hT1)
         clear hR1 hT1 HR HT
         have HS2 := hid (IH.out a i mid w1 (by have := F.out; omega) HR1'.out (HC.out.touch HT1'.out) h3 h4 (by have := F.out; omega))
         unfold cmpFn at HS2
         go_wp2_with fail
         refine HS2.out.mono ?_
         clear HS2
         rintro ee w2 ⟨rfl, hR2, hT2⟩
         have HR2' := hid hR2
         have HT2' := hid (HT1'.out.trans hT2)
         clear hR2 hT2 HR1' HT1'
         have HS3 := hid (IH.out mid z b w2 (by have := F.out; omega) HR2'.out (HC.out.touch HT2'.out) h5 h6 (by have := F.out; omega))
         unfold cmpFn at HS3
         go_wp2_with fail
         refine HS3.out.mono ?_
         clear HS3
         rintro ee w3 ⟨rfl, hR3, hT3⟩
         have HR3' := hid hR3
         have HT3' := hid (HT2'.out.trans hT3)
         clear hR3 hT3 HR2' HT2'
         go_wp2_with fail
         go_end0
         exact ⟨rfl, HR3'.out, HT3'.out⟩
        ·skip
         have HS1 := hid (zAu g n m q cp i c z wf wr HR.out h1 h2 (by omega) hn)
         unfold cmpFn at HS1
         go_wp2_with fail
         refine HS1.out.mono ?_
         clear HS1
         rintro ee w1 ⟨rfl, hR1, hT1⟩
         have HR1' := hid hR1
         have HT1' := hid (HT.out.trans hT1)
         clear hR1 hT1 HR HT
         have HS2 := hid (IH.out a i mid w1 (by have := F.out; omega) HR1'.out (HC.out.touch HT1'.out) h3 h4 (by have := F.out; omega))
         unfold cmpFn at HS2
         go_wp2_with fail
         refine HS2.out.mono ?_
         clear HS2
         rintro ee w2 ⟨rfl, hR2, hT2⟩
         have HR2' := hid hR2
         have HT2' := hid (HT1'.out.trans hT2)
         clear hR2 hT2 HR1' HT1'
         go_wp2_with fail
         go_end0
         exact ⟨rfl, HR2'.out, HT2'.out⟩
       ·skip
        have HS1 := hid (zAu g n m q cp i c z wf wr HR.out h1 h2 (by omega) hn)
        unfold cmpFn at HS1
        go_wp2_with fail
        refine HS1.out.mono ?_
        clear HS1
        rintro ee w1 ⟨rfl, hR1, hT1⟩
        have HR1' := hid hR1
        have HT1' := hid (HT.out.trans hT1)
        clear hR1 hT1 HR HT
        have HS2 := hid (IH.out a i mid w1 (by have := F.out; omega) HR1'.out (HC.out.touch HT1'.out) h3 h4 (by have := F.out; omega))
        unfold cmpFn at HS2
        go_wp2_with fail
        refine HS2.out.mono ?_
        clear HS2
        rintro ee w2 ⟨rfl, hR2, hT2⟩
        have HR2' := hid hR2
        have HT2' := hid (HT1'.out.trans hT2)
        clear hR2 hT2 HR1' HT1'
        go_wp2_with fail
        go_end0
        exact ⟨rfl, HR2'.out, HT2'.out⟩
      ·skip
       by_cases h5 : mid < z
       ·by_cases h6 : z < b
        ·skip
         have HS1 := hid (zAu g n m q cp i c z wf wr HR.out h1 h2 (by omega) hn)
         unfold cmpFn at HS1
         go_wp2_with fail
         refine HS1.out.mono ?_
         clear HS1
         rintro ee w1 ⟨rfl, hR1, hT1⟩
         have HR1' := hid hR1
         have HT1' := hid (HT.out.trans hT1)
         clear hR1 hT1 HR HT
         have HS2 := hid (IH.out mid z b w1 (by have := F.out; omega) HR1'.out (HC.out.touch HT1'.out) h5 h6 (by have := F.out; omega))
         unfold cmpFn at HS2
         go_wp2_with fail
         refine HS2.out.mono ?_
         clear HS2
         rintro ee w2 ⟨rfl, hR2, hT2⟩
         have HR2' := hid hR2
         have HT2' := hid (HT1'.out.trans hT2)
         clear hR2 hT2 HR1' HT1'
         go_wp2_with fail
         go_end0
         exact ⟨rfl, HR2'.out, HT2'.out⟩
        ·skip
         have HS1 := hid (zAu g n m q cp i c z wf wr HR.out h1 h2 (by omega) hn)
         unfold cmpFn at HS1
         go_wp2_with fail
         refine HS1.out.mono ?_
         clear HS1
         rintro ee w1 ⟨rfl, hR1, hT1⟩
         have HR1' := hid hR1
         have HT1' := hid (HT.out.trans hT1)
         clear hR1 hT1 HR HT
         go_wp2_with fail
         go_end0
         exact ⟨rfl, HR1'.out, HT1'.out⟩
       ·skip
        have HS1 := hid (zAu g n m q cp i c z wf wr HR.out h1 h2 (by omega) hn)
        unfold cmpFn at HS1
        go_wp2_with fail
        refine HS1.out.mono ?_
        clear HS1
        rintro ee w1 ⟨rfl, hR1, hT1⟩
        have HR1' := hid hR1
        have HT1' := hid (HT.out.trans hT1)
        clear hR1 hT1 HR HT
        go_wp2_with fail
        go_end0
        exact ⟨rfl, HR1'.out, HT1'.out⟩
     ·skip
      by_cases h5 : mid < z
      ·by_cases h6 : z < b
       ·skip
        have HS1 := hid (zAu g n m q cp i c z wf wr HR.out h1 h2 (by omega) hn)
        unfold cmpFn at HS1
        go_wp2_with fail
        refine HS1.out.mono ?_
        clear HS1
        rintro ee w1 ⟨rfl, hR1, hT1⟩
        have HR1' := hid hR1
        have HT1' := hid (HT.out.trans hT1)
        clear hR1 hT1 HR HT
        have HS2 := hid (IH.out mid z b w1 (by have := F.out; omega) HR1'.out (HC.out.touch HT1'.out) h5 h6 (by have := F.out; omega))
        unfold cmpFn at HS2
        go_wp2_with fail
        refine HS2.out.mono ?_
        clear HS2
        rintro ee w2 ⟨rfl, hR2, hT2⟩
        have HR2' := hid hR2
        have HT2' := hid (HT1'.out.trans hT2)
        clear hR2 hT2 HR1' HT1'
        go_wp2_with fail
        go_end0
        exact ⟨rfl, HR2'.out, HT2'.out⟩
       ·skip
        have HS1 := hid (zAu g n m q cp i c z wf wr HR.out h1 h2 (by omega) hn)
        unfold cmpFn at HS1
        go_wp2_with fail
        refine HS1.out.mono ?_
        clear HS1
        rintro ee w1 ⟨rfl, hR1, hT1⟩
        have HR1' := hid hR1
        have HT1' := hid (HT.out.trans hT1)
        clear hR1 hT1 HR HT
        go_wp2_with fail
        go_end0
        exact ⟨rfl, HR1'.out, HT1'.out⟩
      ·skip
       have HS1 := hid (zAu g n m q cp i c z wf wr HR.out h1 h2 (by omega) hn)
       unfold cmpFn at HS1
       go_wp2_with fail
       refine HS1.out.mono ?_
       clear HS1
       rintro ee w1 ⟨rfl, hR1, hT1⟩
       have HR1' := hid hR1
       have HT1' := hid (HT.out.trans hT1)
       clear hR1 hT1 HR HT
       go_wp2_with fail
       go_end0
       exact ⟨rfl, HR1'.out, HT1'.out⟩
    ·skip
     by_cases h3 : a < i
     ·by_cases h4 : i < mid
      ·skip
       by_cases h5 : mid < z
       ·by_cases h6 : z < b
        ·skip
         have HS1 := hid (IH.out a i mid wr (by have := F.out; omega) HR.out (HC.out.touch HT.out) h3 h4 (by have := F.out; omega))
         unfold cmpFn at HS1
         go_wp2_with fail
         refine HS1.out.mono ?_
         clear HS1
         rintro ee w1 ⟨rfl, hR1, hT1⟩
         have HR1' := hid hR1
         have HT1' := hid (HT.out.trans hT1)
         clear hR1 hT1 HR HT
         have HS2 := hid (IH.out mid z b w1 (by have := F.out; omega) HR1'.out (HC.out.touch HT1'.out) h5 h6 (by have := F.out; omega))
         unfold cmpFn at HS2
         go_wp2_with fail
         refine HS2.out.mono ?_
         clear HS2
         rintro ee w2 ⟨rfl, hR2, hT2⟩
         have HR2' := hid hR2
         have HT2' := hid (HT1'.out.trans hT2)
         clear hR2 hT2 HR1' HT1'
         go_wp2_with fail
         go_end0
         exact ⟨rfl, HR2'.out, HT2'.out⟩
        ·skip
         have HS1 := hid (IH.out a i mid wr (by have := F.out; omega) HR.out (HC.out.touch HT.out) h3 h4 (by have := F.out; omega))
         unfold cmpFn at HS1
         go_wp2_with fail
         refine HS1.out.mono ?_
         clear HS1
         rintro ee w1 ⟨rfl, hR1, hT1⟩
         have HR1' := hid hR1
         have HT1' := hid (HT.out.trans hT1)
         clear hR1 hT1 HR HT
         go_wp2_with fail
         go_end0
         exact ⟨rfl, HR1'.out, HT1'.out⟩
       ·skip
        have HS1 := hid (IH.out a i mid wr (by have := F.out; omega) HR.out (HC.out.touch HT.out) h3 h4 (by have := F.out; omega))
        unfold cmpFn at HS1
        go_wp2_with fail
        refine HS1.out.mono ?_
        clear HS1
        rintro ee w1 ⟨rfl, hR1, hT1⟩
        have HR1' := hid hR1
        have HT1' := hid (HT.out.trans hT1)
        clear hR1 hT1 HR HT
        go_wp2_with fail
        go_end0
        exact ⟨rfl, HR1'.out, HT1'.out⟩
      ·skip
       by_cases h5 : mid < z
       ·by_cases h6 : z < b
        ·skip
         have HS1 := hid (IH.out mid z b wr (by have := F.out; omega) HR.out (HC.out.touch HT.out) h5 h6 (by have := F.out; omega))
         unfold cmpFn at HS1
         go_wp2_with fail
         refine HS1.out.mono ?_
         clear HS1
         rintro ee w1 ⟨rfl, hR1, hT1⟩
         have HR1' := hid hR1
         have HT1' := hid (HT.out.trans hT1)
         clear hR1 hT1 HR HT
         go_wp2_with fail
         go_end0
         exact ⟨rfl, HR1'.out, HT1'.out⟩
        ·skip
         go_wp2_with fail
         go_end0
         exact ⟨rfl, HR.out, HT.out⟩
       ·skip
        go_wp2_with fail
        go_end0
        exact ⟨rfl, HR.out, HT.out⟩
     ·skip
      by_cases h5 : mid < z
      ·by_cases h6 : z < b
       ·skip
        have HS1 := hid (IH.out mid z b wr (by have := F.out; omega) HR.out (HC.out.touch HT.out) h5 h6 (by have := F.out; omega))
        unfold cmpFn at HS1
        go_wp2_with fail
        refine HS1.out.mono ?_
        clear HS1
        rintro ee w1 ⟨rfl, hR1, hT1⟩
        have HR1' := hid hR1
        have HT1' := hid (HT.out.trans hT1)
        clear hR1 hT1 HR HT
        go_wp2_with fail
        go_end0
        exact ⟨rfl, HR1'.out, HT1'.out⟩
       ·skip
        go_wp2_with fail
        go_end0
        exact ⟨rfl, HR.out, HT.out⟩
      ·skip
       go_wp2_with fail
       go_end0
       exact ⟨rfl, HR.out, HT.out⟩
   ·skip
    by_cases h3 : a < i
    ·by_cases h4 : i < mid
     ·skip
      by_cases h5 : mid < z
      ·by_cases h6 : z < b
       ·skip
        have HS1 := hid (IH.out a i mid wr (by have := F.out; omega) HR.out (HC.out.touch HT.out) h3 h4 (by have := F.out; omega))
        unfold cmpFn at HS1
        go_wp2_with fail
        refine HS1.out.mono ?_
        clear HS1
        rintro ee w1 ⟨rfl, hR1, hT1⟩
        have HR1' := hid hR1
        have HT1' := hid (HT.out.trans hT1)
        clear hR1 hT1 HR HT
        have HS2 := hid (IH.out mid z b w1 (by have := F.out; omega) HR1'.out (HC.out.touch HT1'.out) h5 h6 (by have := F.out; omega))
        unfold cmpFn at HS2
        go_wp2_with fail
        refine HS2.out.mono ?_
        clear HS2
        rintro ee w2 ⟨rfl, hR2, hT2⟩
        have HR2' := hid hR2
        have HT2' := hid (HT1'.out.trans hT2)
        clear hR2 hT2 HR1' HT1'
        go_wp2_with fail
        go_end0
        exact ⟨rfl, HR2'.out, HT2'.out⟩
       ·skip
        have HS1 := hid (IH.out a i mid wr (by have := F.out; omega) HR.out (HC.out.touch HT.out) h3 h4 (by have := F.out; omega))
        unfold cmpFn at HS1
        go_wp2_with fail
        refine HS1.out.mono ?_
        clear HS1
        rintro ee w1 ⟨rfl, hR1, hT1⟩
        have HR1' := hid hR1
        have HT1' := hid (HT.out.trans hT1)
        clear hR1 hT1 HR HT
        go_wp2_with fail
        go_end0
        exact ⟨rfl, HR1'.out, HT1'.out⟩
      ·skip
       have HS1 := hid (IH.out a i mid wr (by have := F.out; omega) HR.out (HC.out.touch HT.out) h3 h4 (by have := F.out; omega))
       unfold cmpFn at HS1
       go_wp2_with fail
       refine HS1.out.mono ?_
       clear HS1
       rintro ee w1 ⟨rfl, hR1, hT1⟩
       have HR1' := hid hR1
       have HT1' := hid (HT.out.trans hT1)
       clear hR1 hT1 HR HT
       go_wp2_with fail
       go_end0
       exact ⟨rfl, HR1'.out, HT1'.out⟩
     ·skip
      by_cases h5 : mid < z
      ·by_cases h6 : z < b
       ·skip
        have HS1 := hid (IH.out mid z b wr (by have := F.out; omega) HR.out (HC.out.touch HT.out) h5 h6 (by have := F.out; omega))
        unfold cmpFn at HS1
        go_wp2_with fail
        refine HS1.out.mono ?_
        clear HS1
        rintro ee w1 ⟨rfl, hR1, hT1⟩
        have HR1' := hid hR1
        have HT1' := hid (HT.out.trans hT1)
        clear hR1 hT1 HR HT
        go_wp2_with fail
        go_end0
        exact ⟨rfl, HR1'.out, HT1'.out⟩
       ·skip
        go_wp2_with fail
        go_end0
        exact ⟨rfl, HR.out, HT.out⟩
      ·skip
       go_wp2_with fail
       go_end0
       exact ⟨rfl, HR.out, HT.out⟩
    ·skip
     by_cases h5 : mid < z
     ·by_cases h6 : z < b
      ·skip
       have HS1 := hid (IH.out mid z b wr (by have := F.out; omega) HR.out (HC.out.touch HT.out) h5 h6 (by have := F.out; omega))
       unfold cmpFn at HS1
       go_wp2_with fail
       refine HS1.out.mono ?_
       clear HS1
       rintro ee w1 ⟨rfl, hR1, hT1⟩
       have HR1' := hid hR1
       have HT1' := hid (HT.out.trans hT1)
       clear hR1 hT1 HR HT
       go_wp2_with fail
       go_end0
       exact ⟨rfl, HR1'.out, HT1'.out⟩
      ·skip
       go_wp2_with fail
       go_end0
       exact ⟨rfl, HR.out, HT.out⟩
     ·skip
      go_wp2_with fail
      go_end0
      exact ⟨rfl, HR.out, HT.out⟩
theorem zEh (g n m q cp : Nat) (wf : Nat → Nat) (hwf : ∀ j, wf j < 4294967296) (hm : m ≤ 1048576) (hn : n ≤ 1048576) : ∀ s, zGq g n m q cp wf s := by
 intro s
 induction s with
 | zero => intro a c b w h; omega
 | succ s ih =>
  intro a c b w hs h hc h1 h2 hb
  have ih' : zGq g n m q cp wf (b - a) := fun a' c' b' w' hs' => ih a' c' b' w' (by omega)
  by_cases e1 : c = a + 1
  ·subst e1
   exact symA_any g n m q cp a b wf w h hc hwf hm h2 hb hn
  ·by_cases e2 : b = c + 1
   ·exact symB_any g n m q cp a b wf w h hc hwf hm c (by omega) e2 hb hn
   ·by_cases e3 : (a + b) / 2 < c
    ·exact symHi_any g n m q cp a c b wf w ih' h hc hwf hm (by omega) (by omega) hb hn e3
    ·exact symLo_any g n m q cp a c b wf w ih' h hc hwf hm (by omega) (by omega) hb hn (by omega)
end Go.Proofs.YtaemlplcjjbamaaGreatDoor
set_option maxRecDepth 100000
set_option maxHeartbeats 8000000
namespace Go.Proofs.YtaemlplcjjbamaaGreatDoor
open Go.Lib (hid)
open Go Go.RowKit
set_option linter.unusedVariables false
theorem stable_any (g n m q cp : Nat) (wf : Nat → Nat) (w : World) (h : RowIn w g n m) (hc : CmpAt g q m wf w) (hwf : ∀ j, wf j < 4294967296) (hm : m ≤ 1048576) (hn : n ≤ 1048576) :
  Calls Tryz.prog 204 #[.slice (some ⟨g, 0, none⟩) n cp, .int .i64 (n : Int), cmpFn q] w (zBw g n m q wf w) := by
 have H := hid h
 have HC := hid hc
 have Hwf := hid hwf
 have Hm := hid hm
 clear h hc hwf hm
 go_enter Tryz.func204, Tryz.ntmps204
 go_upto_region 2 with fail
 go_loopw [7, 8] (fun av_ bv wr => ∃ a b : Nat, av_ = .int .i64 (a : Int) ∧ bv = .int .i64 (b : Int) ∧ b = a + 20 ∧ a ≤ n ∧ Hid (RowIn wr g n m) ∧ Hid (Touch (fun k => k = g) w wr)) (fun av_ _ _ => n + 1 - (intOf av_).toNat)
 case atStart => exact ⟨0, 20, rfl, rfl, rfl, Nat.zero_le _, H, hid (Touch.refl _ _)⟩
 case round =>
  obtain ⟨a, b, rfl, rfl, hb, ha, HR, HT⟩ := hrel
  clear H
  have hbb : b ≤ 2097152 := by omega
  have Hb := hid hb
  have hab : a ≤ b := by omega
  clear hb
  by_cases hbn : b ≤ n
  ·have HS := hid (zDD g n m q cp a b wf wr HR.out (HC.out.touch HT.out) Hwf.out Hm.out hab hbn hn)
   go_wp2_with fail
   refine HS.out.mono ?_
   clear HS
   rintro ee w1 ⟨rfl, hR1, hT1⟩
   have HR1 := hid hR1
   have HT1 := hid (HT.out.trans hT1)
   clear hR1 hT1 HR HT
   go_wp2_with fail
   go_roundw
   case rel => exact ⟨b, b + 20, rfl, by go_num, rfl, hbn, HR1, HT1⟩
   case measure => have := Hb.out; simp [intOf]; omega
  ·have HS := hid (zDD g n m q cp a n wf wr HR.out (HC.out.touch HT.out) Hwf.out Hm.out (by omega) (Nat.le_refl _) hn)
   go_wp2_with fail
   refine HS.out.mono ?_
   clear HS
   rintro ee w1 ⟨rfl, hR1, hT1⟩
   have HR1 := hid hR1
   have HT1 := hid (HT.out.trans hT1)
   clear hR1 hT1 HR HT
   go_upto_region 7 with fail
   go_loopw [6] (fun sv_ wr => ∃ s : Nat, sv_ = .int .i64 (s : Int) ∧ 20 ≤ s ∧ s ≤ 2 * n + 20 ∧ Hid (RowIn wr g n m) ∧ Hid (Touch (fun k => k = g) w wr)) (fun sv_ _ => n - (intOf sv_).toNat)
   case atStart => exact ⟨20, rfl, Nat.le_refl _, by omega, HR1, HT1⟩
   case round =>
    obtain ⟨s, rfl, hs1, hs2, HR2, HT2⟩ := hrel
    by_cases hsn : s < n
    ·go_upto_region 9 with fail
     go_loopw [7, 8] (fun av_ bv wr => ∃ a b : Nat, av_ = .int .i64 (a : Int) ∧ bv = .int .i64 (b : Int) ∧ b = a + 2 * s ∧ a ≤ n ∧ Hid (RowIn wr g n m) ∧ Hid (Touch (fun k => k = g) w wr)) (fun av_ _ _ => n + 1 - (intOf av_).toNat)
     case atStart => exact ⟨0, 2 * s, rfl, by go_num, by omega, Nat.zero_le _, HR2, HT2⟩
     case round =>
      obtain ⟨a', b', rfl, rfl, hb', ha', HR3, HT3⟩ := hrel
      obtain ⟨c, hc⟩ : ∃ c, c = a' + s := ⟨_, rfl⟩
      have i1 : (a' : Int) + (s : Int) = (c : Int) := by omega
      have hbb' : b' ≤ 16777216 := by omega
      have Hb' := hid (show b' = a' + 2 * s from hb')
      have i2 : a' < c := by omega
      have i3 : c < b' := by omega
      have hcc : c ≤ 16777216 := by omega
      clear hb' hc
      by_cases hbn' : b' ≤ n
      ·have HS := hid (zEh g n m q cp wf Hwf.out Hm.out hn (b' - a' + 1) a' c b' _ (by omega) HR3.out (HC.out.touch HT3.out) i2 i3 hbn')
       go_wp2_with fail
       refine HS.out.mono ?_
       clear HS
       rintro ee w4 ⟨rfl, hR4, hT4⟩
       have HR4 := hid hR4
       have HT4 := hid (HT3.out.trans hT4)
       clear hR4 hT4 HR3 HT3
       go_wp2_with fail
       go_roundw
       case rel => exact ⟨b', b' + 2 * s, rfl, by go_num, rfl, hbn', HR4, HT4⟩
       case measure => have := Hb'.out; simp [intOf]; omega
      ·by_cases hcn : c < n
       ·have HS := hid (zEh g n m q cp wf Hwf.out Hm.out hn (n - a' + 1) a' c n _ (by omega) HR3.out (HC.out.touch HT3.out) i2 hcn (Nat.le_refl _))
        go_wp2_with fail
        refine HS.out.mono ?_
        clear HS
        rintro ee w4 ⟨rfl, hR4, hT4⟩
        have HR4 := hid hR4
        have HT4 := hid (HT3.out.trans hT4)
        clear hR4 hT4 HR3 HT3
        go_wp2_with fail
        go_roundw
        case rel => exact ⟨s * 2, by go_num, by omega, by omega, HR4, HT4⟩
        case measure => simp [intOf]; omega
       ·go_wp2_with fail
        go_roundw
        case rel => exact ⟨s * 2, by go_num, by omega, by omega, HR3, HT3⟩
        case measure => simp [intOf]; omega
    ·go_wp2_with fail
     go_end0
     exact ⟨rfl, HR2.out, HT2.out⟩
theorem zFw (g n m q cp : Nat) (wf : Nat → Nat) (w : World) (h : RowIn w g n m) (hc : CmpAt g q m wf w) (hwf : ∀ j, wf j < 4294967296) (hm : m ≤ 1048576) (hn : n ≤ 1048576) :
  Calls Tryz.prog 194 #[.slice (some ⟨g, 0, none⟩) n cp, cmpFn q] w (zBw g n m q wf w) := by
 have HS := hid (stable_any g n m q cp wf w h hc hwf hm hn)
 clear h hc hwf hm
 go_enter Tryz.func194, Tryz.ntmps194
 go_wp2_with fail
 refine HS.out.mono ?_
 clear HS
 rintro ee w1 ⟨rfl, hR1, hT1⟩
 have HR1 := hid hR1
 have HT1 := hid hT1
 clear hR1 hT1
 go_wp2_with fail
 go_end0
 exact ⟨rfl, HR1.out, HT1.out⟩
end Go.Proofs.YtaemlplcjjbamaaGreatDoor
namespace Go.Proofs.YtaemlplcjjbamaaGreatDoor
open Go.Lib (hid)
open Go Go.RowKit
set_option linter.unusedVariables false
def zIF (w : World) (e : Ending) (w' : World) : Prop := e = .returned (.tuple #[]) ∧ Below w.heap.size w w'
theorem zGG (q : Nat) (w : World) :
  Calls Tryz.prog 211 #[.slice none 0 0, .int .i64 0, .int .i64 0, cmpFn q] w (zIF w) := by
 unfold cmpFn
 go_enter Tryz.func211, Tryz.ntmps211
 go_wp2
 go_loopw [8] (fun iv_ wr => iv_ = .int .i64 1 ∧ wr = w) (fun iv_ _ => 0)
 case atStart => exact ⟨rfl, rfl⟩
 case round =>
  obtain ⟨rfl, rfl⟩ := hrel
  go_wp2
  go_end0
  exact ⟨rfl, Below.refl _ _⟩
theorem zGc (q : Nat) (w : World) :
  Calls Tryz.prog 204 #[.slice none 0 0, .int .i64 0, cmpFn q] w (zIF w) := by
 have HI := hid (fun w' => zGG q w')
 go_enter Tryz.func204, Tryz.ntmps204
 go_upto_region 2 with fail
 go_loopw [7, 8] (fun av_ bv wr => av_ = .int .i64 0 ∧ bv = .int .i64 20 ∧ wr = w) (fun av_ _ _ => 0)
 case atStart => exact ⟨rfl, rfl, rfl⟩
 case round =>
  obtain ⟨rfl, rfl, rfl⟩ := hrel
  go_wp2_with fail
  refine (HI.out _).mono ?_
  rintro ee w1 ⟨rfl, hb1⟩
  have HB1 := hid hb1
  clear hb1
  go_upto_region 7 with fail
  go_loopw [6] (fun sv_ wr => sv_ = .int .i64 20 ∧ wr = w1) (fun _ _ => 0)
  case atStart => exact ⟨rfl, rfl⟩
  case round =>
   obtain ⟨rfl, rfl⟩ := hrel
   go_wp2_with fail
   go_end0
   exact ⟨rfl, HB1.out⟩
theorem zIN (q : Nat) (w : World) :
  Calls Tryz.prog 194 #[.slice none 0 0, cmpFn q] w (zIF w) := by
 have HS := hid (zGc q w)
 go_enter Tryz.func194, Tryz.ntmps194
 go_wp2_with fail
 refine HS.out.mono ?_
 clear HS
 rintro ee w1 ⟨rfl, hb1⟩
 go_wp2_with fail
 go_end0
 exact ⟨rfl, hb1⟩
end Go.Proofs.YtaemlplcjjbamaaGreatDoor
namespace Go.Proofs.YtaemlplcjjbamaaGreatDoor
open Go.Lib (hid)
set_option maxRecDepth 100000
set_option maxHeartbeats 8000000
open Go Go.RowKit
set_option linter.unusedVariables false
def zEf (w : World) (g n : Nat) (f : Nat → Nat) : Prop := ∀ j, j < n → w.cell? ⟨g, j, none⟩ = some (.int .i64 (f j : Int))
def BinSays (n : Nat) (w : World) (e : Ending) (w' : World) : Prop := ∃ (i : Nat) (b : Bool), e = .returned (.tuple #[.int .i64 (i : Int), .bool b]) ∧ i ≤ n ∧ w' = w
theorem isNaN_any (x : Nat) (w : World) : Calls Tryz.prog 169 #[.int .i64 (x : Int)] w fun e w' => e = .returned (.bool false) ∧ w' = w := by
 have h : ((x : Int) != (x : Int)) = false := by simp
 go_enter Tryz.func169, Tryz.ntmps169
 go_wp2
 go_ret
 exact ⟨by simp, rfl⟩
theorem isNaN2_any (x : Nat) (w : World) : Calls Tryz.prog 213 #[.int .i64 (x : Int)] w fun e w' => e = .returned (.bool false) ∧ w' = w := by
 have h : ((x : Int) != (x : Int)) = false := by simp
 go_enter Tryz.func213, Tryz.ntmps213
 go_wp2
 go_ret
 exact ⟨by simp, rfl⟩
theorem less_any (x y : Nat) (w : World) : Calls Tryz.prog 146 #[.int .i64 (x : Int), .int .i64 (y : Int)] w fun e w' => e = .returned (.bool (decide (x < y))) ∧ w' = w := by
 have H1 := hid (isNaN_any x w)
 go_enter Tryz.func146, Tryz.ntmps146
 go_wp2_with fail
 refine H1.out.mono ?_
 rintro e w1 ⟨rfl, rfl⟩
 go_wp2_with fail
 go_ret
 exact ⟨by simp, rfl⟩
theorem bin_any (g n cp x : Nat) (p : Option Addr) (f : Nat → Nat) (w : World) (h : zEf w g n f) (hn : n ≤ 1048576) (hp : 0 < n → p = some ⟨g, 0, none⟩) :
  Calls Tryz.prog 205 #[.slice p n cp, .int .i64 (x : Int)] w (BinSays n w) := by
 have H := hid h
 have HL := hid (fun y w' => less_any y x w')
 have HP := hid hp
 clear h hp
 go_enter Tryz.func205, Tryz.ntmps205
 go_upto_region 3 with fail
 go_loopw [7, 8] (fun iv_ jv wr => ∃ i j : Nat, iv_ = .int .i64 (i : Int) ∧ jv = .int .i64 (j : Int) ∧ i ≤ j ∧ j ≤ n ∧ wr = w) (fun iv_ jv _ => (intOf jv).toNat - (intOf iv_).toNat)
 case atStart => exact ⟨0, n, rfl, rfl, Nat.zero_le _, Nat.le_refl _, rfl⟩
 case round =>
  obtain ⟨i, j, rfl, rfl, hij, hj, rfl⟩ := hrel
  by_cases hlt : i < j
  ·obtain ⟨e, he⟩ : ∃ e, e = (i + j) / 2 := ⟨_, rfl⟩
   have he1 := zFb hlt
   rw [← he] at he1
   obtain ⟨he1, he2⟩ := he1
   have hhalf : ((i : Int) + (j : Int)) / 2 = (e : Int) := by omega
   have hen : e < n := by omega
   clear he
   have e1 := H.out e hen
   have hp1 := HP.out (by omega)
   subst hp1
   generalize f e = y at e1
   go_wp2_with fail
   refine (HL.out y _).mono ?_
   rintro ee w1 ⟨rfl, rfl⟩
   by_cases hyx : y < x
   ·rw [decide_eq_true hyx]
    go_wp2_with fail
    go_roundw
    case rel => exact ⟨e + 1, j, by go_num, rfl, by omega, hj, by trivial⟩
    case measure => simp [intOf]; omega
   ·rw [decide_eq_false hyx]
    go_wp2_with fail
    go_roundw
    case rel => exact ⟨i, e, rfl, rfl, by omega, by omega, by trivial⟩
    case measure => simp [intOf]; omega
  ·have hji : j = i := by omega
   subst hji
   by_cases hjn : j < n
   ·have e1 := H.out j hjn
    have hp1 := HP.out (by omega)
    subst hp1
    generalize f j = y at e1
    have HI := hid (fun w' => isNaN2_any y w')
    by_cases hyx : y = x
    ·subst hyx
     go_wp2_with fail
     go_ret2
     exact ⟨j, _, rfl, hj, rfl⟩
    ·have hne : ((y : Int) == (x : Int)) = false := by rw [beq_eq_false_iff_ne]; omega
     go_wp2_with fail
     refine (HI.out _).mono ?_
     rintro ee w1 ⟨rfl, rfl⟩
     go_wp2_with fail
     go_ret2
     exact ⟨j, _, rfl, hj, rfl⟩
   ·go_wp2_with fail
    go_ret2
    exact ⟨j, _, rfl, hj, rfl⟩
end Go.Proofs.YtaemlplcjjbamaaGreatDoor
