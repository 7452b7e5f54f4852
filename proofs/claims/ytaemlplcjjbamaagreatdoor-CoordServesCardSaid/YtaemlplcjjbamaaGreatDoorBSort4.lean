/- slices.symMergeCmpFunc at []int, weakly: its general case, and the whole by induction on the span. Printed by wip/tools/mksym.py. Condition: the sizes. -/
import Derived.Test.YtaemlplcjjbamaaGreatDoorBSort3
namespace Go.Proofs.YtaemlplcjjbamaaGreatDoor
open Go Go.RowKit
set_option linter.unusedVariables false
def SymGood (g n m q cp : Nat) (wf : Nat → Nat) (s : Nat) : Prop := ∀ (a c b : Nat) (w : World), b - a < s → RowIn w g n m → CmpAt g q m wf w → a < c → c < b → b ≤ n →
    Calls Tryz.prog 212 #[.slice (some ⟨g, 0, none⟩) n cp, .int .i64 (a : Int), .int .i64 (c : Int), .int .i64 (b : Int), cmpFn q] w (SortSays g n m q wf w)
set_option maxRecDepth 100000 in
set_option maxHeartbeats 16000000 in
theorem symHi_any (g n m q cp a c b : Nat) (wf : Nat → Nat) (w : World) (ih : SymGood g n m q cp wf (b - a)) (h : RowIn w g n m) (hc : CmpAt g q m wf w) (hwf : ∀ j, wf j < 4294967296) (hm : m ≤ 1048576) (hac : a + 1 < c) (hcb : c + 1 < b) (hb : b ≤ n) (hn : n ≤ 1048576) (hside : (a + b) / 2 < c) :
    Calls Tryz.prog 212 #[.slice (some ⟨g, 0, none⟩) n cp, .int .i64 (a : Int), .int .i64 (c : Int), .int .i64 (b : Int), cmpFn q] w (SortSays g n m q wf w) := by
  obtain ⟨mid, hmd⟩ : ∃ mid, mid = (a + b) / 2 := ⟨_, rfl⟩
  rw [← hmd] at hside
  obtain ⟨N, hN⟩ : ∃ N, N = mid + c := ⟨_, rfl⟩
  obtain ⟨pp, hpp⟩ : ∃ pp, pp = N - 1 := ⟨_, rfl⟩
  obtain ⟨s0, hs0⟩ : ∃ s0, s0 = N - b := ⟨_, rfl⟩
  obtain ⟨d1, hd1⟩ : ∃ d1, d1 = c - a := ⟨_, rfl⟩
  obtain ⟨d2, hd2⟩ : ∃ d2, d2 = b - c := ⟨_, rfl⟩
  have i1 : (c : Int) - (a : Int) = (d1 : Int) := by omega
  have i2 : (b : Int) - (c : Int) = (d2 : Int) := by omega
  have i3 : ((d1 : Int) == 1) = false := by rw [beq_eq_false_iff_ne]; omega
  have i4 : ((d2 : Int) == 1) = false := by rw [beq_eq_false_iff_ne]; omega
  have i5 : ((a : Int) + (b : Int)) / 2 = (mid : Int) := by omega
  have i6 : (mid : Int) + (c : Int) = (N : Int) := by omega
  have i7 : (N : Int) - 1 = (pp : Int) := by omega
  have i8 : (N : Int) - (b : Int) = (s0 : Int) := by omega
  have F := Lib.hid (show a ≤ s0 ∧ s0 ≤ mid ∧ mid ≤ mid ∧ mid ≤ c ∧ N ≤ s0 + b ∧ a < mid ∧ mid < b ∧ N = mid + c ∧ pp = N - 1 by omega)
  have hNn : N ≤ 2097152 := by omega
  have hmn : mid ≤ 1048576 := by omega
  have H := Lib.hid h
  have HC := Lib.hid hc
  have Hwf := Lib.hid hwf
  have IH := Lib.hid ih
  have Hac := Lib.hid hac
  have Hcb := Lib.hid hcb
  clear h hc hwf ih hmd hN hpp hd1 hd2 hs0
  unfold cmpFn
  go_enter Tryz.func212, Tryz.ntmps212
  go_upto_region 33 with fail
  go_loopw [20, 21] (fun iv_ jv wr => ∃ i j : Nat, iv_ = .int .i64 (i : Int) ∧ jv = .int .i64 (j : Int) ∧ s0 ≤ i ∧ i ≤ j ∧ j ≤ mid ∧ Hid (RowIn wr g n m) ∧ Hid (Touch (fun k => k = g) w wr)) (fun iv_ jv _ => (intOf jv).toNat - (intOf iv_).toNat)
  case atStart => exact ⟨_, _, rfl, rfl, Nat.le_refl _, F.out.2.1, Nat.le_refl _, H, Lib.hid (Touch.refl _ _)⟩
  case round =>
    obtain ⟨i, j, rfl, rfl, hi, hij, hj, HR, HT⟩ := hrel
    clear H
    by_cases hlt : i < j
    · obtain ⟨e, he⟩ : ∃ e, e = (i + j) / 2 := ⟨_, rfl⟩
      have he1 := half_lt hlt
      rw [← he] at he1
      obtain ⟨he1, he2⟩ := he1
      have hhalf : ((i : Int) + (j : Int)) / 2 = (e : Int) := by omega
      have hen : e < n := by have := F.out; omega
      obtain ⟨y1, hy1⟩ : ∃ y1, y1 = pp - e := ⟨_, rfl⟩
      have i9 : (pp : Int) - (e : Int) = (y1 : Int) := by have := F.out; omega
      have hyn : y1 < n := by have := F.out; omega
      have hj2 : j ≤ 1048576 := by have := F.out; omega
      clear hy1 he
      obtain ⟨x, hx, e1⟩ := HR.out.at hyn
      obtain ⟨y, hy, e2⟩ := HR.out.at hen
      have HCm := Lib.hid (fun k => cmp_any g q m x y wf (wr.drewN k) ((HC.out.touch HT.out).touch ((Touch.refl _ wr).drewN k)) Hwf.out hx hy hm)
      go_upto_region 35 with fail
      go_quiet ((go_at_call 195; exact quiet_plus (HCm.out _)))
      obtain ⟨ws, hws⟩ : ∃ ws, ws = wr.drewN nq := ⟨_, rfl⟩
      have HR3 := Lib.hid (show RowIn ws g n m by rw [hws]; exact HR.out.drewN nq)
      have HT3 := Lib.hid (show Touch (fun k => k = g) w ws by rw [hws]; exact HT.out.trans ((Touch.refl _ _).drewN nq))
      rw [← hws]
      clear hws HCm HR HT e1 e2
      by_cases hcm : ((wf x : Int) - (wf y : Int) < 0)
      · rw [decide_eq_true hcm]
        go_wp2_with fail
        go_roundw
        case rel => exact ⟨i, e, rfl, rfl, hi, by omega, by omega, HR3, HT3⟩
        case measure => simp [intOf]; omega
      · rw [decide_eq_false hcm]
        go_wp2_with fail
        go_roundw
        case rel => exact ⟨e + 1, j, by go_num, rfl, by omega, by omega, hj, HR3, HT3⟩
        case measure => simp [intOf]; omega
    · obtain ⟨z, hz⟩ : ∃ z, z = N - i := ⟨_, rfl⟩
      have i9 : (N : Int) - (i : Int) = (z : Int) := by have := F.out; omega
      have hj2 : j ≤ 1048576 := by have := F.out; omega
      have hzb : z ≤ b := by have := F.out; omega
      clear hz
      by_cases h1 : i < c
      · by_cases h2 : c < z
        · skip
          by_cases h3 : a < i
          · by_cases h4 : i < mid
            · skip
              by_cases h5 : mid < z
              · by_cases h6 : z < b
                · skip
                  have HS1 := Lib.hid (rotate_any g n m q cp i c z wf wr HR.out h1 h2 (by omega) hn)
                  unfold cmpFn at HS1
                  go_wp2_with fail
                  refine HS1.out.mono ?_
                  clear HS1
                  rintro ee w1 ⟨rfl, hR1, hT1⟩
                  have HR1' := Lib.hid hR1
                  have HT1' := Lib.hid (HT.out.trans hT1)
                  clear hR1 hT1 HR HT
                  have HS2 := Lib.hid (IH.out a i mid w1 (by have := F.out; omega) HR1'.out (HC.out.touch HT1'.out) h3 h4 (by have := F.out; omega))
                  unfold cmpFn at HS2
                  go_wp2_with fail
                  refine HS2.out.mono ?_
                  clear HS2
                  rintro ee w2 ⟨rfl, hR2, hT2⟩
                  have HR2' := Lib.hid hR2
                  have HT2' := Lib.hid (HT1'.out.trans hT2)
                  clear hR2 hT2 HR1' HT1'
                  have HS3 := Lib.hid (IH.out mid z b w2 (by have := F.out; omega) HR2'.out (HC.out.touch HT2'.out) h5 h6 (by have := F.out; omega))
                  unfold cmpFn at HS3
                  go_wp2_with fail
                  refine HS3.out.mono ?_
                  clear HS3
                  rintro ee w3 ⟨rfl, hR3, hT3⟩
                  have HR3' := Lib.hid hR3
                  have HT3' := Lib.hid (HT2'.out.trans hT3)
                  clear hR3 hT3 HR2' HT2'
                  go_wp2_with fail
                  go_end0
                  exact ⟨rfl, HR3'.out, HT3'.out⟩
                · skip
                  have HS1 := Lib.hid (rotate_any g n m q cp i c z wf wr HR.out h1 h2 (by omega) hn)
                  unfold cmpFn at HS1
                  go_wp2_with fail
                  refine HS1.out.mono ?_
                  clear HS1
                  rintro ee w1 ⟨rfl, hR1, hT1⟩
                  have HR1' := Lib.hid hR1
                  have HT1' := Lib.hid (HT.out.trans hT1)
                  clear hR1 hT1 HR HT
                  have HS2 := Lib.hid (IH.out a i mid w1 (by have := F.out; omega) HR1'.out (HC.out.touch HT1'.out) h3 h4 (by have := F.out; omega))
                  unfold cmpFn at HS2
                  go_wp2_with fail
                  refine HS2.out.mono ?_
                  clear HS2
                  rintro ee w2 ⟨rfl, hR2, hT2⟩
                  have HR2' := Lib.hid hR2
                  have HT2' := Lib.hid (HT1'.out.trans hT2)
                  clear hR2 hT2 HR1' HT1'
                  go_wp2_with fail
                  go_end0
                  exact ⟨rfl, HR2'.out, HT2'.out⟩
              · skip
                have HS1 := Lib.hid (rotate_any g n m q cp i c z wf wr HR.out h1 h2 (by omega) hn)
                unfold cmpFn at HS1
                go_wp2_with fail
                refine HS1.out.mono ?_
                clear HS1
                rintro ee w1 ⟨rfl, hR1, hT1⟩
                have HR1' := Lib.hid hR1
                have HT1' := Lib.hid (HT.out.trans hT1)
                clear hR1 hT1 HR HT
                have HS2 := Lib.hid (IH.out a i mid w1 (by have := F.out; omega) HR1'.out (HC.out.touch HT1'.out) h3 h4 (by have := F.out; omega))
                unfold cmpFn at HS2
                go_wp2_with fail
                refine HS2.out.mono ?_
                clear HS2
                rintro ee w2 ⟨rfl, hR2, hT2⟩
                have HR2' := Lib.hid hR2
                have HT2' := Lib.hid (HT1'.out.trans hT2)
                clear hR2 hT2 HR1' HT1'
                go_wp2_with fail
                go_end0
                exact ⟨rfl, HR2'.out, HT2'.out⟩
            · skip
              by_cases h5 : mid < z
              · by_cases h6 : z < b
                · skip
                  have HS1 := Lib.hid (rotate_any g n m q cp i c z wf wr HR.out h1 h2 (by omega) hn)
                  unfold cmpFn at HS1
                  go_wp2_with fail
                  refine HS1.out.mono ?_
                  clear HS1
                  rintro ee w1 ⟨rfl, hR1, hT1⟩
                  have HR1' := Lib.hid hR1
                  have HT1' := Lib.hid (HT.out.trans hT1)
                  clear hR1 hT1 HR HT
                  have HS2 := Lib.hid (IH.out mid z b w1 (by have := F.out; omega) HR1'.out (HC.out.touch HT1'.out) h5 h6 (by have := F.out; omega))
                  unfold cmpFn at HS2
                  go_wp2_with fail
                  refine HS2.out.mono ?_
                  clear HS2
                  rintro ee w2 ⟨rfl, hR2, hT2⟩
                  have HR2' := Lib.hid hR2
                  have HT2' := Lib.hid (HT1'.out.trans hT2)
                  clear hR2 hT2 HR1' HT1'
                  go_wp2_with fail
                  go_end0
                  exact ⟨rfl, HR2'.out, HT2'.out⟩
                · skip
                  have HS1 := Lib.hid (rotate_any g n m q cp i c z wf wr HR.out h1 h2 (by omega) hn)
                  unfold cmpFn at HS1
                  go_wp2_with fail
                  refine HS1.out.mono ?_
                  clear HS1
                  rintro ee w1 ⟨rfl, hR1, hT1⟩
                  have HR1' := Lib.hid hR1
                  have HT1' := Lib.hid (HT.out.trans hT1)
                  clear hR1 hT1 HR HT
                  go_wp2_with fail
                  go_end0
                  exact ⟨rfl, HR1'.out, HT1'.out⟩
              · skip
                have HS1 := Lib.hid (rotate_any g n m q cp i c z wf wr HR.out h1 h2 (by omega) hn)
                unfold cmpFn at HS1
                go_wp2_with fail
                refine HS1.out.mono ?_
                clear HS1
                rintro ee w1 ⟨rfl, hR1, hT1⟩
                have HR1' := Lib.hid hR1
                have HT1' := Lib.hid (HT.out.trans hT1)
                clear hR1 hT1 HR HT
                go_wp2_with fail
                go_end0
                exact ⟨rfl, HR1'.out, HT1'.out⟩
          · skip
            by_cases h5 : mid < z
            · by_cases h6 : z < b
              · skip
                have HS1 := Lib.hid (rotate_any g n m q cp i c z wf wr HR.out h1 h2 (by omega) hn)
                unfold cmpFn at HS1
                go_wp2_with fail
                refine HS1.out.mono ?_
                clear HS1
                rintro ee w1 ⟨rfl, hR1, hT1⟩
                have HR1' := Lib.hid hR1
                have HT1' := Lib.hid (HT.out.trans hT1)
                clear hR1 hT1 HR HT
                have HS2 := Lib.hid (IH.out mid z b w1 (by have := F.out; omega) HR1'.out (HC.out.touch HT1'.out) h5 h6 (by have := F.out; omega))
                unfold cmpFn at HS2
                go_wp2_with fail
                refine HS2.out.mono ?_
                clear HS2
                rintro ee w2 ⟨rfl, hR2, hT2⟩
                have HR2' := Lib.hid hR2
                have HT2' := Lib.hid (HT1'.out.trans hT2)
                clear hR2 hT2 HR1' HT1'
                go_wp2_with fail
                go_end0
                exact ⟨rfl, HR2'.out, HT2'.out⟩
              · skip
                have HS1 := Lib.hid (rotate_any g n m q cp i c z wf wr HR.out h1 h2 (by omega) hn)
                unfold cmpFn at HS1
                go_wp2_with fail
                refine HS1.out.mono ?_
                clear HS1
                rintro ee w1 ⟨rfl, hR1, hT1⟩
                have HR1' := Lib.hid hR1
                have HT1' := Lib.hid (HT.out.trans hT1)
                clear hR1 hT1 HR HT
                go_wp2_with fail
                go_end0
                exact ⟨rfl, HR1'.out, HT1'.out⟩
            · skip
              have HS1 := Lib.hid (rotate_any g n m q cp i c z wf wr HR.out h1 h2 (by omega) hn)
              unfold cmpFn at HS1
              go_wp2_with fail
              refine HS1.out.mono ?_
              clear HS1
              rintro ee w1 ⟨rfl, hR1, hT1⟩
              have HR1' := Lib.hid hR1
              have HT1' := Lib.hid (HT.out.trans hT1)
              clear hR1 hT1 HR HT
              go_wp2_with fail
              go_end0
              exact ⟨rfl, HR1'.out, HT1'.out⟩
        · skip
          by_cases h3 : a < i
          · by_cases h4 : i < mid
            · skip
              by_cases h5 : mid < z
              · by_cases h6 : z < b
                · skip
                  have HS1 := Lib.hid (IH.out a i mid wr (by have := F.out; omega) HR.out (HC.out.touch HT.out) h3 h4 (by have := F.out; omega))
                  unfold cmpFn at HS1
                  go_wp2_with fail
                  refine HS1.out.mono ?_
                  clear HS1
                  rintro ee w1 ⟨rfl, hR1, hT1⟩
                  have HR1' := Lib.hid hR1
                  have HT1' := Lib.hid (HT.out.trans hT1)
                  clear hR1 hT1 HR HT
                  have HS2 := Lib.hid (IH.out mid z b w1 (by have := F.out; omega) HR1'.out (HC.out.touch HT1'.out) h5 h6 (by have := F.out; omega))
                  unfold cmpFn at HS2
                  go_wp2_with fail
                  refine HS2.out.mono ?_
                  clear HS2
                  rintro ee w2 ⟨rfl, hR2, hT2⟩
                  have HR2' := Lib.hid hR2
                  have HT2' := Lib.hid (HT1'.out.trans hT2)
                  clear hR2 hT2 HR1' HT1'
                  go_wp2_with fail
                  go_end0
                  exact ⟨rfl, HR2'.out, HT2'.out⟩
                · skip
                  have HS1 := Lib.hid (IH.out a i mid wr (by have := F.out; omega) HR.out (HC.out.touch HT.out) h3 h4 (by have := F.out; omega))
                  unfold cmpFn at HS1
                  go_wp2_with fail
                  refine HS1.out.mono ?_
                  clear HS1
                  rintro ee w1 ⟨rfl, hR1, hT1⟩
                  have HR1' := Lib.hid hR1
                  have HT1' := Lib.hid (HT.out.trans hT1)
                  clear hR1 hT1 HR HT
                  go_wp2_with fail
                  go_end0
                  exact ⟨rfl, HR1'.out, HT1'.out⟩
              · skip
                have HS1 := Lib.hid (IH.out a i mid wr (by have := F.out; omega) HR.out (HC.out.touch HT.out) h3 h4 (by have := F.out; omega))
                unfold cmpFn at HS1
                go_wp2_with fail
                refine HS1.out.mono ?_
                clear HS1
                rintro ee w1 ⟨rfl, hR1, hT1⟩
                have HR1' := Lib.hid hR1
                have HT1' := Lib.hid (HT.out.trans hT1)
                clear hR1 hT1 HR HT
                go_wp2_with fail
                go_end0
                exact ⟨rfl, HR1'.out, HT1'.out⟩
            · skip
              by_cases h5 : mid < z
              · by_cases h6 : z < b
                · skip
                  have HS1 := Lib.hid (IH.out mid z b wr (by have := F.out; omega) HR.out (HC.out.touch HT.out) h5 h6 (by have := F.out; omega))
                  unfold cmpFn at HS1
                  go_wp2_with fail
                  refine HS1.out.mono ?_
                  clear HS1
                  rintro ee w1 ⟨rfl, hR1, hT1⟩
                  have HR1' := Lib.hid hR1
                  have HT1' := Lib.hid (HT.out.trans hT1)
                  clear hR1 hT1 HR HT
                  go_wp2_with fail
                  go_end0
                  exact ⟨rfl, HR1'.out, HT1'.out⟩
                · skip
                  go_wp2_with fail
                  go_end0
                  exact ⟨rfl, HR.out, HT.out⟩
              · skip
                go_wp2_with fail
                go_end0
                exact ⟨rfl, HR.out, HT.out⟩
          · skip
            by_cases h5 : mid < z
            · by_cases h6 : z < b
              · skip
                have HS1 := Lib.hid (IH.out mid z b wr (by have := F.out; omega) HR.out (HC.out.touch HT.out) h5 h6 (by have := F.out; omega))
                unfold cmpFn at HS1
                go_wp2_with fail
                refine HS1.out.mono ?_
                clear HS1
                rintro ee w1 ⟨rfl, hR1, hT1⟩
                have HR1' := Lib.hid hR1
                have HT1' := Lib.hid (HT.out.trans hT1)
                clear hR1 hT1 HR HT
                go_wp2_with fail
                go_end0
                exact ⟨rfl, HR1'.out, HT1'.out⟩
              · skip
                go_wp2_with fail
                go_end0
                exact ⟨rfl, HR.out, HT.out⟩
            · skip
              go_wp2_with fail
              go_end0
              exact ⟨rfl, HR.out, HT.out⟩
      · skip
        by_cases h3 : a < i
        · by_cases h4 : i < mid
          · skip
            by_cases h5 : mid < z
            · by_cases h6 : z < b
              · skip
                have HS1 := Lib.hid (IH.out a i mid wr (by have := F.out; omega) HR.out (HC.out.touch HT.out) h3 h4 (by have := F.out; omega))
                unfold cmpFn at HS1
                go_wp2_with fail
                refine HS1.out.mono ?_
                clear HS1
                rintro ee w1 ⟨rfl, hR1, hT1⟩
                have HR1' := Lib.hid hR1
                have HT1' := Lib.hid (HT.out.trans hT1)
                clear hR1 hT1 HR HT
                have HS2 := Lib.hid (IH.out mid z b w1 (by have := F.out; omega) HR1'.out (HC.out.touch HT1'.out) h5 h6 (by have := F.out; omega))
                unfold cmpFn at HS2
                go_wp2_with fail
                refine HS2.out.mono ?_
                clear HS2
                rintro ee w2 ⟨rfl, hR2, hT2⟩
                have HR2' := Lib.hid hR2
                have HT2' := Lib.hid (HT1'.out.trans hT2)
                clear hR2 hT2 HR1' HT1'
                go_wp2_with fail
                go_end0
                exact ⟨rfl, HR2'.out, HT2'.out⟩
              · skip
                have HS1 := Lib.hid (IH.out a i mid wr (by have := F.out; omega) HR.out (HC.out.touch HT.out) h3 h4 (by have := F.out; omega))
                unfold cmpFn at HS1
                go_wp2_with fail
                refine HS1.out.mono ?_
                clear HS1
                rintro ee w1 ⟨rfl, hR1, hT1⟩
                have HR1' := Lib.hid hR1
                have HT1' := Lib.hid (HT.out.trans hT1)
                clear hR1 hT1 HR HT
                go_wp2_with fail
                go_end0
                exact ⟨rfl, HR1'.out, HT1'.out⟩
            · skip
              have HS1 := Lib.hid (IH.out a i mid wr (by have := F.out; omega) HR.out (HC.out.touch HT.out) h3 h4 (by have := F.out; omega))
              unfold cmpFn at HS1
              go_wp2_with fail
              refine HS1.out.mono ?_
              clear HS1
              rintro ee w1 ⟨rfl, hR1, hT1⟩
              have HR1' := Lib.hid hR1
              have HT1' := Lib.hid (HT.out.trans hT1)
              clear hR1 hT1 HR HT
              go_wp2_with fail
              go_end0
              exact ⟨rfl, HR1'.out, HT1'.out⟩
          · skip
            by_cases h5 : mid < z
            · by_cases h6 : z < b
              · skip
                have HS1 := Lib.hid (IH.out mid z b wr (by have := F.out; omega) HR.out (HC.out.touch HT.out) h5 h6 (by have := F.out; omega))
                unfold cmpFn at HS1
                go_wp2_with fail
                refine HS1.out.mono ?_
                clear HS1
                rintro ee w1 ⟨rfl, hR1, hT1⟩
                have HR1' := Lib.hid hR1
                have HT1' := Lib.hid (HT.out.trans hT1)
                clear hR1 hT1 HR HT
                go_wp2_with fail
                go_end0
                exact ⟨rfl, HR1'.out, HT1'.out⟩
              · skip
                go_wp2_with fail
                go_end0
                exact ⟨rfl, HR.out, HT.out⟩
            · skip
              go_wp2_with fail
              go_end0
              exact ⟨rfl, HR.out, HT.out⟩
        · skip
          by_cases h5 : mid < z
          · by_cases h6 : z < b
            · skip
              have HS1 := Lib.hid (IH.out mid z b wr (by have := F.out; omega) HR.out (HC.out.touch HT.out) h5 h6 (by have := F.out; omega))
              unfold cmpFn at HS1
              go_wp2_with fail
              refine HS1.out.mono ?_
              clear HS1
              rintro ee w1 ⟨rfl, hR1, hT1⟩
              have HR1' := Lib.hid hR1
              have HT1' := Lib.hid (HT.out.trans hT1)
              clear hR1 hT1 HR HT
              go_wp2_with fail
              go_end0
              exact ⟨rfl, HR1'.out, HT1'.out⟩
            · skip
              go_wp2_with fail
              go_end0
              exact ⟨rfl, HR.out, HT.out⟩
          · skip
            go_wp2_with fail
            go_end0
            exact ⟨rfl, HR.out, HT.out⟩
set_option maxRecDepth 100000 in
set_option maxHeartbeats 16000000 in
theorem symLo_any (g n m q cp a c b : Nat) (wf : Nat → Nat) (w : World) (ih : SymGood g n m q cp wf (b - a)) (h : RowIn w g n m) (hc : CmpAt g q m wf w) (hwf : ∀ j, wf j < 4294967296) (hm : m ≤ 1048576) (hac : a + 1 < c) (hcb : c + 1 < b) (hb : b ≤ n) (hn : n ≤ 1048576) (hside : c ≤ (a + b) / 2) :
    Calls Tryz.prog 212 #[.slice (some ⟨g, 0, none⟩) n cp, .int .i64 (a : Int), .int .i64 (c : Int), .int .i64 (b : Int), cmpFn q] w (SortSays g n m q wf w) := by
  obtain ⟨mid, hmd⟩ : ∃ mid, mid = (a + b) / 2 := ⟨_, rfl⟩
  rw [← hmd] at hside
  obtain ⟨N, hN⟩ : ∃ N, N = mid + c := ⟨_, rfl⟩
  obtain ⟨pp, hpp⟩ : ∃ pp, pp = N - 1 := ⟨_, rfl⟩
  skip
  obtain ⟨d1, hd1⟩ : ∃ d1, d1 = c - a := ⟨_, rfl⟩
  obtain ⟨d2, hd2⟩ : ∃ d2, d2 = b - c := ⟨_, rfl⟩
  have i1 : (c : Int) - (a : Int) = (d1 : Int) := by omega
  have i2 : (b : Int) - (c : Int) = (d2 : Int) := by omega
  have i3 : ((d1 : Int) == 1) = false := by rw [beq_eq_false_iff_ne]; omega
  have i4 : ((d2 : Int) == 1) = false := by rw [beq_eq_false_iff_ne]; omega
  have i5 : ((a : Int) + (b : Int)) / 2 = (mid : Int) := by omega
  have i6 : (mid : Int) + (c : Int) = (N : Int) := by omega
  have i7 : (N : Int) - 1 = (pp : Int) := by omega
  skip
  have F := Lib.hid (show a ≤ a ∧ a ≤ c ∧ c ≤ mid ∧ c ≤ c ∧ N ≤ a + b ∧ a < mid ∧ mid < b ∧ N = mid + c ∧ pp = N - 1 by omega)
  have hNn : N ≤ 2097152 := by omega
  have hmn : mid ≤ 1048576 := by omega
  have H := Lib.hid h
  have HC := Lib.hid hc
  have Hwf := Lib.hid hwf
  have IH := Lib.hid ih
  have Hac := Lib.hid hac
  have Hcb := Lib.hid hcb
  clear h hc hwf ih hmd hN hpp hd1 hd2 
  unfold cmpFn
  go_enter Tryz.func212, Tryz.ntmps212
  go_upto_region 33 with fail
  go_loopw [20, 21] (fun iv_ jv wr => ∃ i j : Nat, iv_ = .int .i64 (i : Int) ∧ jv = .int .i64 (j : Int) ∧ a ≤ i ∧ i ≤ j ∧ j ≤ c ∧ Hid (RowIn wr g n m) ∧ Hid (Touch (fun k => k = g) w wr)) (fun iv_ jv _ => (intOf jv).toNat - (intOf iv_).toNat)
  case atStart => exact ⟨_, _, rfl, rfl, Nat.le_refl _, F.out.2.1, Nat.le_refl _, H, Lib.hid (Touch.refl _ _)⟩
  case round =>
    obtain ⟨i, j, rfl, rfl, hi, hij, hj, HR, HT⟩ := hrel
    clear H
    by_cases hlt : i < j
    · obtain ⟨e, he⟩ : ∃ e, e = (i + j) / 2 := ⟨_, rfl⟩
      have he1 := half_lt hlt
      rw [← he] at he1
      obtain ⟨he1, he2⟩ := he1
      have hhalf : ((i : Int) + (j : Int)) / 2 = (e : Int) := by omega
      have hen : e < n := by have := F.out; omega
      obtain ⟨y1, hy1⟩ : ∃ y1, y1 = pp - e := ⟨_, rfl⟩
      have i9 : (pp : Int) - (e : Int) = (y1 : Int) := by have := F.out; omega
      have hyn : y1 < n := by have := F.out; omega
      have hj2 : j ≤ 1048576 := by have := F.out; omega
      clear hy1 he
      obtain ⟨x, hx, e1⟩ := HR.out.at hyn
      obtain ⟨y, hy, e2⟩ := HR.out.at hen
      have HCm := Lib.hid (fun k => cmp_any g q m x y wf (wr.drewN k) ((HC.out.touch HT.out).touch ((Touch.refl _ wr).drewN k)) Hwf.out hx hy hm)
      go_upto_region 35 with fail
      go_quiet ((go_at_call 195; exact quiet_plus (HCm.out _)))
      obtain ⟨ws, hws⟩ : ∃ ws, ws = wr.drewN nq := ⟨_, rfl⟩
      have HR3 := Lib.hid (show RowIn ws g n m by rw [hws]; exact HR.out.drewN nq)
      have HT3 := Lib.hid (show Touch (fun k => k = g) w ws by rw [hws]; exact HT.out.trans ((Touch.refl _ _).drewN nq))
      rw [← hws]
      clear hws HCm HR HT e1 e2
      by_cases hcm : ((wf x : Int) - (wf y : Int) < 0)
      · rw [decide_eq_true hcm]
        go_wp2_with fail
        go_roundw
        case rel => exact ⟨i, e, rfl, rfl, hi, by omega, by omega, HR3, HT3⟩
        case measure => simp [intOf]; omega
      · rw [decide_eq_false hcm]
        go_wp2_with fail
        go_roundw
        case rel => exact ⟨e + 1, j, by go_num, rfl, by omega, by omega, hj, HR3, HT3⟩
        case measure => simp [intOf]; omega
    · obtain ⟨z, hz⟩ : ∃ z, z = N - i := ⟨_, rfl⟩
      have i9 : (N : Int) - (i : Int) = (z : Int) := by have := F.out; omega
      have hj2 : j ≤ 1048576 := by have := F.out; omega
      have hzb : z ≤ b := by have := F.out; omega
      clear hz
      by_cases h1 : i < c
      · by_cases h2 : c < z
        · skip
          by_cases h3 : a < i
          · by_cases h4 : i < mid
            · skip
              by_cases h5 : mid < z
              · by_cases h6 : z < b
                · skip
                  have HS1 := Lib.hid (rotate_any g n m q cp i c z wf wr HR.out h1 h2 (by omega) hn)
                  unfold cmpFn at HS1
                  go_wp2_with fail
                  refine HS1.out.mono ?_
                  clear HS1
                  rintro ee w1 ⟨rfl, hR1, hT1⟩
                  have HR1' := Lib.hid hR1
                  have HT1' := Lib.hid (HT.out.trans hT1)
                  clear hR1 hT1 HR HT
                  have HS2 := Lib.hid (IH.out a i mid w1 (by have := F.out; omega) HR1'.out (HC.out.touch HT1'.out) h3 h4 (by have := F.out; omega))
                  unfold cmpFn at HS2
                  go_wp2_with fail
                  refine HS2.out.mono ?_
                  clear HS2
                  rintro ee w2 ⟨rfl, hR2, hT2⟩
                  have HR2' := Lib.hid hR2
                  have HT2' := Lib.hid (HT1'.out.trans hT2)
                  clear hR2 hT2 HR1' HT1'
                  have HS3 := Lib.hid (IH.out mid z b w2 (by have := F.out; omega) HR2'.out (HC.out.touch HT2'.out) h5 h6 (by have := F.out; omega))
                  unfold cmpFn at HS3
                  go_wp2_with fail
                  refine HS3.out.mono ?_
                  clear HS3
                  rintro ee w3 ⟨rfl, hR3, hT3⟩
                  have HR3' := Lib.hid hR3
                  have HT3' := Lib.hid (HT2'.out.trans hT3)
                  clear hR3 hT3 HR2' HT2'
                  go_wp2_with fail
                  go_end0
                  exact ⟨rfl, HR3'.out, HT3'.out⟩
                · skip
                  have HS1 := Lib.hid (rotate_any g n m q cp i c z wf wr HR.out h1 h2 (by omega) hn)
                  unfold cmpFn at HS1
                  go_wp2_with fail
                  refine HS1.out.mono ?_
                  clear HS1
                  rintro ee w1 ⟨rfl, hR1, hT1⟩
                  have HR1' := Lib.hid hR1
                  have HT1' := Lib.hid (HT.out.trans hT1)
                  clear hR1 hT1 HR HT
                  have HS2 := Lib.hid (IH.out a i mid w1 (by have := F.out; omega) HR1'.out (HC.out.touch HT1'.out) h3 h4 (by have := F.out; omega))
                  unfold cmpFn at HS2
                  go_wp2_with fail
                  refine HS2.out.mono ?_
                  clear HS2
                  rintro ee w2 ⟨rfl, hR2, hT2⟩
                  have HR2' := Lib.hid hR2
                  have HT2' := Lib.hid (HT1'.out.trans hT2)
                  clear hR2 hT2 HR1' HT1'
                  go_wp2_with fail
                  go_end0
                  exact ⟨rfl, HR2'.out, HT2'.out⟩
              · skip
                have HS1 := Lib.hid (rotate_any g n m q cp i c z wf wr HR.out h1 h2 (by omega) hn)
                unfold cmpFn at HS1
                go_wp2_with fail
                refine HS1.out.mono ?_
                clear HS1
                rintro ee w1 ⟨rfl, hR1, hT1⟩
                have HR1' := Lib.hid hR1
                have HT1' := Lib.hid (HT.out.trans hT1)
                clear hR1 hT1 HR HT
                have HS2 := Lib.hid (IH.out a i mid w1 (by have := F.out; omega) HR1'.out (HC.out.touch HT1'.out) h3 h4 (by have := F.out; omega))
                unfold cmpFn at HS2
                go_wp2_with fail
                refine HS2.out.mono ?_
                clear HS2
                rintro ee w2 ⟨rfl, hR2, hT2⟩
                have HR2' := Lib.hid hR2
                have HT2' := Lib.hid (HT1'.out.trans hT2)
                clear hR2 hT2 HR1' HT1'
                go_wp2_with fail
                go_end0
                exact ⟨rfl, HR2'.out, HT2'.out⟩
            · skip
              by_cases h5 : mid < z
              · by_cases h6 : z < b
                · skip
                  have HS1 := Lib.hid (rotate_any g n m q cp i c z wf wr HR.out h1 h2 (by omega) hn)
                  unfold cmpFn at HS1
                  go_wp2_with fail
                  refine HS1.out.mono ?_
                  clear HS1
                  rintro ee w1 ⟨rfl, hR1, hT1⟩
                  have HR1' := Lib.hid hR1
                  have HT1' := Lib.hid (HT.out.trans hT1)
                  clear hR1 hT1 HR HT
                  have HS2 := Lib.hid (IH.out mid z b w1 (by have := F.out; omega) HR1'.out (HC.out.touch HT1'.out) h5 h6 (by have := F.out; omega))
                  unfold cmpFn at HS2
                  go_wp2_with fail
                  refine HS2.out.mono ?_
                  clear HS2
                  rintro ee w2 ⟨rfl, hR2, hT2⟩
                  have HR2' := Lib.hid hR2
                  have HT2' := Lib.hid (HT1'.out.trans hT2)
                  clear hR2 hT2 HR1' HT1'
                  go_wp2_with fail
                  go_end0
                  exact ⟨rfl, HR2'.out, HT2'.out⟩
                · skip
                  have HS1 := Lib.hid (rotate_any g n m q cp i c z wf wr HR.out h1 h2 (by omega) hn)
                  unfold cmpFn at HS1
                  go_wp2_with fail
                  refine HS1.out.mono ?_
                  clear HS1
                  rintro ee w1 ⟨rfl, hR1, hT1⟩
                  have HR1' := Lib.hid hR1
                  have HT1' := Lib.hid (HT.out.trans hT1)
                  clear hR1 hT1 HR HT
                  go_wp2_with fail
                  go_end0
                  exact ⟨rfl, HR1'.out, HT1'.out⟩
              · skip
                have HS1 := Lib.hid (rotate_any g n m q cp i c z wf wr HR.out h1 h2 (by omega) hn)
                unfold cmpFn at HS1
                go_wp2_with fail
                refine HS1.out.mono ?_
                clear HS1
                rintro ee w1 ⟨rfl, hR1, hT1⟩
                have HR1' := Lib.hid hR1
                have HT1' := Lib.hid (HT.out.trans hT1)
                clear hR1 hT1 HR HT
                go_wp2_with fail
                go_end0
                exact ⟨rfl, HR1'.out, HT1'.out⟩
          · skip
            by_cases h5 : mid < z
            · by_cases h6 : z < b
              · skip
                have HS1 := Lib.hid (rotate_any g n m q cp i c z wf wr HR.out h1 h2 (by omega) hn)
                unfold cmpFn at HS1
                go_wp2_with fail
                refine HS1.out.mono ?_
                clear HS1
                rintro ee w1 ⟨rfl, hR1, hT1⟩
                have HR1' := Lib.hid hR1
                have HT1' := Lib.hid (HT.out.trans hT1)
                clear hR1 hT1 HR HT
                have HS2 := Lib.hid (IH.out mid z b w1 (by have := F.out; omega) HR1'.out (HC.out.touch HT1'.out) h5 h6 (by have := F.out; omega))
                unfold cmpFn at HS2
                go_wp2_with fail
                refine HS2.out.mono ?_
                clear HS2
                rintro ee w2 ⟨rfl, hR2, hT2⟩
                have HR2' := Lib.hid hR2
                have HT2' := Lib.hid (HT1'.out.trans hT2)
                clear hR2 hT2 HR1' HT1'
                go_wp2_with fail
                go_end0
                exact ⟨rfl, HR2'.out, HT2'.out⟩
              · skip
                have HS1 := Lib.hid (rotate_any g n m q cp i c z wf wr HR.out h1 h2 (by omega) hn)
                unfold cmpFn at HS1
                go_wp2_with fail
                refine HS1.out.mono ?_
                clear HS1
                rintro ee w1 ⟨rfl, hR1, hT1⟩
                have HR1' := Lib.hid hR1
                have HT1' := Lib.hid (HT.out.trans hT1)
                clear hR1 hT1 HR HT
                go_wp2_with fail
                go_end0
                exact ⟨rfl, HR1'.out, HT1'.out⟩
            · skip
              have HS1 := Lib.hid (rotate_any g n m q cp i c z wf wr HR.out h1 h2 (by omega) hn)
              unfold cmpFn at HS1
              go_wp2_with fail
              refine HS1.out.mono ?_
              clear HS1
              rintro ee w1 ⟨rfl, hR1, hT1⟩
              have HR1' := Lib.hid hR1
              have HT1' := Lib.hid (HT.out.trans hT1)
              clear hR1 hT1 HR HT
              go_wp2_with fail
              go_end0
              exact ⟨rfl, HR1'.out, HT1'.out⟩
        · skip
          by_cases h3 : a < i
          · by_cases h4 : i < mid
            · skip
              by_cases h5 : mid < z
              · by_cases h6 : z < b
                · skip
                  have HS1 := Lib.hid (IH.out a i mid wr (by have := F.out; omega) HR.out (HC.out.touch HT.out) h3 h4 (by have := F.out; omega))
                  unfold cmpFn at HS1
                  go_wp2_with fail
                  refine HS1.out.mono ?_
                  clear HS1
                  rintro ee w1 ⟨rfl, hR1, hT1⟩
                  have HR1' := Lib.hid hR1
                  have HT1' := Lib.hid (HT.out.trans hT1)
                  clear hR1 hT1 HR HT
                  have HS2 := Lib.hid (IH.out mid z b w1 (by have := F.out; omega) HR1'.out (HC.out.touch HT1'.out) h5 h6 (by have := F.out; omega))
                  unfold cmpFn at HS2
                  go_wp2_with fail
                  refine HS2.out.mono ?_
                  clear HS2
                  rintro ee w2 ⟨rfl, hR2, hT2⟩
                  have HR2' := Lib.hid hR2
                  have HT2' := Lib.hid (HT1'.out.trans hT2)
                  clear hR2 hT2 HR1' HT1'
                  go_wp2_with fail
                  go_end0
                  exact ⟨rfl, HR2'.out, HT2'.out⟩
                · skip
                  have HS1 := Lib.hid (IH.out a i mid wr (by have := F.out; omega) HR.out (HC.out.touch HT.out) h3 h4 (by have := F.out; omega))
                  unfold cmpFn at HS1
                  go_wp2_with fail
                  refine HS1.out.mono ?_
                  clear HS1
                  rintro ee w1 ⟨rfl, hR1, hT1⟩
                  have HR1' := Lib.hid hR1
                  have HT1' := Lib.hid (HT.out.trans hT1)
                  clear hR1 hT1 HR HT
                  go_wp2_with fail
                  go_end0
                  exact ⟨rfl, HR1'.out, HT1'.out⟩
              · skip
                have HS1 := Lib.hid (IH.out a i mid wr (by have := F.out; omega) HR.out (HC.out.touch HT.out) h3 h4 (by have := F.out; omega))
                unfold cmpFn at HS1
                go_wp2_with fail
                refine HS1.out.mono ?_
                clear HS1
                rintro ee w1 ⟨rfl, hR1, hT1⟩
                have HR1' := Lib.hid hR1
                have HT1' := Lib.hid (HT.out.trans hT1)
                clear hR1 hT1 HR HT
                go_wp2_with fail
                go_end0
                exact ⟨rfl, HR1'.out, HT1'.out⟩
            · skip
              by_cases h5 : mid < z
              · by_cases h6 : z < b
                · skip
                  have HS1 := Lib.hid (IH.out mid z b wr (by have := F.out; omega) HR.out (HC.out.touch HT.out) h5 h6 (by have := F.out; omega))
                  unfold cmpFn at HS1
                  go_wp2_with fail
                  refine HS1.out.mono ?_
                  clear HS1
                  rintro ee w1 ⟨rfl, hR1, hT1⟩
                  have HR1' := Lib.hid hR1
                  have HT1' := Lib.hid (HT.out.trans hT1)
                  clear hR1 hT1 HR HT
                  go_wp2_with fail
                  go_end0
                  exact ⟨rfl, HR1'.out, HT1'.out⟩
                · skip
                  go_wp2_with fail
                  go_end0
                  exact ⟨rfl, HR.out, HT.out⟩
              · skip
                go_wp2_with fail
                go_end0
                exact ⟨rfl, HR.out, HT.out⟩
          · skip
            by_cases h5 : mid < z
            · by_cases h6 : z < b
              · skip
                have HS1 := Lib.hid (IH.out mid z b wr (by have := F.out; omega) HR.out (HC.out.touch HT.out) h5 h6 (by have := F.out; omega))
                unfold cmpFn at HS1
                go_wp2_with fail
                refine HS1.out.mono ?_
                clear HS1
                rintro ee w1 ⟨rfl, hR1, hT1⟩
                have HR1' := Lib.hid hR1
                have HT1' := Lib.hid (HT.out.trans hT1)
                clear hR1 hT1 HR HT
                go_wp2_with fail
                go_end0
                exact ⟨rfl, HR1'.out, HT1'.out⟩
              · skip
                go_wp2_with fail
                go_end0
                exact ⟨rfl, HR.out, HT.out⟩
            · skip
              go_wp2_with fail
              go_end0
              exact ⟨rfl, HR.out, HT.out⟩
      · skip
        by_cases h3 : a < i
        · by_cases h4 : i < mid
          · skip
            by_cases h5 : mid < z
            · by_cases h6 : z < b
              · skip
                have HS1 := Lib.hid (IH.out a i mid wr (by have := F.out; omega) HR.out (HC.out.touch HT.out) h3 h4 (by have := F.out; omega))
                unfold cmpFn at HS1
                go_wp2_with fail
                refine HS1.out.mono ?_
                clear HS1
                rintro ee w1 ⟨rfl, hR1, hT1⟩
                have HR1' := Lib.hid hR1
                have HT1' := Lib.hid (HT.out.trans hT1)
                clear hR1 hT1 HR HT
                have HS2 := Lib.hid (IH.out mid z b w1 (by have := F.out; omega) HR1'.out (HC.out.touch HT1'.out) h5 h6 (by have := F.out; omega))
                unfold cmpFn at HS2
                go_wp2_with fail
                refine HS2.out.mono ?_
                clear HS2
                rintro ee w2 ⟨rfl, hR2, hT2⟩
                have HR2' := Lib.hid hR2
                have HT2' := Lib.hid (HT1'.out.trans hT2)
                clear hR2 hT2 HR1' HT1'
                go_wp2_with fail
                go_end0
                exact ⟨rfl, HR2'.out, HT2'.out⟩
              · skip
                have HS1 := Lib.hid (IH.out a i mid wr (by have := F.out; omega) HR.out (HC.out.touch HT.out) h3 h4 (by have := F.out; omega))
                unfold cmpFn at HS1
                go_wp2_with fail
                refine HS1.out.mono ?_
                clear HS1
                rintro ee w1 ⟨rfl, hR1, hT1⟩
                have HR1' := Lib.hid hR1
                have HT1' := Lib.hid (HT.out.trans hT1)
                clear hR1 hT1 HR HT
                go_wp2_with fail
                go_end0
                exact ⟨rfl, HR1'.out, HT1'.out⟩
            · skip
              have HS1 := Lib.hid (IH.out a i mid wr (by have := F.out; omega) HR.out (HC.out.touch HT.out) h3 h4 (by have := F.out; omega))
              unfold cmpFn at HS1
              go_wp2_with fail
              refine HS1.out.mono ?_
              clear HS1
              rintro ee w1 ⟨rfl, hR1, hT1⟩
              have HR1' := Lib.hid hR1
              have HT1' := Lib.hid (HT.out.trans hT1)
              clear hR1 hT1 HR HT
              go_wp2_with fail
              go_end0
              exact ⟨rfl, HR1'.out, HT1'.out⟩
          · skip
            by_cases h5 : mid < z
            · by_cases h6 : z < b
              · skip
                have HS1 := Lib.hid (IH.out mid z b wr (by have := F.out; omega) HR.out (HC.out.touch HT.out) h5 h6 (by have := F.out; omega))
                unfold cmpFn at HS1
                go_wp2_with fail
                refine HS1.out.mono ?_
                clear HS1
                rintro ee w1 ⟨rfl, hR1, hT1⟩
                have HR1' := Lib.hid hR1
                have HT1' := Lib.hid (HT.out.trans hT1)
                clear hR1 hT1 HR HT
                go_wp2_with fail
                go_end0
                exact ⟨rfl, HR1'.out, HT1'.out⟩
              · skip
                go_wp2_with fail
                go_end0
                exact ⟨rfl, HR.out, HT.out⟩
            · skip
              go_wp2_with fail
              go_end0
              exact ⟨rfl, HR.out, HT.out⟩
        · skip
          by_cases h5 : mid < z
          · by_cases h6 : z < b
            · skip
              have HS1 := Lib.hid (IH.out mid z b wr (by have := F.out; omega) HR.out (HC.out.touch HT.out) h5 h6 (by have := F.out; omega))
              unfold cmpFn at HS1
              go_wp2_with fail
              refine HS1.out.mono ?_
              clear HS1
              rintro ee w1 ⟨rfl, hR1, hT1⟩
              have HR1' := Lib.hid hR1
              have HT1' := Lib.hid (HT.out.trans hT1)
              clear hR1 hT1 HR HT
              go_wp2_with fail
              go_end0
              exact ⟨rfl, HR1'.out, HT1'.out⟩
            · skip
              go_wp2_with fail
              go_end0
              exact ⟨rfl, HR.out, HT.out⟩
          · skip
            go_wp2_with fail
            go_end0
            exact ⟨rfl, HR.out, HT.out⟩
theorem symMerge_any (g n m q cp : Nat) (wf : Nat → Nat) (hwf : ∀ j, wf j < 4294967296) (hm : m ≤ 1048576) (hn : n ≤ 1048576) : ∀ s, SymGood g n m q cp wf s := by
  intro s
  induction s with
  | zero => intro a c b w h; omega
  | succ s ih =>
    intro a c b w hs h hc h1 h2 hb
    have ih' : SymGood g n m q cp wf (b - a) := fun a' c' b' w' hs' => ih a' c' b' w' (by omega)
    by_cases e1 : c = a + 1
    · subst e1
      exact symA_any g n m q cp a b wf w h hc hwf hm h2 hb hn
    · by_cases e2 : b = c + 1
      · exact symB_any g n m q cp a b wf w h hc hwf hm c (by omega) e2 hb hn
      · by_cases e3 : (a + b) / 2 < c
        · exact symHi_any g n m q cp a c b wf w ih' h hc hwf hm (by omega) (by omega) hb hn e3
        · exact symLo_any g n m q cp a c b wf w ih' h hc hwf hm (by omega) (by omega) hb hn (by omega)
end Go.Proofs.YtaemlplcjjbamaaGreatDoor
