/- The walk of slices.SortStableFunc's symMerge at []int, weakl -/
import Derived.Test.YtaemlplcjjbamaaGreatDoorBSign3
import Derived.Test.YtaemlplcjjbamaaGreatDoorBFind
set_option maxRecDepth 100000
set_option maxHeartbeats 8000000
namespace Go.Proofs.YtaemlplcjjbamaaGreatDoor
open Go.Lib (hid)
open Go Go.RowKit
set_option linter.unusedVariables false
def RowIn (w : World) (g n m : Nat) : Prop := ∃ cs : List Value, Blk w g cs 3 ∧ n ≤ cs.length ∧ ∀ j, j < n → ∃ z : Nat, z < m ∧ cs[j]? = some (.int .i64 (z : Int))
theorem RowIn.at {w : World} {g n m : Nat} (h : RowIn w g n m) {j : Nat} (hj : j < n) : ∃ z : Nat, z < m ∧ w.cell? ⟨g, j, none⟩ = some (.int .i64 (z : Int)) := by
 obtain ⟨cs, hB, _, hc⟩ := h
 obtain ⟨z, hz, e⟩ := hc j hj
 exact ⟨z, hz, (hB.cell j).trans e⟩
theorem RowIn.free {w : World} {g n m : Nat} (h : RowIn w g n m) (j : Nat) : w.frozen? ⟨g, j, none⟩ = false := by
 obtain ⟨cs, hB, _⟩ := h
 exact hB.free j
theorem RowIn.lt {w : World} {g n m : Nat} (h : RowIn w g n m) : g < w.heap.size := by
 obtain ⟨cs, hB, _⟩ := h
 exact hB.lt
theorem RowIn.set {w : World} {g n m : Nat} (h : RowIn w g n m) {j z : Nat} (hj : j < n) (hz : z < m) : RowIn (w.setCell ⟨g, j, none⟩ (.int .i64 (z : Int))) g n m := by
 obtain ⟨cs, hB, hl, hc⟩ := h
 refine ⟨cs.set j (.int .i64 (z : Int)), hB.set j _, by rw [List.length_set]; exact hl, fun i hi => ?_⟩
 by_cases e : j = i
 ·subst e
  exact ⟨z, hz, by rw [List.getElem?_set_self (by omega)]⟩
 ·rw [List.getElem?_set_ne e]
  exact hc i hi
theorem RowIn.drewN {w : World} {g n m : Nat} (h : RowIn w g n m) (k : Nat) : RowIn (w.drewN k) g n m := by
 obtain ⟨cs, hB, h2⟩ := h
 exact ⟨cs, hB.drewN k, h2⟩
theorem RowIn.drew {w : World} {g n m : Nat} (h : RowIn w g n m) : RowIn w.drew g n m := by
 obtain ⟨cs, hB, h2⟩ := h
 exact ⟨cs, hB.drew, h2⟩
structure CmpAt (g q m : Nat) (wf : Nat → Nat) (w : World) : Prop where
 row : ∃ gw nW cW, w.cell? ⟨q, 2, none⟩ = some (.slice (some ⟨gw, 0, none⟩) nW cW) ∧ m ≤ nW ∧ (∀ j, j < m → w.cell? ⟨gw, j, none⟩ = some (.int .i64 (wf j : Int))) ∧ gw < w.heap.size ∧ gw ≠ g
 lt : q < w.heap.size
 ne : q ≠ g
theorem CmpAt.touch {g q m : Nat} {wf : Nat → Nat} {w w' : World} (h : CmpAt g q m wf w) (ht : Touch (fun k => k = g) w w') : CmpAt g q m wf w' := by
 obtain ⟨⟨gw, nW, cW, h1, h2, h3, h4, h5⟩, h6, h7⟩ := h
 exact ⟨⟨gw, nW, cW, (ht.cell (p := ⟨q, 2, none⟩) h6 h7).trans h1, h2, fun j hj => (ht.cell (p := ⟨gw, j, none⟩) h4 h5).trans (h3 j hj), Nat.lt_of_lt_of_le h4 ht.size, h5⟩, Nat.lt_of_lt_of_le h6 ht.size, h7⟩
def cmpFn (q : Nat) : Value := .func (.func 195) #[] #[.pointer (some ⟨q, 0, none⟩)]
theorem zEJ (g q m a b : Nat) (wf : Nat → Nat) (w : World) (h : CmpAt g q m wf w) (hwf : ∀ j, wf j < 4294967296) (ha : a < m) (hb : b < m) (hm : m ≤ 1048576) :
  Calls Tryz.prog 195 #[.int .i64 (a : Int), .int .i64 (b : Int), .pointer (some ⟨q, 0, none⟩)] w fun e w' => e = .returned (.int .i64 ((wf a : Int) - (wf b : Int))) ∧ ∃ n, w' = w.drewN n := by
 obtain ⟨⟨gw, nW, cW, h1, h2, h3, h4, h5⟩, h6, h7⟩ := h
 have e1 := h3 a ha
 have e2 := h3 b hb
 have x1 := hwf a
 have x2 := hwf b
 generalize wf a = x at e1 x1 ⊢
 generalize wf b = y at e2 x2 ⊢
 have i1 : a < nW := by omega
 have i2 : b < nW := by omega
 have hw : IntKind.i64.wrap ((x : Int) - (y : Int)) = (x : Int) - (y : Int) := by rw [IntKind.wrap_i64]; omega
 clear h3
 go_enter Tryz.func195, Tryz.ntmps195
 go_wp2
 go_quiet (fail)
 go_wp2
 go_ret
 exact ⟨rfl, _, rfl⟩
def zBw (g n m q : Nat) (wf : Nat → Nat) (w : World) (e : Ending) (w' : World) : Prop := e = .returned (.tuple #[]) ∧ RowIn w' g n m ∧ Touch (fun k => k = g) w w'
theorem zCn (g n m q cp a b k : Nat) (wf : Nat → Nat) (w : World) (h : RowIn w g n m) (ha : a + k ≤ n) (hb : b + k ≤ n) (hn : n ≤ 1048576) :
  Calls Tryz.prog 217 #[.slice (some ⟨g, 0, none⟩) n cp, .int .i64 (a : Int), .int .i64 (b : Int), .int .i64 (k : Int), cmpFn q] w (zBw g n m q wf w) := by
 have H := hid h
 clear h
 go_enter Tryz.func217, Tryz.ntmps217
 go_wp2
 go_loopw [10] (fun iv_ wr => ∃ i : Nat, iv_ = .int .i64 (i : Int) ∧ i ≤ k ∧ Hid (RowIn wr g n m) ∧ Hid (Touch (fun k => k = g) w wr)) (fun iv_ _ => k - (intOf iv_).toNat)
 case atStart => exact ⟨0, rfl, Nat.zero_le _, H, hid (Touch.refl _ _)⟩
 case round =>
  obtain ⟨i, rfl, hi, HR, HT⟩ := hrel
  clear H
  by_cases hlt : i < k
  ·obtain ⟨p, hp⟩ : ∃ p, p = a + i := ⟨_, rfl⟩
   obtain ⟨r, hr⟩ : ∃ r, r = b + i := ⟨_, rfl⟩
   have hw1 : IntKind.i64.wrap ((a : Int) + (i : Int)) = (p : Int) := by rw [IntKind.wrap_i64]; omega
   have hw2 : IntKind.i64.wrap ((b : Int) + (i : Int)) = (r : Int) := by rw [IntKind.wrap_i64]; omega
   have hpn : p < n := by omega
   have hrn : r < n := by omega
   obtain ⟨x, hx, e1⟩ := HR.out.at hpn
   obtain ⟨y, hy, e2⟩ := HR.out.at hrn
   have f1 := HR.out.free p
   have f2 := HR.out.free r
   have hl := HR.out.lt
   have HP := hid (HR.out.set hpn hy)
   have HQ := hid (HR.out.set hrn hx)
   obtain ⟨z1, _, k1⟩ := HP.out.at hrn
   obtain ⟨z2, _, k2⟩ := HQ.out.at hpn
   have k3 := HP.out.free r
   have k4 := HQ.out.free p
   have HPQ := hid (HP.out.set hrn hx)
   have HQP := hid (HQ.out.set hpn hy)
   clear hp hr
   go_upto_region 3 with fail
   go_region
   all_goals go_wp2
   all_goals go_roundw
   all_goals first
    | (exact ⟨i + 1, by go_num, by omega, hid HPQ.out.drew, hid (zAA (zAA HT.out _) _).drew⟩)
    | (exact ⟨i + 1, by go_num, by omega, hid HQP.out.drew, hid (zAA (zAA HT.out _) _).drew⟩)
    | (simp [intOf]; omega)
  ·go_wp2
   go_end0
   exact ⟨rfl, HR.out, HT.out⟩
end Go.Proofs.YtaemlplcjjbamaaGreatDoor
namespace Go.Proofs.YtaemlplcjjbamaaGreatDoor
open Go.Lib (hid)
open Go Go.RowKit
set_option linter.unusedVariables false
theorem zAu (g n m q cp a c b : Nat) (wf : Nat → Nat) (w : World) (h : RowIn w g n m) (h1 : a < c) (h2 : c < b) (hb : b ≤ n) (hn : n ≤ 1048576) :
  Calls Tryz.prog 216 #[.slice (some ⟨g, 0, none⟩) n cp, .int .i64 (a : Int), .int .i64 (c : Int), .int .i64 (b : Int), cmpFn q] w (zBw g n m q wf w) := by
 have H := hid h
 clear h
 go_enter Tryz.func216, Tryz.ntmps216
 go_wp2
 go_loopw [10, 11] (fun iv_ jv wr => ∃ i j : Nat, iv_ = .int .i64 (i : Int) ∧ jv = .int .i64 (j : Int) ∧ 1 ≤ i ∧ i ≤ c - a ∧ 1 ≤ j ∧ j ≤ b - c ∧ Hid (RowIn wr g n m) ∧ Hid (Touch (fun k => k = g) w wr)) (fun iv_ jv _ => (intOf iv_).toNat + (intOf jv).toNat)
 case atStart => exact ⟨c - a, b - c, by go_num, by go_num, by omega, Nat.le_refl _, by omega, Nat.le_refl _, H, hid (Touch.refl _ _)⟩
 case round =>
  obtain ⟨i, j, rfl, rfl, hi1, hi2, hj1, hj2, HR, HT⟩ := hrel
  clear H
  obtain ⟨p, hp⟩ : ∃ p, p = c - i := ⟨_, rfl⟩
  have hpi : (c : Int) - (i : Int) = (p : Int) := by omega
  by_cases he : i = j
  ·subst he
   have HS := hid (zCn g n m q cp p c i wf wr HR.out (by omega) (by omega) hn)
   have hne : ((i : Int) != (i : Int)) = false := by simp
   clear hp
   go_wp2_with fail
   refine HS.out.mono ?_
   rintro e w1 ⟨rfl, hR1, hT1⟩
   have HR1 := hid hR1
   have HT1 := hid (HT.out.trans hT1)
   clear hR1 hT1
   go_wp2_with fail
   go_end0
   exact ⟨rfl, HR1.out, HT1.out⟩
  ·have hne : ((i : Int) != (j : Int)) = true := by rw [bne_iff_ne]; omega
   by_cases hgt : j < i
   ·have HS := hid (zCn g n m q cp p c j wf wr HR.out (by omega) (by omega) hn)
    clear hp he
    go_wp2_with fail
    refine HS.out.mono ?_
    rintro e w1 ⟨rfl, hR1, hT1⟩
    have HR1 := hid hR1
    have HT1 := hid (HT.out.trans hT1)
    clear hR1 hT1
    go_wp2_with fail
    go_roundw
    case rel => exact ⟨i - j, j, by go_num, by go_num, by omega, by omega, hj1, hj2, HR1, HT1⟩
    case measure => simp [intOf]; omega
   ·obtain ⟨r, hr⟩ : ∃ r, r = c + j - i := ⟨_, rfl⟩
    have hri : (c : Int) + (j : Int) - (i : Int) = (r : Int) := by omega
    have HS := hid (zCn g n m q cp p r i wf wr HR.out (by omega) (by omega) hn)
    clear hp hr
    go_wp2_with fail
    skip
    refine HS.out.mono ?_
    rintro e w1 ⟨rfl, hR1, hT1⟩
    have HR1 := hid hR1
    have HT1 := hid (HT.out.trans hT1)
    clear hR1 hT1
    go_wp2_with fail
    go_roundw
    case rel => exact ⟨i, j - i, by go_num, by go_num, hi1, hi2, by omega, by omega, HR1, HT1⟩
    case measure => simp [intOf]; omega
theorem zDD (g n m q cp a b : Nat) (wf : Nat → Nat) (w : World) (h : RowIn w g n m) (hc : CmpAt g q m wf w) (hwf : ∀ j, wf j < 4294967296) (hm : m ≤ 1048576) (hab : a ≤ b) (hb : b ≤ n) (hn : n ≤ 1048576) :
  Calls Tryz.prog 211 #[.slice (some ⟨g, 0, none⟩) n cp, .int .i64 (a : Int), .int .i64 (b : Int), cmpFn q] w (zBw g n m q wf w) := by
 have H := hid h
 have HC := hid hc
 have Hwf := hid hwf
 clear h hc hwf
 unfold cmpFn
 go_enter Tryz.func211, Tryz.ntmps211
 go_wp2
 go_loopw [8] (fun iv_ wr => ∃ i : Nat, iv_ = .int .i64 (i : Int) ∧ a + 1 ≤ i ∧ i ≤ b + 1 ∧ Hid (RowIn wr g n m) ∧ Hid (Touch (fun k => k = g) w wr)) (fun iv_ _ => b + 1 - (intOf iv_).toNat)
 case atStart => exact ⟨a + 1, by go_num, Nat.le_refl _, by omega, H, hid (Touch.refl _ _)⟩
 case round =>
  obtain ⟨i, rfl, hi1, hi2, HR, HT⟩ := hrel
  clear H
  by_cases hlt : i < b
  ·go_wp2
   go_loopw [9] (fun jv ws => ∃ j : Nat, jv = .int .i64 (j : Int) ∧ a ≤ j ∧ j ≤ i ∧ Hid (RowIn ws g n m) ∧ Hid (Touch (fun k => k = g) w ws)) (fun jv _ => (intOf jv).toNat)
   case atStart => exact ⟨i, rfl, by omega, Nat.le_refl _, HR, HT⟩
   case round =>
    obtain ⟨j, rfl, hj1, hj2, HR2, HT2⟩ := hrel
    by_cases hja : a < j
    ·obtain ⟨p, hp⟩ : ∃ p, p = j - 1 := ⟨_, rfl⟩
     have hw1 : IntKind.i64.wrap ((j : Int) - 1) = (p : Int) := by rw [IntKind.wrap_i64]; omega
     have hpn : p < n := by omega
     have hjn : j < n := by omega
     obtain ⟨x, hx, e1⟩ := HR2.out.at hjn
     obtain ⟨y, hy, e2⟩ := HR2.out.at hpn
     have Hp := hid hp
     have HCm := hid (fun k => zEJ g q m x y wf (wr.drewN k) ((HC.out.touch HT2.out).touch ((Touch.refl _ wr).drewN k)) Hwf.out hx hy hm)
     clear hp
     go_upto_region 4 with fail
     go_quiet ((go_at_call 195; exact zBg (HCm.out _)))
     obtain ⟨ws, hws⟩ : ∃ ws, ws = wr.drewN nq := ⟨_, rfl⟩
     have HR3 := hid (show RowIn ws g n m by rw [hws]; exact HR2.out.drewN nq)
     have HT3 := hid (show Touch (fun k => k = g) w ws by rw [hws]; exact HT2.out.trans ((Touch.refl _ _).drewN nq))
     rw [← hws]
     clear hws HCm HR2 HT2 e1 e2
     obtain ⟨x1, hx1, e1⟩ := HR3.out.at hjn
     obtain ⟨y1, hy1, e2⟩ := HR3.out.at hpn
     have f1 := HR3.out.free j
     have f2 := HR3.out.free p
     have hl := HR3.out.lt
     have HP := hid (HR3.out.set hjn hy1)
     have HQ := hid (HR3.out.set hpn hx1)
     obtain ⟨z1, _, k1⟩ := HP.out.at hpn
     obtain ⟨z2, _, k2⟩ := HQ.out.at hjn
     have k3 := HP.out.free p
     have k4 := HQ.out.free j
     have HPQ := hid (HP.out.set hpn hx1)
     have HQP := hid (HQ.out.set hjn hy1)
     by_cases hcm : ((wf x : Int) - (wf y : Int) < 0)
     ·rw [decide_eq_true hcm]
      go_upto_region 6 with fail
      go_region
      all_goals go_wp2
      all_goals go_roundw
      all_goals first
       | (exact ⟨p, by go_num, by have := Hp.out; omega, by have := Hp.out; omega, hid HPQ.out.drew, hid (zAA (zAA HT3.out _) _).drew⟩)
       | (exact ⟨p, by go_num, by have := Hp.out; omega, by have := Hp.out; omega, hid HQP.out.drew, hid (zAA (zAA HT3.out _) _).drew⟩)
       | (have := Hp.out; simp [intOf]; omega)
     ·rw [decide_eq_false hcm]
      go_wp2_with fail
      go_roundw
      case rel => exact ⟨i + 1, by go_num, by omega, by omega, HR3, HT3⟩
      case measure => simp [intOf]; omega
    ·have hja' : j = a := by omega
     go_upto_region 4 with fail
     go_quiet (fail)
     go_wp2_with fail
     go_roundw
     case rel => exact ⟨i + 1, by go_num, by omega, by omega, hid (HR2.out.drewN _), hid (HT2.out.trans ((Touch.refl _ _).drewN _))⟩
     case measure => simp [intOf]; omega
  ·go_wp2
   go_end0
   exact ⟨rfl, HR.out, HT.out⟩
end Go.Proofs.YtaemlplcjjbamaaGreatDoor
namespace Go.Proofs.YtaemlplcjjbamaaGreatDoor
open Go.Lib (hid)
open Go Go.RowKit
set_option linter.unusedVariables false
theorem zFb {i j : Nat} (h : i < j) : i ≤ (i + j) / 2 ∧ (i + j) / 2 < j := by omega
theorem symA_any (g n m q cp a b : Nat) (wf : Nat → Nat) (w : World) (h : RowIn w g n m) (hc : CmpAt g q m wf w) (hwf : ∀ j, wf j < 4294967296) (hm : m ≤ 1048576) (hab : a + 1 < b) (hb : b ≤ n) (hn : n ≤ 1048576) :
  Calls Tryz.prog 212 #[.slice (some ⟨g, 0, none⟩) n cp, .int .i64 (a : Int), .int .i64 ((a + 1 : Nat) : Int), .int .i64 (b : Int), cmpFn q] w (zBw g n m q wf w) := by
 obtain ⟨c, hca⟩ : ∃ c, c = a + 1 := ⟨_, rfl⟩
 rw [← hca]
 have H := hid h
 have HC := hid hc
 have Hwf := hid hwf
 have hd : (c : Int) - (a : Int) = 1 := by omega
 have hcb : c < b := by omega
 have Hca := hid hca
 clear h hc hwf hca
 unfold cmpFn
 go_enter Tryz.func212, Tryz.ntmps212
 go_upto_region 3 with fail
 go_loopw [10, 11] (fun iv_ jv wr => ∃ i j : Nat, iv_ = .int .i64 (i : Int) ∧ jv = .int .i64 (j : Int) ∧ c ≤ i ∧ i ≤ j ∧ j ≤ b ∧ Hid (RowIn wr g n m) ∧ Hid (Touch (fun k => k = g) w wr)) (fun iv_ jv _ => (intOf jv).toNat - (intOf iv_).toNat)
 case atStart => exact ⟨c, b, rfl, rfl, Nat.le_refl _, by omega, Nat.le_refl _, H, hid (Touch.refl _ _)⟩
 case round =>
  obtain ⟨i, j, rfl, rfl, hi, hij, hj, HR, HT⟩ := hrel
  clear H
  by_cases hlt : i < j
  ·obtain ⟨e, he⟩ : ∃ e, e = (i + j) / 2 := ⟨_, rfl⟩
   have he1 := zFb hlt
   rw [← he] at he1
   obtain ⟨he1, he2⟩ := he1
   have hhalf : ((i : Int) + (j : Int)) / 2 = (e : Int) := by omega
   have hen : e < n := by omega
   have han : a < n := by have := Hca.out; omega
   obtain ⟨x, hx, e1⟩ := HR.out.at hen
   obtain ⟨y, hy, e2⟩ := HR.out.at han
   have HCm := hid (fun k => zEJ g q m x y wf (wr.drewN k) ((HC.out.touch HT.out).touch ((Touch.refl _ wr).drewN k)) Hwf.out hx hy hm)
   clear he
   go_upto_region 5 with fail
   go_quiet ((go_at_call 195; exact zBg (HCm.out _)))
   obtain ⟨ws, hws⟩ : ∃ ws, ws = wr.drewN nq := ⟨_, rfl⟩
   have HR3 := hid (show RowIn ws g n m by rw [hws]; exact HR.out.drewN nq)
   have HT3 := hid (show Touch (fun k => k = g) w ws by rw [hws]; exact HT.out.trans ((Touch.refl _ _).drewN nq))
   rw [← hws]
   clear hws HCm HR HT e1 e2
   by_cases hcm : ((wf x : Int) - (wf y : Int) < 0)
   ·rw [decide_eq_true hcm]
    go_wp2_with fail
    go_roundw
    case rel => exact ⟨e + 1, j, by go_num, rfl, by omega, by omega, hj, HR3, HT3⟩
    case measure => simp [intOf]; omega
   ·rw [decide_eq_false hcm]
    go_wp2_with fail
    go_roundw
    case rel => exact ⟨i, e, rfl, rfl, hi, by omega, by omega, HR3, HT3⟩
    case measure => simp [intOf]; omega
  ·have hij' : j = i := by omega
   subst hij'
   go_wp2_with fail
   go_loopw [13] (fun kv_ ws => ∃ k : Nat, kv_ = .int .i64 (k : Int) ∧ k < j ∧ Hid (RowIn ws g n m) ∧ Hid (Touch (fun k => k = g) w ws)) (fun kv_ _ => j - (intOf kv_).toNat)
   case atStart => exact ⟨a, rfl, by have := Hca.out; omega, HR, HT⟩
   case round =>
    obtain ⟨k, rfl, hk, HR2, HT2⟩ := hrel
    by_cases hkl : k < j - 1
    ·obtain ⟨p, hp⟩ : ∃ p, p = k + 1 := ⟨_, rfl⟩
     have hw1 : IntKind.i64.wrap ((k : Int) + 1) = (p : Int) := by rw [IntKind.wrap_i64]; omega
     have hpn : p < n := by omega
     have hkn : k < n := by omega
     have Hp := hid hp
     clear hp
     obtain ⟨x1, hx1, e1⟩ := HR2.out.at hkn
     obtain ⟨y1, hy1, e2⟩ := HR2.out.at hpn
     have f1 := HR2.out.free k
     have f2 := HR2.out.free p
     have hl := HR2.out.lt
     have HP := hid (HR2.out.set hkn hy1)
     have HQ := hid (HR2.out.set hpn hx1)
     obtain ⟨z1, _, k1⟩ := HP.out.at hpn
     obtain ⟨z2, _, k2⟩ := HQ.out.at hkn
     have k3 := HP.out.free p
     have k4 := HQ.out.free k
     have HPQ := hid (HP.out.set hpn hx1)
     have HQP := hid (HQ.out.set hkn hy1)
     go_upto_region 11 with fail
     go_region
     all_goals go_wp2
     all_goals go_roundw
     all_goals first
      | (exact ⟨p, by go_num, by have := Hp.out; omega, hid HPQ.out.drew, hid (zAA (zAA HT2.out _) _).drew⟩)
      | (exact ⟨p, by go_num, by have := Hp.out; omega, hid HQP.out.drew, hid (zAA (zAA HT2.out _) _).drew⟩)
      | (have := Hp.out; simp [intOf]; omega)
    ·go_wp2_with fail
     go_end0
     exact ⟨rfl, HR2.out, HT2.out⟩
theorem symB_any (g n m q cp a b : Nat) (wf : Nat → Nat) (w : World) (h : RowIn w g n m) (hc : CmpAt g q m wf w) (hwf : ∀ j, wf j < 4294967296) (hm : m ≤ 1048576) (c : Nat) (hac : a + 1 < c) (hcb1 : b = c + 1) (hb : b ≤ n) (hn : n ≤ 1048576) :
  Calls Tryz.prog 212 #[.slice (some ⟨g, 0, none⟩) n cp, .int .i64 (a : Int), .int .i64 (c : Int), .int .i64 (b : Int), cmpFn q] w (zBw g n m q wf w) := by
 have H := hid h
 have HC := hid hc
 have Hwf := hid hwf
 obtain ⟨d, hdd⟩ : ∃ d, d = c - a := ⟨_, rfl⟩
 have hd0 : (c : Int) - (a : Int) = (d : Int) := by omega
 have hd2 : ((d : Int) == 1) = false := by rw [beq_eq_false_iff_ne]; omega
 have hd : (b : Int) - (c : Int) = 1 := by omega
 have hcb : c < b := by omega
 have hcn : c < n := by omega
 clear h hc hwf hdd hcb1
 unfold cmpFn
 go_enter Tryz.func212, Tryz.ntmps212
 go_upto_region 15 with fail
 go_loopw [14, 15] (fun iv_ jv wr => ∃ i j : Nat, iv_ = .int .i64 (i : Int) ∧ jv = .int .i64 (j : Int) ∧ a ≤ i ∧ i ≤ j ∧ j ≤ c ∧ Hid (RowIn wr g n m) ∧ Hid (Touch (fun k => k = g) w wr)) (fun iv_ jv _ => (intOf jv).toNat - (intOf iv_).toNat)
 case atStart => exact ⟨a, c, rfl, rfl, Nat.le_refl _, by omega, Nat.le_refl _, H, hid (Touch.refl _ _)⟩
 case round =>
  obtain ⟨i, j, rfl, rfl, hi, hij, hj, HR, HT⟩ := hrel
  clear H
  by_cases hlt : i < j
  ·obtain ⟨e, he⟩ : ∃ e, e = (i + j) / 2 := ⟨_, rfl⟩
   have he1 := zFb hlt
   rw [← he] at he1
   obtain ⟨he1, he2⟩ := he1
   have hhalf : ((i : Int) + (j : Int)) / 2 = (e : Int) := by omega
   have hen : e < n := by omega
   obtain ⟨x, hx, e1⟩ := HR.out.at hcn
   obtain ⟨y, hy, e2⟩ := HR.out.at hen
   have HCm := hid (fun k => zEJ g q m x y wf (wr.drewN k) ((HC.out.touch HT.out).touch ((Touch.refl _ wr).drewN k)) Hwf.out hx hy hm)
   clear he
   go_upto_region 17 with fail
   go_quiet ((go_at_call 195; exact zBg (HCm.out _)))
   obtain ⟨ws, hws⟩ : ∃ ws, ws = wr.drewN nq := ⟨_, rfl⟩
   have HR3 := hid (show RowIn ws g n m by rw [hws]; exact HR.out.drewN nq)
   have HT3 := hid (show Touch (fun k => k = g) w ws by rw [hws]; exact HT.out.trans ((Touch.refl _ _).drewN nq))
   rw [← hws]
   clear hws HCm HR HT e1 e2
   by_cases hcm : ((wf x : Int) - (wf y : Int) < 0)
   ·rw [decide_eq_true hcm]
    go_wp2_with fail
    go_roundw
    case rel => exact ⟨i, e, rfl, rfl, hi, by omega, by omega, HR3, HT3⟩
    case measure => simp [intOf]; omega
   ·rw [decide_eq_false hcm]
    go_wp2_with fail
    go_roundw
    case rel => exact ⟨e + 1, j, by go_num, rfl, by omega, by omega, hj, HR3, HT3⟩
    case measure => simp [intOf]; omega
  ·have hij' : j = i := by omega
   subst hij'
   go_wp2_with fail
   go_loopw [17] (fun kv_ ws => ∃ k : Nat, kv_ = .int .i64 (k : Int) ∧ j ≤ k ∧ k ≤ c ∧ Hid (RowIn ws g n m) ∧ Hid (Touch (fun k => k = g) w ws)) (fun kv_ _ => (intOf kv_).toNat)
   case atStart => exact ⟨c, rfl, by omega, Nat.le_refl _, HR, HT⟩
   case round =>
    obtain ⟨k, rfl, hk, hkc, HR2, HT2⟩ := hrel
    by_cases hkl : j < k
    ·obtain ⟨p, hp⟩ : ∃ p, p = k - 1 := ⟨_, rfl⟩
     have hw1 : IntKind.i64.wrap ((k : Int) - 1) = (p : Int) := by rw [IntKind.wrap_i64]; omega
     have hpn : p < n := by omega
     have hkn : k < n := by omega
     have Hp := hid hp
     clear hp
     obtain ⟨x1, hx1, e1⟩ := HR2.out.at hkn
     obtain ⟨y1, hy1, e2⟩ := HR2.out.at hpn
     have f1 := HR2.out.free k
     have f2 := HR2.out.free p
     have hl := HR2.out.lt
     have HP := hid (HR2.out.set hkn hy1)
     have HQ := hid (HR2.out.set hpn hx1)
     obtain ⟨z1, _, k1⟩ := HP.out.at hpn
     obtain ⟨z2, _, k2⟩ := HQ.out.at hkn
     have k3 := HP.out.free p
     have k4 := HQ.out.free k
     have HPQ := hid (HP.out.set hpn hx1)
     have HQP := hid (HQ.out.set hkn hy1)
     go_upto_region 23 with fail
     go_region
     all_goals go_wp2
     all_goals go_roundw
     all_goals first
      | (exact ⟨p, by go_num, by have := Hp.out; omega, by have := Hp.out; omega, hid HPQ.out.drew, hid (zAA (zAA HT2.out _) _).drew⟩)
      | (exact ⟨p, by go_num, by have := Hp.out; omega, by have := Hp.out; omega, hid HQP.out.drew, hid (zAA (zAA HT2.out _) _).drew⟩)
      | (have := Hp.out; simp [intOf]; omega)
    ·go_wp2_with fail
     go_end0
     exact ⟨rfl, HR2.out, HT2.out⟩
end Go.Proofs.YtaemlplcjjbamaaGreatDoor

