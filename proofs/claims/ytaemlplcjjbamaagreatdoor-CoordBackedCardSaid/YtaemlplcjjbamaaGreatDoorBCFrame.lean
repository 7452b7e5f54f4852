/- delta.Bytes: a delta's bytes. Condition: the sizes. The walk -/
import Derived.Test.YtaemlplcjjbamaaGreatDoorBWriter
import Derived.Test.YtaemlplcjjbamaaGreatDoorBCut
namespace Go.Proofs.YtaemlplcjjbamaaGreatDoor
open Go.Lib (hid)
set_option maxRecDepth 100000
set_option maxHeartbeats 8000000
open Go Go.RowKit
set_option linter.unusedVariables false
variable {B : List ByteArray} {O : List UInt8} {T e : TypeId} {Ts Us : List TypeId} {b base c k mb n q sz : Nat} {cs xs : List Value} {l : List Int} {ov v : Value} {w w' : World}
def NumW (bw : Nat) (bs : List UInt8) (w : World) (e : Ending) (w' : World) : Prop := e = .returned (.tuple #[]) ∧ isW bw bs w' ∧ Below bw w w' ∧ KeepB bw w w'
theorem zBy (bw n : Nat) (bs : List UInt8) (w : World) (h : isW bw bs w) (hn : n ≤ 4611686018427387903) (hl : bs.length ≤ 1000000000) :
  Calls Tryz.prog 154 #[.int .i64 (n : Int), .pointer (some ⟨bw, 0, none⟩)] w (NumW bw (bs ++ cnL n) w) := by
 have H := hid h
 have hb := zEk h
 have HN := hid (zDa n w hn)
 have hc9 := zAI hn
 clear h
 go_enter Tryz.func154, Tryz.ntmps154
 go_wp2_with fail
 refine HN.out.mono ?_
 clear HN
 rintro e w1 ⟨rfl, hb1⟩
 have HW := hid (zFm bw bs (cnL n) w1 (zCg H.out hb1) (by omega) (by have := hb1.size; omega))
 have HB1 := hid hb1
 clear hb1
 have hcn : cnT n = ba (cnL n) := rfl
 go_wp2_with fail
 refine HW.out.mono ?_
 clear HW
 rintro e w2 ⟨rfl, hW2, hB2, hK2⟩
 have H2 := hid (show NumW bw (bs ++ cnL n) w (.returned (.tuple #[])) w2 from ⟨rfl, hW2, (HB1.out.mono (Nat.le_of_lt hb)).trans hB2, (KeepB.of_below HB1.out).trans hK2⟩)
 clear hW2 hB2 hK2
 go_wp2_with fail
 go_end0
 exact H2.out
theorem stpB_len {x : Stp} (h : stpOk x (O.length : Nat)) (hO : O.length ≤ 524288) : ((stpB x).length : Int) ≤ 18 + (x.len + (x.text.length : Nat)) := by
 unfold stpB
 rcases h with ⟨h1, h2, h3, h4⟩ | ⟨h1, h2, h3, h4, h5, h6⟩
 ·rw [if_pos h1, List.length_append, h3]
  have := zAI (n := 2 * x.text.length) (by omega)
  omega
 ·rw [if_neg (by rw [h1]; simp), List.length_append]
  have := zAI (n := (2 * x.len + 1).toNat) (by omega)
  have := zAI (n := x.at_.toNat) (by omega)
  omega
theorem zER {O : List UInt8} (hO : O.length ≤ 524288) : ∀ (l : List Stp), (∀ x ∈ l, stpOk x (O.length : Nat)) → (l.flatMap stpB).length ≤ 18 * l.length + (outS O l).length
 | [], _ => Nat.zero_le _
 | x :: l, h => by
  have h1 := h x (List.mem_cons_self ..)
  have h2 := stpB_len h1 hO
  have h3 := zDX h1
  unfold stpN at h3
  have h4 := zER hO l (fun y hy => h y (List.mem_cons_of_mem _ hy))
  rw [List.flatMap_cons, List.length_append, zDC, List.length_append, List.length_cons]
  omega
theorem Touch.of_b (h : Below b w w') : Touch (fun j => b ≤ j) w w' := ⟨h.os, h.tape, h.output, h.size, fun k hk hn => h.block k (Nat.lt_of_not_le hn)⟩
theorem zHc {l : List Stp} {x : Stp} (h : l[k]? = some x) : (l.take (k + 1)).flatMap stpB = (l.take k).flatMap stpB ++ stpB x := by
 have e : l.take (k + 1) = l.take k ++ [x] := by
  rw [List.take_add_one, h]
  rfl
 rw [e, List.flatMap_append]
 simp
theorem dBytes_any (bl sl : List UInt8) (sv : Value) (base : Nat) (O T : List UInt8) (l : List Stp) (w : World) (hb : bl.length = 32) (hs : sl.length = 32) (hr : w.ownsRow base 221 3 sv l.length (stpsV l)) (hm : Mk O l T) (hO : O.length ≤ 524288) (hT : T.length ≤ 524288) :
  Calls Tryz.prog 129 #[dlV (ba bl) (ba sl) T.length sv] w fun e w' => e = .returned (.tuple #[.string (ba (zDT ⟨bl, sl, (T.length : Nat), l⟩)), .int .i64 0]) ∧ Below w.heap.size w w' := by
 have HM := hid hm
 have hlT : l.length ≤ T.length := by rw [← hm.out]; exact zCb l hm.ok
 have HRi := hid (fun w' (h : w'.ownsRow base 221 3 sv l.length (stpsV l)) => dRight_any (ba bl) (ba sl) sv base O T l w' (by rw [zAl]; exact hb) (by rw [zAl]; exact hs) h hm hT)
 obtain ⟨sa, sc, rfl⟩ := zAe hr
 have hbz := zAl bl
 have hsz := zAl sl
 have hba : ba bl ++ ba sl = ba (bl ++ sl) := by
  unfold ba
  apply ByteArray.ext
  simp
 have HB0 := hid ((Below.refl w.heap.size w).alloc (Nat.le_refl _) (.cells #[.string (ba bl), .string (ba sl), .int .i64 (T.length : Int), .slice sa l.length sc] 196))
 have HQ := hid (Blk.new w [.string (ba bl), .string (ba sl), .int .i64 (T.length : Int), .slice sa l.length sc] 196)
 have HR0 := hid (zAc hr HB0.out)
 have hmf : ∀ (fn : Fn) (first cap : Array Value) (w : World), (Instr.makeFunc fn first cap).run Tryz.prog w = .ok (.func fn first cap) w := fun _ _ _ _ => rfl
 clear hr hm
 unfold dlV at HRi ⊢
 go_enter Tryz.func129, Tryz.ntmps129
 go_upto_region 1 with fail
 generalize w.alloc (.cells #[.string (ba bl), .string (ba sl), .int .i64 (T.length : Int), .slice sa l.length sc] 196) = w0 at HB0 HQ HR0 ⊢
 obtain ⟨gx, hgx⟩ : ∃ gx, gx = w.heap.size := ⟨_, rfl⟩
 rw [← hgx] at HQ HB0 ⊢
 have Hgx := hid hgx
 clear hgx
 have c0 : w0.cell? ⟨gx, 0, none⟩ = some (.string (ba bl)) := HQ.out.cell 0
 have c1 : w0.cell? ⟨gx, 1, none⟩ = some (.string (ba sl)) := HQ.out.cell 1
 have c2 : w0.cell? ⟨gx, 2, none⟩ = some (.int .i64 (T.length : Int)) := HQ.out.cell 2
 have c3 : w0.cell? ⟨gx, 3, none⟩ = some (.slice sa l.length sc) := HQ.out.cell 3
 have hgl := HQ.out.lt
 go_wp2_with fail
 refine (HRi.out _ HR0.out).mono ?_
 clear HRi
 rintro e w1 ⟨rfl, hb1⟩
 have HB1 := hid (HB0.out.trans (hb1.mono (Nat.le_of_lt hgl)))
 have HQ1 := hid (HQ.out.below hb1)
 have HR1 := hid (zAc HR0.out hb1)
 have hgl1 := HQ1.out.lt
 clear hb1 c0 c1 c2 c3 HB0 HQ HR0
 go_upto_region 4 with fail
 have HW2 := hid (isW_new w1)
 have HBa := hid ((Below.refl w1.heap.size w1).alloc (Nat.le_refl _) (.cells #[.pointer none, .slice none 0 0] 134))
 generalize w1.alloc (.cells #[.pointer none, .slice none 0 0] 134) = w2 at HW2 HBa ⊢
 obtain ⟨bw, hbw⟩ : ∃ bw, bw = w1.heap.size := ⟨_, rfl⟩
 rw [← hbw] at HW2 HBa ⊢
 have HQ2 := hid (HQ1.out.below (hbw ▸ HBa.out))
 have HR2 := hid (zAc HR1.out (hbw ▸ HBa.out))
 have HB2 := hid (HB1.out.trans (HBa.out.mono (by omega)))
 have hgb : gx < bw := by omega
 have Hrb := hid (show ∀ g, (Value.slice sa l.length sc).ownBlock = some g → g < bw from fun g hg => by have := (HR1.out.lt g hg).2; omega)
 clear hbw HBa HQ1 HR1 HB1
 have c0 : w2.cell? ⟨gx, 0, none⟩ = some (.string (ba bl)) := HQ2.out.cell 0
 have c1 : w2.cell? ⟨gx, 1, none⟩ = some (.string (ba sl)) := HQ2.out.cell 1
 have c2 : w2.cell? ⟨gx, 2, none⟩ = some (.int .i64 (T.length : Int)) := HQ2.out.cell 2
 have c3 : w2.cell? ⟨gx, 3, none⟩ = some (.slice sa l.length sc) := HQ2.out.cell 3
 have hs2 := zEk HW2.out
 have HWr := hid (zFm bw [] (bl ++ sl) w2 HW2.out (by rw [List.length_append]; simp; omega) (by omega))
 go_wp2_with fail
 refine HWr.out.mono ?_
 clear HWr
 rintro e w3 ⟨rfl, hW3, hB3, hK3⟩
 have HT3 := hid (Touch.of_b hB3)
 have HQ3 := hid (HQ2.out.touch HT3.out (by omega))
 have k2 : w3.cell? ⟨gx, 2, none⟩ = some (.int .i64 (T.length : Int)) := HQ3.out.cell 2
 have HNm := hid (zBy bw T.length (bl ++ sl) w3 hW3 (by omega) (by rw [List.length_append]; omega))
 clear hW3 hB3 hK3 c0 c1 c2 c3
 go_wp2_with fail
 refine HNm.out.mono ?_
 clear HNm
 rintro e w4 ⟨rfl, hW4, hB4, hK4⟩
 have HT4 := hid (HT3.out.trans (Touch.of_b hB4))
 have HQ4 := hid (HQ2.out.touch HT4.out (by omega))
 have k3 : w4.cell? ⟨gx, 3, none⟩ = some (.slice sa l.length sc) := HQ4.out.cell 3
 have hcT := zAI (n := T.length) (by omega)
 have HNm := hid (zBy bw l.length ((bl ++ sl) ++ cnL T.length) w4 hW4 (by omega) (by rw [List.length_append, List.length_append]; omega))
 clear hW4 hB4 hK4 k2
 go_wp2_with fail
 refine HNm.out.mono ?_
 clear HNm
 rintro e w5 ⟨rfl, hW5, hB5, hK5⟩
 have HT5 := hid (HT4.out.trans (Touch.of_b hB5))
 have HQ5 := hid (HQ2.out.touch HT5.out (by omega))
 have k3 : w5.cell? ⟨gx, 3, none⟩ = some (.slice sa l.length sc) := HQ5.out.cell 3
 have hcm := zAI (n := l.length) (by omega)
 obtain ⟨pre, hpre⟩ : ∃ pre, pre = (bl ++ sl) ++ cnL T.length ++ cnL l.length := ⟨_, rfl⟩
 have HW5 := hid (show isW bw (pre ++ (l.take 0).flatMap stpB) w5 by rw [hpre]; simpa using hW5)
 have hprl : pre.length ≤ 100 := by rw [hpre]; simp only [List.length_append]; omega
 have Hpre := hid hpre
 have HBytes := hid (fun k => Nat.le_trans (zER hO (l.take k) (fun x hx => HM.out.ok x (List.mem_of_mem_take hx))) (show 18 * (l.take k).length + (outS O (l.take k)).length ≤ 18 * l.length + T.length from by
  have h1 := zCC (O := O) (l := l) k
  rw [HM.out.out] at h1
  rw [List.length_take]
  omega))
 obtain ⟨m, hml⟩ : ∃ m, m = l.length := ⟨_, rfl⟩
 rw [← hml] at k3
 have Hm := hid hml
 clear hW5 hB5 hK5 hpre
 go_wp2_with fail
 go_loopw [30] (fun kv wr => ∃ k : Nat, kv = .int .i64 (k : Int) ∧ k ≤ m ∧ Hid (isW bw (pre ++ (l.take k).flatMap stpB) wr) ∧ Hid (Touch (fun j => bw ≤ j) w2 wr)) (fun kv _ => m - (intOf kv).toNat)
 case atStart => exact ⟨0, rfl, Nat.zero_le _, HW5, HT5⟩
 case round =>
  obtain ⟨k, rfl, hk, HW, HT⟩ := hrel
  have hszr := zEk HW.out
  by_cases hlt : k < m
  ·have HRr := hid (zAj HR2.out HT.out (fun g hg e => by have := Hrb.out g hg; omega))
   obtain ⟨g, cap, hv, hg2, hg3, hg4, hg6, hg5⟩ := zAz HRr.out (by omega)
   simp only [Value.slice.injEq] at hv
   obtain ⟨rfl, _, rfl⟩ := hv
   obtain ⟨x, hx⟩ : ∃ x, l[k]? = some x := ⟨_, List.getElem?_eq_getElem (by omega)⟩
   obtain ⟨v1, v2, v3⟩ := zFZ hx
   have e1 := (hg5 (k * 3) (by omega)).trans v1
   have e2 := (hg5 (k * 3 + 1) (by omega)).trans v2
   have e3 := (hg5 (k * 3 + 2) (by omega)).trans v3
   have hok := HM.out.ok x (List.mem_of_getElem? hx)
   have Hnext := hid (zHc hx)
   have hlk := HBytes.out k
   have Hlk := hid (show (pre ++ (l.take k).flatMap stpB).length ≤ 20000000 by rw [List.length_append]; omega)
   obtain ⟨xa, xl, xt⟩ := x
   simp only at e1 e2 e3
   have hxt := zAl xt
   have HBx := hid (Blk.new wr [.int .i64 xa, .int .i64 xl, .string (ba xt)] 221)
   have hBa : Below wr.heap.size wr (wr.alloc (.cells #[.int .i64 xa, .int .i64 xl, .string (ba xt)] 221)) := (Below.refl _ wr).alloc (Nat.le_refl _) _
   have HWa := hid (zCg HW.out hBa)
   have HTa := hid (HT.out.trans (Touch.of_below hBa))
   have hqb : wr.heap.size ≠ bw := by omega
   rcases hok with ⟨h1, h2, h3, h4⟩ | ⟨h1, h2, h3, h4, h5, h6⟩
   ·simp only at h1 h2 h3 h4
    subst h2 h3
    have he := ba_full h1
    have HsB := hid (show stpB ⟨0, 0, xt⟩ = cnL (2 * xt.length) ++ xt by unfold stpB; rw [if_pos h1])
    obtain ⟨n2, hn2⟩ : ∃ n2, n2 = 2 * xt.length := ⟨_, rfl⟩
    have hn2i : 2 * (xt.length : Int) = (n2 : Int) := by omega
    have HNm := hid (fun w' (h : isW bw (pre ++ (l.take k).flatMap stpB) w') => zBy bw n2 _ w' h (by omega) (by have := Hlk.out; omega))
    have Hn2 := hid hn2
    have hc2 := zAI (n := n2) (by omega)
    clear hg5 v1 v2 v3 hx hlk hn2 h1
    go_upto_region 11 with fail
    generalize wr.alloc (.cells #[.int .i64 0, .int .i64 0, .string (ba xt)] 221) = wx at HBx HWa HTa ⊢
    generalize wr.heap.size = qx at HBx hqb ⊢
    have j2 : wx.cell? ⟨qx, 2, none⟩ = some (.string (ba xt)) := HBx.out.cell 2
    go_wp2_with fail
    refine (HNm.out _ HWa.out).mono ?_
    clear HNm
    rintro e w6 ⟨rfl, hW6, hB6, hK6⟩
    have HBx6 := hid (hK6 _ _ _ hqb (by decide) HBx.out)
    have i2 : w6.cell? ⟨qx, 2, none⟩ = some (.string (ba xt)) := HBx6.out.cell 2
    have hs6 := zEk hW6
    have HWr := hid (zFm bw _ xt w6 hW6 (by rw [List.length_append]; have := Hlk.out; omega) (by omega))
    have HT6 := hid (HTa.out.trans (Touch.of_b hB6))
    clear hW6 hB6 hK6 j2
    go_wp2_with fail
    refine HWr.out.mono ?_
    clear HWr
    rintro e w7 ⟨rfl, hW7, hB7, hK7⟩
    have HW7 := hid (show isW bw (pre ++ (l.take (k + 1)).flatMap stpB) w7 by
     rw [Hnext.out, HsB.out, ← Hn2.out, ← List.append_assoc, ← List.append_assoc]; exact hW7)
    have HT7 := hid (HT6.out.trans (Touch.of_b hB7))
    clear hW7 hB7 hK7
    go_wp2_with fail
    go_roundw
    case rel => exact ⟨k + 1, by go_num, by omega, HW7, HT7⟩
    case measure => simp [intOf]; omega
   ·simp only at h1 h2 h3 h4 h5 h6
    subst h1
    have he := ba_empty
    have HsB := hid (show stpB ⟨xa, xl, []⟩ = cnL (2 * xl + 1).toNat ++ cnL xa.toNat by unfold stpB; rw [if_neg (by simp)])
    obtain ⟨n2, hn2⟩ : ∃ n2 : Nat, (n2 : Int) = 2 * xl + 1 := ⟨(2 * xl + 1).toNat, by omega⟩
    obtain ⟨na, hna⟩ : ∃ na : Nat, (na : Int) = xa := ⟨xa.toNat, by omega⟩
    have Hn2 := hid (show (2 * xl + 1).toNat = n2 by omega)
    have Hna := hid (show xa.toNat = na by omega)
    have hn2i : 2 * xl + 1 = (n2 : Int) := hn2.symm
    have HNm := hid (fun w' (h : isW bw (pre ++ (l.take k).flatMap stpB) w') => zBy bw n2 _ w' h (by omega) (by have := Hlk.out; omega))
    have hc2 := zAI (n := n2) (by omega)
    have hna4 : na ≤ 4611686018427387903 := by omega
    subst hna
    clear hg5 v1 v2 v3 hx hlk hn2 hxt
    go_upto_region 11 with fail
    generalize wr.alloc (.cells #[.int .i64 (na : Int), .int .i64 xl, .string (ba [])] 221) = wx at HBx HWa HTa ⊢
    generalize wr.heap.size = qx at HBx hqb ⊢
    have j1 : wx.cell? ⟨qx, 1, none⟩ = some (.int .i64 xl) := HBx.out.cell 1
    have j2 : wx.cell? ⟨qx, 2, none⟩ = some (.string (ba [])) := HBx.out.cell 2
    go_wp2_with fail
    refine (HNm.out _ HWa.out).mono ?_
    clear HNm
    rintro e w6 ⟨rfl, hW6, hB6, hK6⟩
    have HBx6 := hid (hK6 _ _ _ hqb (by decide) HBx.out)
    have i0 : w6.cell? ⟨qx, 0, none⟩ = some (.int .i64 (na : Int)) := HBx6.out.cell 0
    have HNm := hid (zBy bw na _ w6 hW6 hna4 (by rw [List.length_append]; have := Hlk.out; omega))
    have HT6 := hid (HTa.out.trans (Touch.of_b hB6))
    clear hW6 hB6 hK6 j1 j2
    go_wp2_with fail
    refine HNm.out.mono ?_
    clear HNm
    rintro e w7 ⟨rfl, hW7, hB7, hK7⟩
    have HW7 := hid (show isW bw (pre ++ (l.take (k + 1)).flatMap stpB) w7 by
     rw [Hnext.out, HsB.out, Hn2.out, Hna.out, ← List.append_assoc, ← List.append_assoc]; exact hW7)
    have HT7 := hid (HT6.out.trans (Touch.of_b hB7))
    clear hW7 hB7 hK7
    go_wp2_with fail
    go_roundw
    case rel => exact ⟨k + 1, by go_num, by omega, HW7, HT7⟩
    case measure => simp [intOf]; omega
  ·have hkm : k = m := by omega
   subst hkm
   have he : pre ++ (l.take k).flatMap stpB = zDT ⟨bl, sl, (T.length : Nat), l⟩ := by
    rw [Hm.out, List.take_of_length_le (Nat.le_refl _), Hpre.out]
    unfold zDT
    simp
   have HS := hid (string_w bw _ wr HW.out)
   rw [he] at HS
   clear he
   go_wp2_with fail
   refine HS.out.mono ?_
   clear HS
   rintro e w6 ⟨rfl, hb6⟩
   have HT6 := hid (HT.out.trans (Touch.of_b hb6))
   clear hb6
   go_wp2_with fail
   go_ret2
   exact ⟨rfl, by rw [← Hgx.out]; exact HB2.out.trans (HT6.out.below (by omega) (fun k hk e => by omega))⟩
end Go.Proofs.YtaemlplcjjbamaaGreatDoor
set_option maxRecDepth 100000
set_option maxHeartbeats 8000000
namespace Go.Proofs.YtaemlplcjjbamaaGreatDoor
open Go.Lib (hid)
open Go Go.RowKit
set_option linter.unusedVariables false
theorem info_i64 : (Tryz.prog.info? 3).map (fun i => (i.zero, i.size, i.bytes)) = some (some (.int .i64 0), 1, 8) := by kernel_rfl
theorem cnT_ba (n : Nat) : cnT n = ba (cnL n) := rfl
theorem zBU (B n : Nat) (bs : List UInt8) (w : World) (h : isW B bs w) (hn : n ≤ 4611686018427387903) (hlen : bs.length ≤ 10000000000) :
  Calls Tryz.prog 155 #[.int .i64 (n : Int), .pointer (some ⟨B, 0, none⟩)] w fun e w' => e = .returned (.tuple #[]) ∧ isW B (bs ++ cnL n) w' ∧ Below B w w' ∧ KeepB B w w' := by
 have H := hid h
 have hz := zAI hn
 have HN := hid (zDa n w hn)
 have hBw := zEk h
 clear h
 go_enter Tryz.func155, Tryz.ntmps155
 go_wp2_with fail
 refine HN.out.mono ?_
 rintro e w1 ⟨rfl, hb1⟩
 have hs1 := hb1.size
 have H1 := hid (zCg H.out hb1)
 rw [cnT_ba]
 go_wp2_with fail
 refine (zFm B bs (cnL n) w1 H1.out (by omega) (by omega)).mono ?_
 rintro e w2 ⟨rfl, h2, hb2, hk2⟩
 have HR := hid (show isW B (bs ++ cnL n) w2 ∧ Below B w w2 ∧ KeepB B w w2 from ⟨h2, (hb1.mono (by omega)).trans hb2, (KeepB.of_below hb1).trans hk2⟩)
 clear h2 hb2 hk2
 go_wp2_with fail
 go_end0
 exact ⟨rfl, HR.out⟩
structure zBu (B q1 q5 q7 f gp : Nat) (S : List UInt8) (from_ : Nat) (F : Fd) (w : World) : Prop where
 text : Blk w q1 [.string (ba S)] 9
 num : Blk w q5 [.func (.func 155) #[] #[.pointer (some ⟨B, 0, none⟩)]] 139
 from_ : Blk w q7 [.int .i64 (from_ : Int)] 3
 fd : FdAt w f gp S F
theorem zBu.keep {B q1 q5 q7 f gp : Nat} {S : List UInt8} {from_ : Nat} {F : Fd} {w w' : World} (h : zBu B q1 q5 q7 f gp S from_ F w) (hk : KeepB B w w') (hn : B ≠ q1 ∧ B ≠ q5 ∧ B ≠ q7 ∧ B ≠ f ∧ B ≠ gp) : zBu B q1 q5 q7 f gp S from_ F w' :=
 ⟨hk _ _ _ (Ne.symm hn.1) (by decide) h.text, hk _ _ _ (Ne.symm hn.2.1) (by decide) h.num, hk _ _ _ (Ne.symm hn.2.2.1) (by decide) h.from_, ⟨hk _ _ _ (Ne.symm hn.2.2.2.1) (by decide) h.fd.blk, hk _ _ _ (Ne.symm hn.2.2.2.2) (by decide) h.fd.row, h.fd.ok⟩⟩
theorem zBu.touch {B q1 q5 q7 f gp : Nat} {S : List UInt8} {from_ : Nat} {F F' : Fd} {w w' : World} (h : zBu B q1 q5 q7 f gp S from_ F w) (ht : Touch (InFd f gp) w w') (hF : FdAt w' f gp S F') (h7 : q7 ≠ f ∧ q7 ≠ gp) : zBu B q1 q5 q7 f gp S from_ F' w' :=
 ⟨h.text.touch ht (fun e => e.elim (fun e => h.text.ne h.fd.blk (by decide) e) (fun e => h.text.ne h.fd.row (by decide) e)), h.num.touch ht (fun e => e.elim (fun e => h.num.ne h.fd.blk (by decide) e) (fun e => h.num.ne h.fd.row (by decide) e)), h.from_.touch ht (fun e => e.elim h7.1 h7.2), hF⟩
theorem zBu.store {B q1 q5 q7 f gp : Nat} {S : List UInt8} {from_ : Nat} {F : Fd} {w : World} (h : zBu B q1 q5 q7 f gp S from_ F w) (n : Nat) (h7 : q7 ≠ f ∧ q7 ≠ gp) : zBu B q1 q5 q7 f gp S n F (w.setCell ⟨q7, 0, none⟩ (.int .i64 (n : Int))) :=
 ⟨h.text.set_other (a := ⟨q7, 0, none⟩) (fun e => h.text.ne h.from_ (by decide) e) _, h.num.set_other (a := ⟨q7, 0, none⟩) (fun e => h.num.ne h.from_ (by decide) e) _, h.from_.set 0 _,
  ⟨h.fd.blk.set_other (a := ⟨q7, 0, none⟩) (Ne.symm h7.1) _, h.fd.row.set_other (a := ⟨q7, 0, none⟩) (Ne.symm h7.2) _, h.fd.ok⟩⟩
theorem zIe (S : List UInt8) (a b : Nat) (h : b ≤ 1048576) : (zAF S a b).length ≤ 9 + (b - a) := by
 unfold zAF
 by_cases hlt : a < b
 ·rw [if_pos hlt, List.length_append, List.length_take]
  have := zAI (n := 2 * (b - a)) (by omega)
  omega
 ·rw [if_neg hlt]; exact Nat.zero_le _
theorem isW_fd {B f gp : Nat} {bs : List UInt8} {S : List UInt8} {F : Fd} {w w' : World} (h : isW B bs w) (ht : Touch (InFd f gp) w w') (hF : FdAt w f gp S F) : isW B bs w' :=
 zHW h ht (fun k hk => by
  rcases hk with rfl | rfl
  ·exact ⟨_, _, hF.blk, by decide, by decide⟩
  ·exact ⟨_, _, hF.row, by decide, by decide⟩)
theorem isW_store {B q : Nat} {bs : List UInt8} {w : World} {cs : List Value} (h : isW B bs w) (hq : Blk w q cs 3) (v : Value) : isW B bs (w.setCell ⟨q, 0, none⟩ v) :=
 zHW h (zAA (o := 0) (Touch.refl (fun k => k = q) w) v) (fun k hk => by
  subst hk
  exact ⟨_, _, hq, by decide, by decide⟩)
theorem toks_zero {S : List UInt8} {fu at_ from_ back : Nat} {F F' : Fd} (h : F.longest S at_ = ((back, 0), F')) (hlt : at_ < S.length) : zAD S (fu + 1) at_ from_ F = zAD S fu (at_ + 1) from_ F' := by
 rw [zAD, if_pos hlt, h]; rfl
theorem toks_copy {S : List UInt8} {fu at_ from_ back n : Nat} {F F' : Fd} (h : F.longest S at_ = ((back, n), F')) (hlt : at_ < S.length) (hn : n ≠ 0) : zAD S (fu + 1) at_ from_ F = zAF S from_ at_ ++ (cnL (2 * (n - 4) + 1) ++ (cnL (back - 1) ++ zAD S fu (at_ + n) (at_ + n) F')) := by
 rw [zAD, if_pos hlt, h]
 show (if n = 0 then _ else _) = _
 rw [if_neg hn]
theorem toks_end {S : List UInt8} {fu at_ from_ : Nat} {F : Fd} (hlt : ¬ at_ < S.length) : zAD S (fu + 1) at_ from_ F = zAF S from_ S.length := by
 rw [zAD, if_neg hlt]
theorem zCW (B q1 q5 q7 f gp : Nat) (S : List UInt8) (from_ to_ : Nat) (F : Fd) (bs : List UInt8) (w : World) (h : zBu B q1 q5 q7 f gp S from_ F w) (hB : isW B bs w) (hn : B ≠ q1 ∧ B ≠ q5 ∧ B ≠ q7 ∧ B ≠ f ∧ B ≠ gp)
  (hS : S.length ≤ 1099511627) (ht : to_ ≤ S.length) (hlen : bs.length ≤ 1000000000) :
  Calls Tryz.prog 156 #[.int .i64 (to_ : Int), .pointer (some ⟨q7, 0, none⟩), .pointer (some ⟨q5, 0, none⟩), .pointer (some ⟨B, 0, none⟩), .pointer (some ⟨q1, 0, none⟩)] w fun e w' => e = .returned (.tuple #[]) ∧ isW B (bs ++ zAF S from_ to_) w' ∧ zBu B q1 q5 q7 f gp S from_ F w' ∧ Below B w w' := by
 have Hh := hid h
 have HB := hid hB
 have Hn := hid hn
 have c1 : w.cell? ⟨q1, 0, none⟩ = some (.string (ba S)) := h.text.cell 0
 have c5 : w.cell? ⟨q5, 0, none⟩ = some (.func (.func 155) #[] #[.pointer (some ⟨B, 0, none⟩)]) := h.num.cell 0
 have c7 : w.cell? ⟨q7, 0, none⟩ = some (.int .i64 (from_ : Int)) := h.from_.cell 0
 have hsz := zAl S
 clear h hB hn
 by_cases hlt : from_ < to_
 ·have HT := hid (show zAF S from_ to_ = cnL (2 * (to_ - from_)) ++ (S.drop from_).take (to_ - from_) by unfold zAF; rw [if_pos hlt])
  obtain ⟨d, hd⟩ : ∃ d, d = to_ - from_ := ⟨_, rfl⟩
  have hw1 : IntKind.i64.wrap ((to_ : Int) - (from_ : Int)) = (d : Int) := by rw [IntKind.wrap_i64]; omega
  obtain ⟨d2, hd2⟩ : ∃ d2, d2 = 2 * d := ⟨_, rfl⟩
  have hw2 : IntKind.i64.wrap (2 * (d : Int)) = (d2 : Int) := by rw [IntKind.wrap_i64]; omega
  have hdS : d ≤ S.length := by omega
  rw [← hd, ← hd2] at HT
  have Hd := hid hd
  have hd2S : d2 ≤ 2 * S.length := by omega
  clear hd hd2
  have hcl := zAI (n := d2) (by omega)
  have HN := hid (zBU B d2 bs w HB.out (by omega) (by omega))
  go_enter Tryz.func156, Tryz.ntmps156
  go_wp2_with fail
  refine HN.out.mono ?_
  rintro e w1 ⟨rfl, hB1, hb1, hk1⟩
  have HB1 := hid hB1
  have HP1 := hid (Hh.out.keep hk1 Hn.out)
  have Hb1 := hid hb1
  clear hB1 hb1 hk1 HN c1 c5 c7
  have c1 : w1.cell? ⟨q1, 0, none⟩ = some (.string (ba S)) := HP1.out.text.cell 0
  have c7 : w1.cell? ⟨q7, 0, none⟩ = some (.int .i64 (from_ : Int)) := HP1.out.from_.cell 0
  go_wp2_with fail
  rw [zBl S from_ to_, ← Hd.out]
  have hl := (show ((S.drop from_).take d).length ≤ S.length by rw [List.length_take, List.length_drop]; omega)
  have hBw := zEk HB1.out
  refine (zFm B (bs ++ cnL d2) ((S.drop from_).take d) w1 HB1.out (by rw [List.length_append]; omega) (by omega)).mono ?_
  rintro e w2 ⟨rfl, hB2, hb2, hk2⟩
  have HB2 := hid (show isW B (bs ++ zAF S from_ to_) w2 by rw [HT.out, ← List.append_assoc]; exact hB2)
  have HP2 := hid (HP1.out.keep hk2 Hn.out)
  have Hb2 := hid (Hb1.out.trans hb2)
  clear hB2 hb2 hk2 HB1 HP1 Hb1 c1 c7 hl
  go_wp2_with fail
  go_end0
  exact ⟨rfl, HB2.out, HP2.out, Hb2.out⟩
 ·have HT := hid (show zAF S from_ to_ = [] by unfold zAF; rw [if_neg hlt])
  go_enter Tryz.func156, Tryz.ntmps156
  go_wp2_with fail
  go_end0
  rw [HT.out, List.append_nil]
  exact ⟨rfl, HB.out, Hh.out, Below.refl _ _⟩
theorem zIX : Tryz.zeroCells225 = (Value.string ⟨#[]⟩ :: (List.replicate 4096 (Value.int .i64 0) ++ [.slice none 0 0, .int .i64 0])).toArray := by kernel_rfl
theorem fd_zero (S : List UInt8) (gp : Nat) : (Tryz.zeroCells225.setIfInBounds 0 (.string (ba S))).setIfInBounds 4097 (.slice (some ⟨gp, 0, none⟩) S.length S.length) = (zCc S (Fd.new S) gp).toArray := by
 rw [zIX, List.setIfInBounds_toArray, List.setIfInBounds_toArray, List.set_cons_zero, show 4097 = 4096 + 1 from rfl, List.set_cons_succ, List.set_append_right _ _ (by rw [List.length_replicate]; exact Nat.le_refl _), List.length_replicate, Nat.sub_self]
 unfold zCc Fd.new
 rw [List.map_replicate]
 rfl
theorem fd_start (S : List UInt8) (w : World) : FdAt ((w.alloc (.cells (Array.replicate S.length (.int .i64 0)) 3)).alloc (.cells ((Tryz.zeroCells225.setIfInBounds 0 (.string (ba S))).setIfInBounds 4097 (.slice (some ⟨w.heap.size, 0, none⟩) S.length S.length)) 225)).drew (w.heap.size + 1) w.heap.size S (Fd.new S) := by
 refine ⟨?_, ?_, Fd.new_ok S⟩
 ·have h := Blk.new (w.alloc (.cells (Array.replicate S.length (.int .i64 0)) 3)) (zCc S (Fd.new S) w.heap.size) 225
  rw [World.size_alloc, ← fd_zero] at h
  exact h.drew
 ·have h := (Blk.new w (List.replicate S.length (.int .i64 0)) 3).alloc (.cells ((Tryz.zeroCells225.setIfInBounds 0 (.string (ba S))).setIfInBounds 4097 (.slice (some ⟨w.heap.size, 0, none⟩) S.length S.length)) 225)
  rw [List.toArray_replicate] at h
  have e : (Fd.new S).prev.map iv = List.replicate S.length (.int .i64 0) := by unfold Fd.new; rw [List.map_replicate]; rfl
  rw [e]
  exact h.drew
theorem press_any (S : List UInt8) (w : World) (hS : S.length ≤ 1048576) :
  Calls Tryz.prog 130 #[.string (ba S)] w fun e w' => e = .returned (.tuple #[.string (ba (press S)), .int .i64 0]) ∧ Below w.heap.size w w' := by
 have hmf : ∀ (fn : Fn) (first cap : Array Value) (w : World), (Instr.makeFunc fn first cap).run Tryz.prog w = .ok (.func fn first cap) w := fun _ _ _ _ => rfl
 have hsz := zAl S
 have hmk := fun W => zBT (P := Tryz.prog) 130 3 (.int .i64 0) 8 Tryz.underlying130 info_i64 rfl S.length (by omega) (by omega) W
 go_enter Tryz.func130, Tryz.ntmps130
 go_upto_region 4 with fail
 have HQ1 := hid ((Blk.new w [.string (ba S)] 9).alloc (.cells #[.pointer none, .slice none 0 0] 134))
 have HW1 := hid (show isW (w.heap.size + 1) [] ((w.alloc (.cells #[.string (ba S)] 9)).alloc (.cells #[.pointer none, .slice none 0 0] 134)) by
  have h := isW_new (w.alloc (.cells #[.string (ba S)] 9))
  rw [World.size_alloc] at h
  exact h)
 have HB1 := hid (((Below.refl w.heap.size w).alloc (Nat.le_refl _) (.cells #[.string (ba S)] 9)).alloc (by simp) (.cells #[.pointer none, .slice none 0 0] 134))
 have hz1 : ((w.alloc (.cells #[.string (ba S)] 9)).alloc (.cells #[.pointer none, .slice none 0 0] 134)).heap.size = w.heap.size + 1 + 1 := by simp
 have hq1 : w.heap.size < w.heap.size + 1 := Nat.lt_succ_self _
 generalize (w.alloc (.cells #[.string (ba S)] 9)).alloc (.cells #[.pointer none, .slice none 0 0] 134) = w1 at HQ1 HW1 HB1 hz1 ⊢
 obtain ⟨B, hB⟩ : ∃ B, B = w.heap.size + 1 := ⟨_, rfl⟩
 rw [← hB] at HW1 hz1 hq1 ⊢
 obtain ⟨q1, hq⟩ : ∃ q1, q1 = w.heap.size := ⟨_, rfl⟩
 rw [← hq] at HQ1 hq1 ⊢
 have hzz : w1.heap.size = B + 1 := hz1
 have HBq := hid (And.intro hB hq)
 clear hB hq hz1
 have Hzz := hid hzz
 clear hzz
 have a1 : (w1.alloc (.cells #[.nilFunc] 139)).cell? ⟨w1.heap.size, 0, none⟩ = some .nilFunc := (Blk.new w1 [.nilFunc] 139).cell 0
 have a2 : (w1.alloc (.cells #[.nilFunc] 139)).frozen? ⟨w1.heap.size, 0, none⟩ = false := (Blk.new w1 [.nilFunc] 139).free 0
 have a3 : w1.heap.size < (w1.alloc (.cells #[.nilFunc] 139)).heap.size := by simp
 have HQ5 := hid (Blk.new w1 [.func (.func 155) #[] #[.pointer (some ⟨B, 0, none⟩)]] 139)
 have hbs : Below w1.heap.size w1 (w1.alloc (.cells #[.func (.func 155) #[] #[.pointer (some ⟨B, 0, none⟩)]] 139)) := (Below.refl _ _).alloc (Nat.le_refl _) _
 have HQ1b := hid (HQ1.out.below hbs)
 have HW1b := hid (zCg HW1.out hbs)
 have HB1b := hid (HB1.out.trans (hbs.mono HB1.out.size))
 have hz5 : B < w1.heap.size := by have := Hzz.out; omega
 obtain ⟨q5, hq5⟩ : ∃ q5, w1.heap.size = q5 := ⟨_, rfl⟩
 rw [hq5] at a1 a2 a3 HQ5 hz5
 clear hbs HQ1 HW1 HB1
 go_upto_region 5 with fail
 generalize w1.alloc (.cells #[.func (.func 155) #[] #[.pointer (some ⟨B, 0, none⟩)]] 139) = w2 at HQ5 HQ1b HW1b HB1b ⊢
 clear a1 a2 a3
 have Hq5 := hid hq5
 clear hq5
 have c1 : w2.cell? ⟨q1, 0, none⟩ = some (.string (ba S)) := HQ1b.out.cell 0
 have c5 : w2.cell? ⟨q5, 0, none⟩ = some (.func (.func 155) #[] #[.pointer (some ⟨B, 0, none⟩)]) := HQ5.out.cell 0
 go_wp2_with fail
 refine (zBU B S.length [] w2 HW1b.out (by omega) (by simp)).mono ?_
 rintro e w3 ⟨rfl, hW3, hb3, hk3⟩
 have HW3 := hid hW3
 have HQ1c := hid (hk3 q1 _ _ (by omega) (by decide) HQ1b.out)
 have HQ5c := hid (hk3 q5 _ _ (by omega) (by decide) HQ5.out)
 have HB3 := hid (show Below w.heap.size w w3 from HB1b.out.trans (hb3.mono (by have := HBq.out.1; omega)))
 have hlt5 := HQ5c.out.lt
 clear hW3 hb3 hk3 HQ1b HQ5 HW1b HB1b c1 c5
 have c1 : w3.cell? ⟨q1, 0, none⟩ = some (.string (ba S)) := HQ1c.out.cell 0
 have hbn : Below w3.heap.size w3 (w3.alloc (.cells (Array.replicate S.length (.int .i64 0)) 3)) := (Below.refl _ _).alloc (Nat.le_refl _) _
 have c1n : (w3.alloc (.cells (Array.replicate S.length (.int .i64 0)) 3)).cell? ⟨q1, 0, none⟩ = some (.string (ba S)) := (HQ1c.out.below hbn).cell 0
 clear hbn
 go_upto_region 6 with fail
 go_region
 have HF4 := hid (fd_start S w3)
 have hb4 : Below w3.heap.size w3 ((w3.alloc (.cells (Array.replicate S.length (.int .i64 0)) 3)).alloc (.cells ((Tryz.zeroCells225.setIfInBounds 0 (.string (ba S))).setIfInBounds 4097 (.slice (some ⟨w3.heap.size, 0, none⟩) S.length S.length)) 225)).drew := (((Below.refl _ _).alloc (Nat.le_refl _) _).alloc (by simp) _).drew
 have hl4 : w3.heap.size + 1 < ((w3.alloc (.cells (Array.replicate S.length (.int .i64 0)) 3)).alloc (.cells ((Tryz.zeroCells225.setIfInBounds 0 (.string (ba S))).setIfInBounds 4097 (.slice (some ⟨w3.heap.size, 0, none⟩) S.length S.length)) 225)).drew.heap.size := by
  show _ < ((w3.alloc _).alloc _).heap.size
  simp
 generalize ((w3.alloc (.cells (Array.replicate S.length (.int .i64 0)) 3)).alloc (.cells ((Tryz.zeroCells225.setIfInBounds 0 (.string (ba S))).setIfInBounds 4097 (.slice (some ⟨w3.heap.size, 0, none⟩) S.length S.length)) 225)).drew = w4 at HF4 hb4 hl4 ⊢
 have HW4 := hid (zCg HW3.out hb4)
 have HQ1d := hid (HQ1c.out.below hb4)
 have HQ5d := hid (HQ5c.out.below hb4)
 have HB4 := hid (HB3.out.trans (hb4.mono HB3.out.size))
 have hgB : B < w3.heap.size := zEk HW3.out
 clear c1n c1 hb4 HW3 HQ1c HQ5c HB3
 generalize Tryz.zeroCells225 = zc
 obtain ⟨gp, hgp⟩ : ∃ gp, w3.heap.size = gp := ⟨_, rfl⟩
 rw [hgp] at HF4 hl4 hgB hlt5 ⊢
 have Hgp := hid hgp
 clear hgp
 obtain ⟨f, hf⟩ : ∃ f, gp + 1 = f := ⟨_, rfl⟩
 rw [hf] at HF4 hl4 ⊢
 have hgf : gp < f := by omega
 have Hf := hid hf
 clear hf
 go_upto_region 9 with fail
 have HQ7 := hid (Blk.new w4 [.int .i64 0] 3)
 have hb5 : Below w4.heap.size w4 (w4.alloc (.cells #[.int .i64 0] 3)) := (Below.refl _ _).alloc (Nat.le_refl _) _
 have HP5 := hid (show zBu B q1 q5 w4.heap.size f gp S 0 (Fd.new S) (w4.alloc (.cells #[.int .i64 0] 3)) from ⟨HQ1d.out.below hb5, HQ5d.out.below hb5, HQ7.out, HF4.out.below hb5⟩)
 have HW5 := hid (zCg HW4.out hb5)
 have HB5 := hid (HB4.out.trans (hb5.mono HB4.out.size))
 clear hb5 HQ7 HQ1d HQ5d HF4 HW4 HB4
 generalize w4.alloc (.cells #[.int .i64 0] 3) = w5 at HP5 HW5 HB5 ⊢
 generalize w4.heap.size = q7 at hl4 HP5 ⊢
 generalize Value.agg _ = junk
 have Hne := hid (show (B ≠ q1 ∧ B ≠ q5 ∧ B ≠ q7 ∧ B ≠ f ∧ B ≠ gp) ∧ (q7 ≠ f ∧ q7 ≠ gp) by omega)
 have HBw := hid (show w.heap.size ≤ B ∧ w.heap.size ≤ f ∧ w.heap.size ≤ gp ∧ w.heap.size ≤ q7 by have := HBq.out.1; omega)
 clear hq1 HBq Hzz hz5 Hq5 hlt5 hgB Hgp hl4 hgf Hf
 have hcS := zAI (n := S.length) (by omega)
 go_wp2_with fail
 go_loopw [9] (fun av wr => ∃ (at_ from_ fu : Nat) (F : Fd) (bs : List UInt8), av = .int .i64 (at_ : Int) ∧ at_ ≤ S.length ∧ from_ ≤ at_ ∧ S.length < fu + at_ ∧ bs.length + (at_ - from_) ≤ 40 * at_ + 20 ∧ Hid (zBu B q1 q5 q7 f gp S from_ F wr) ∧ Hid (isW B bs wr) ∧ Hid (Below w.heap.size w wr) ∧ Hid (F.done ≤ at_) ∧ Hid (bs ++ zAD S fu at_ from_ F = press S)) (fun av _ => S.length - (intOf av).toNat)
 case atStart => exact ⟨0, 0, S.length + 1, Fd.new S, _, rfl, Nat.zero_le _, Nat.le_refl _, by omega, by simp; omega, HP5, HW5, HB5, hid (Nat.le_refl _), hid rfl⟩
 case round =>
  obtain ⟨at_, from_, fu, F, bs, rfl, hat, hfr, hfu, hlen, HP, HW, HBr, Hdn, HE⟩ := hrel
  clear HP5 HW5 HB5
  obtain ⟨fu, rfl⟩ : ∃ k, fu = k + 1 := ⟨fu - 1, by omega⟩
  have c1 : wr.cell? ⟨q1, 0, none⟩ = some (.string (ba S)) := HP.out.text.cell 0
  by_cases hlt : at_ < S.length
  ·have HLg := hid (zIC f gp S F at_ wr HP.out.fd (by omega) hat Hdn.out)
   have HOk := hid (Fd.longest_ok at_ HP.out.fd.ok Hdn.out hat)
   obtain ⟨r, hr⟩ : ∃ r, r = F.longest S at_ := ⟨_, rfl⟩
   rw [← hr] at HLg HOk
   have Hr := hid hr
   clear hr
   obtain ⟨⟨back, n⟩, F'⟩ := r
   go_wp2_with fail
   refine HLg.out.mono ?_
   rintro e w6 ⟨rfl, hF6, hT6⟩
   have HP6 := hid (HP.out.touch hT6 hF6 Hne.out.2)
   have HW6 := hid (isW_fd HW.out hT6 HP.out.fd)
   have HB6 := hid (HBr.out.trans (hT6.below HBr.out.size (fun k hk hi => by have := HBw.out; rcases hi with rfl | rfl <;> omega)))
   have hdn6 := HOk.out.2.1
   clear hF6 hT6 HLg HP HW HBr c1
   by_cases hn0 : n = 0
   ·subst hn0
    have HE6 := hid (show bs ++ zAD S fu (at_ + 1) from_ F' = press S by rw [← HE.out, toks_zero Hr.out.symm hlt])
    have HD6 := hid (show F'.done ≤ at_ + 1 from Nat.le_succ_of_le hdn6)
    clear HE hdn6
    go_wp2_with fail
    go_roundw
    case rel => exact ⟨at_ + 1, from_, fu, F', bs, by go_num, by omega, by omega, by omega, by omega, HP6, HW6, HB6, HD6, HE6⟩
    case measure => simp [intOf]; omega
   ·obtain ⟨h4, hG⟩ := HOk.out.2.2.resolve_left hn0
    obtain ⟨b1, b2, b3, b4, b5, _⟩ := hG
    simp only at h4 b1 b2 b3 b4 b5
    have hn0' : ((n : Int) == 0) = false := by rw [beq_eq_false_iff_ne]; omega
    have HE6 := hid (show bs ++ (zAF S from_ at_ ++ (cnL (2 * (n - 4) + 1) ++ (cnL (back - 1) ++ zAD S fu (at_ + n) (at_ + n) F'))) = press S by rw [← HE.out, toks_copy Hr.out.symm hlt hn0])
    have hpt := zIe S from_ at_ (by omega)
    have HPl := hid (zCW B q1 q5 q7 f gp S from_ at_ F' bs w6 HP6.out HW6.out Hne.out.1 (by omega) hat (by omega))
    have Hd6 := hid (show F'.done ≤ at_ + n by omega)
    obtain ⟨m, hm⟩ : ∃ m, m = 2 * (n - 4) + 1 := ⟨_, rfl⟩
    obtain ⟨c, hc⟩ : ∃ c, c = back - 1 := ⟨_, rfl⟩
    have hw1 : IntKind.i64.wrap ((n : Int) - 4) = (n : Int) - 4 := by rw [IntKind.wrap_i64]; omega
    rw [← hm, ← hc] at HE6
    have hmi : ((m : Nat) : Int) = 2 * ((n : Int) - 4) + 1 := by omega
    have hci : ((c : Nat) : Int) = (back : Int) - 1 := by omega
    have hcm := zAI (n := m) (by omega)
    have hcc := zAI (n := c) (by omega)
    have Hm := hid hmi
    have Hc := hid hci
    have hmb : m ≤ 1000 := by omega
    have hcb : c ≤ 5000 := by omega
    clear hm hc hmi hci HE hdn6 HOk Hr hn0
    go_wp2_with fail
    refine HPl.out.mono ?_
    rintro e w7 ⟨rfl, hW7, hP7, hb7⟩
    have HW7 := hid hW7
    have HP7 := hid hP7
    have HB7 := hid (HB6.out.trans (hb7.mono HBw.out.1))
    clear hW7 hP7 hb7 HW6 HP6 HB6 HPl
    have c5 : w7.cell? ⟨q5, 0, none⟩ = some (.func (.func 155) #[] #[.pointer (some ⟨B, 0, none⟩)]) := HP7.out.num.cell 0
    have HN := hid (zBU B m (bs ++ zAF S from_ at_) w7 HW7.out (by omega) (by rw [List.length_append]; omega))
    go_wp2_with fail
    rw [← Hm.out]
    refine HN.out.mono ?_
    rintro e w8 ⟨rfl, hW8, hb8, hk8⟩
    have HW8 := hid hW8
    have HP8 := hid (HP7.out.keep hk8 Hne.out.1)
    have HB8 := hid (HB7.out.trans (hb8.mono HBw.out.1))
    clear hW8 hb8 hk8 HW7 HP7 HB7 HN c5
    have c5 : w8.cell? ⟨q5, 0, none⟩ = some (.func (.func 155) #[] #[.pointer (some ⟨B, 0, none⟩)]) := HP8.out.num.cell 0
    have HN := hid (zBU B c (bs ++ zAF S from_ at_ ++ cnL m) w8 HW8.out (by omega) (by rw [List.length_append, List.length_append]; omega))
    go_wp2_with fail
    rw [← Hc.out]
    refine HN.out.mono ?_
    rintro e w9 ⟨rfl, hW9, hb9, hk9⟩
    have HW9 := hid hW9
    have HP9 := hid (HP8.out.keep hk9 Hne.out.1)
    have HB9 := hid (HB8.out.trans (hb9.mono HBw.out.1))
    clear hW9 hb9 hk9 HW8 HP8 HB8 HN c5
    have c7 : w9.cell? ⟨q7, 0, none⟩ = some (.int .i64 (from_ : Int)) := HP9.out.from_.cell 0
    have f7 := HP9.out.from_.free 0
    have l7 := HP9.out.from_.lt
    obtain ⟨z, hz⟩ : ∃ z, z = at_ + n := ⟨_, rfl⟩
    have hzi : IntKind.i64.wrap ((at_ : Int) + (n : Int)) = (z : Int) := by rw [IntKind.wrap_i64]; omega
    have HPz := hid (HP9.out.store z Hne.out.2)
    have HWz := hid (isW_store HW9.out HP9.out.from_ (.int .i64 (z : Int)))
    have HBz := hid (HB9.out.setCell (p := ⟨q7, 0, none⟩) HBw.out.2.2.2 (.int .i64 (z : Int)))
    rw [← hz] at Hd6 HE6
    have Hz := hid hz
    clear hz HW9 HP9 HB9
    go_wp2_with fail
    go_roundw
    case rel => exact ⟨z, z, fu, F', bs ++ zAF S from_ at_ ++ cnL m ++ cnL c, by go_num, by have := Hz.out; omega, Nat.le_refl _, by have := Hz.out; omega, by rw [List.length_append, List.length_append, List.length_append]; have := Hz.out; omega, HPz, HWz, HBz, Hd6, hid (by rw [← HE6.out]; simp only [List.append_assoc])⟩
    case measure => simp [intOf]; have := Hz.out; omega
  ·have HE6 := hid (show bs ++ zAF S from_ S.length = press S by rw [← HE.out, toks_end hlt])
   have HPl := hid (zCW B q1 q5 q7 f gp S from_ S.length F bs wr HP.out HW.out Hne.out.1 (by omega) (Nat.le_refl _) (by omega))
   clear HE
   go_wp2_with fail
   refine HPl.out.mono ?_
   rintro e w7 ⟨rfl, hW7, hP7, hb7⟩
   rw [HE6.out] at hW7
   have HW7 := hid hW7
   have HB7 := hid (HBr.out.trans (hb7.mono HBw.out.1))
   clear hW7 hP7 hb7 HW HP HBr HPl c1
   go_wp2_with fail
   refine (string_w B (press S) w7 HW7.out).mono ?_
   rintro e w8 ⟨rfl, hb8⟩
   have HB8 := hid (HB7.out.trans (hb8.mono HBw.out.1))
   go_wp2_with fail
   go_ret2
   exact ⟨rfl, HB8.out⟩
end Go.Proofs.YtaemlplcjjbamaaGreatDoor
namespace Go.Proofs.YtaemlplcjjbamaaGreatDoor
open Go.Lib (hid)
open Go Go.RowKit
set_option linter.unusedVariables false
theorem ba_app (l m : List UInt8) : ba l ++ ba m = ba (l ++ m) := by
 apply ByteArray.ext
 apply Array.toList_inj.1
 rw [ByteArray.data_append]
 simp [ba]
theorem ba_cons (c : UInt8) (l : List UInt8) : (⟨#[c]⟩ : ByteArray) ++ ba l = ba (c :: l) := ba_app [c] l
theorem zEs (S : List UInt8) (w : World) (hS : S.length ≤ 1048576) :
  Calls Tryz.prog 115 #[.string (ba S)] w fun e w' => e = .returned (.tuple #[.string (ba (wrapL S)), .int .i64 0]) ∧ Below w.heap.size w w' := by
 have hsz := zAl S
 have hsz2 := zAl (press S)
 have HP := hid (press_any S w hS)
 by_cases hlt : (press S).length < S.length
 ·have HE := hid (show wrapL S = 90 :: press S by unfold wrapL; rw [if_pos hlt])
  go_enter Tryz.func115, Tryz.ntmps115
  go_wp2_with fail
  refine HP.out.mono ?_
  rintro e w1 ⟨rfl, hb1⟩
  have HB := hid hb1
  go_wp2_with fail
  go_ret2
  rw [HE.out, ← ba_cons]
  exact ⟨rfl, HB.out⟩
 ·have HE := hid (show wrapL S = 82 :: S by unfold wrapL; rw [if_neg hlt])
  go_enter Tryz.func115, Tryz.ntmps115
  go_wp2_with fail
  refine HP.out.mono ?_
  rintro e w1 ⟨rfl, hb1⟩
  have HB := hid hb1
  go_wp2_with fail
  go_ret2
  rw [HE.out, ← ba_cons]
  exact ⟨rfl, HB.out⟩
end Go.Proofs.YtaemlplcjjbamaaGreatDoor
namespace Go.Proofs.YtaemlplcjjbamaaGreatDoor
open Go.Lib (hid)
set_option maxRecDepth 100000
set_option maxHeartbeats 8000000
open Go Go.RowKit
set_option linter.unusedVariables false
variable {B : List ByteArray} {O : List UInt8} {T e : TypeId} {Ts Us : List TypeId} {b base c k mb n q sz : Nat} {cs xs : List Value} {l : List Int} {ov v : Value} {w w' : World}
theorem zAo.self_ne (h : zAo w k mb B) : k ≠ mb := by
 intro e
 obtain ⟨D, ⟨es, clock, k1, _⟩, _⟩ := h.own
 have hb : Blk w k _ _ := h.at_
 subst e
 unfold Blk at hb
 rw [k1] at hb
 cases hb
theorem ba_data (s : ByteArray) : ∃ l : List UInt8, ba l = s ∧ l.length = s.size := ⟨s.data.toList, by cases s; simp [ba], by cases s; simp [ByteArray.size]⟩
def gensV (l : List Int) : List Value := l.map (Value.int .i64)
theorem zIx (h : w.ownsRow base 3 1 v l.length (gensV l)) : ∃ ad cap, v = .slice ad l.length cap ∧ zEK .i64 w ad l := by
 rcases h.2 with ⟨rfl, h0⟩ | ⟨g, cap, cur, rfl, hb, hg, h3, h4, h5, h6⟩
 ·exact ⟨none, 0, by rw [h0], Or.inl (List.eq_nil_of_length_eq_zero h0)⟩
 ·refine ⟨_, cap, rfl, Or.inr ⟨g, 0, rfl, (h.lt g rfl).2, fun i hi => ?_⟩⟩
  have := h.cells (g := g) rfl i (.int .i64 l[i]) (by unfold gensV; rw [List.getElem?_map, List.getElem?_eq_getElem hi]; rfl)
  rw [addr_add] at this
  rw [Nat.zero_add]
  exact this
attribute [local go_sem ↓] Go.wp_at_zero Go.wp_at_succ
theorem zAb.peerS {c : CSt} {ps : List Peer} {v : Nat} {q : Peer} (h : zAb w b { c with peers := zAg (ps.set v q) }) (hv : v < ps.length) (j : Nat) (hj : j < 8) : w.cell? ⟨b, 12 + v * 8 + j, none⟩ = q.vals[j]? := by
 have := h.peer rfl v (by rw [List.length_set]; exact hv) j hj
 rw [this, List.getElem_set_self]
def packVals (gen bas : Int) (mk : ByteArray) (pv : Value) : List Value := [.int .i64 gen, .int .i64 bas, .string mk, pv]
theorem zAo.not_blk (h : zAo w k mb B) (hb : Blk w mb cs T) : False := by
 obtain ⟨D, ⟨es, clock, k1, _⟩, _⟩ := h.own
 unfold Blk at hb
 rw [k1] at hb
 cases hb
theorem zAo.not_row (h : zAo w k mb B) (hr : w.ownsRow base e sz v n xs) (hv : v.ownBlock = some mb) : False := by
 obtain ⟨D, ⟨es, clock, k1, _⟩, _⟩ := h.own
 rcases hr.2 with ⟨rfl, _⟩ | ⟨g, cap, cur, rfl, _, hb, _⟩
 ·cases hv
 ·have hg : g = mb := by simpa [Value.ownBlock] using hv
  subst hg
  rw [k1] at hb
  cases hb
def KeepT (Ts : List TypeId) (w w' : World) : Prop :=
 (∀ q cs T, ¬ T ∈ Ts → Blk w q cs T → Blk w' q cs T) ∧ (∀ B T sz v k xs, ¬ T ∈ Ts → w.ownsRow B T sz v k xs → w'.ownsRow B T sz v k xs)
def Tyd (Ts : List TypeId) (w : World) (q : Nat) : Prop := (∃ cs T, T ∈ Ts ∧ Blk w q cs T) ∨ (∃ B T sz v k xs, T ∈ Ts ∧ w.ownsRow B T sz v k xs ∧ v.ownBlock = some q)
def IsMap (w : World) (q : Nat) : Prop := ∃ kb Bk, zAo w kb q Bk
theorem Tyd.blk (h : Blk w q cs T) (hT : T ∈ Ts) : Tyd Ts w q := Or.inl ⟨cs, T, hT, h⟩
theorem Tyd.row {q B sz k : Nat} (h : w.ownsRow B T sz v k xs) (hT : T ∈ Ts) (hq : v.ownBlock = some q) : Tyd Ts w q := Or.inr ⟨B, T, sz, v, k, xs, hT, h, hq⟩
theorem KeepT.of_touch {S : Nat → Prop} (h : Touch S w w') (hS : ∀ q, q < w.heap.size → S q → Tyd Ts w q ∨ IsMap w q) : KeepT Ts w w' := by
 constructor
 ·intro q cs T hT hq
  refine hq.touch h (fun hs => ?_)
  rcases hS q hq.lt hs with (⟨cs', T', h1, h2⟩ | ⟨B, T', sz, v, k, xs, h1, h2, h3⟩) | ⟨kb, Bk, hk⟩
  ·exact hq.ne h2 (fun e => hT (e ▸ h1)) rfl
  ·exact zAp h2 hq (fun e => hT (e ▸ h1)) h3
  ·exact hk.not_blk hq
 ·intro B T sz v k xs hT hr
  refine zAj hr h (fun g hg hs => ?_)
  rcases hS g (zCe hr hg).2 hs with (⟨cs', T', h1, h2⟩ | ⟨B', T', sz', v', k', xs', h1, h2, h3⟩) | ⟨kb, Bk, hk⟩
  ·exact zAp hr h2 (fun e => hT (e ▸ h1)) hg
  ·exact zCf hr h2 (fun e => hT (e ▸ h1)) hg h3
  ·exact hk.not_row hr hg
theorem KeepT.trans {a b c : World} (h : KeepT Ts a b) (k : KeepT Ts b c) : KeepT Ts a c :=
 ⟨fun q cs T hT hq => k.1 q cs T hT (h.1 q cs T hT hq), fun B T sz v n xs hT hr => k.2 B T sz v n xs hT (h.2 B T sz v n xs hT hr)⟩
theorem KeepT.mono {a b : World} (h : KeepT Ts a b) (hs : ∀ t ∈ Ts, t ∈ Us) : KeepT Us a b :=
 ⟨fun q cs T hT hq => h.1 q cs T (fun e => hT (hs T e)) hq, fun B T sz v n xs hT hr => h.2 B T sz v n xs (fun e => hT (hs T e)) hr⟩
theorem KeepT.of_below (h : Below w.heap.size w w') : KeepT Ts w w' := ⟨fun q cs T _ hq => hq.below h, fun B T sz v k xs _ hr => zAc hr h⟩
theorem KeepT.of_grown {B sz k : Nat} (hr : w.ownsRow B T sz ov k xs) (hg : w.grownBy w' ov.ownBlock) (hT : T ∈ Ts) : KeepT Ts w w' :=
 ⟨fun q cs T' hT' hq => zAr hq hg (zAp hr hq (fun e => hT' (e ▸ hT))), fun B' T' sz' v' k' xs' hT' hr' => row_grown hr' hg (fun g hg' e => zCf hr' hr (fun e => hT' (e ▸ hT)) hg' e)⟩
def KeepK (w w' : World) : Prop := ∀ kb mb Bk, zAo w kb mb Bk → zAo w' kb mb Bk
theorem KeepK.trans {a b c : World} (h : KeepK a b) (k : KeepK b c) : KeepK a c := fun kb mb Bk hb => k kb mb Bk (h kb mb Bk hb)
theorem KeepK.of_below (h : Below w.heap.size w w') : KeepK w w' := fun kb mb Bk hb => hb.below h
theorem KeepK.of_touch {S : Nat → Prop} (h : Touch S w w') (hS : ∀ q, q < w.heap.size → S q → Tyd Ts w q) (hT : ¬ 91 ∈ Ts) : KeepK w w' := by
 intro kb mb Bk hb
 refine hb.touch h (fun hs => ?_) (fun hs => ?_)
 ·have hl : kb < w.heap.size := hb.at_.lt
  rcases hS kb hl hs with ⟨cs', T', h1, h2⟩ | ⟨B', T', sz', v', k', xs', h1, h2, h3⟩
  ·exact (hb.ne_blk h2 (fun e => hT (e ▸ h1))).1 rfl
  ·exact (hb.ne_row h2 (fun e => hT (e ▸ h1))).1 h3
 ·rcases hS mb hb.map_lt hs with ⟨cs', T', h1, h2⟩ | ⟨B', T', sz', v', k', xs', h1, h2, h3⟩
  ·exact hb.not_blk h2
  ·exact hb.not_row h2 h3
theorem KeepK.of_grown {B sz k : Nat} (hr : w.ownsRow B T sz ov k xs) (hg : w.grownBy w' ov.ownBlock) (hT : T ≠ 91) : KeepK w w' :=
 KeepK.of_touch (Ts := [T]) (S := fun q => ov.ownBlock = some q) (zAm (Touch.refl _ w) hg (fun g hg => Or.inl hg)) (fun q _ hq => Tyd.row hr (by simp) hq) (by simp; exact fun e => hT e.symm)
def Keep (Ts : List TypeId) (w w' : World) : Prop := KeepT Ts w w' ∧ KeepK w w'
theorem Keep.trans {a b c : World} (h : Keep Ts a b) (k : Keep Ts b c) : Keep Ts a c := ⟨h.1.trans k.1, h.2.trans k.2⟩
theorem Keep.of_below (h : Below w.heap.size w w') : Keep Ts w w' := ⟨KeepT.of_below h, KeepK.of_below h⟩
theorem Keep.of_touch {S : Nat → Prop} (h : Touch S w w') (hS : ∀ q, q < w.heap.size → S q → Tyd Ts w q) (hT : ¬ 91 ∈ Ts) : Keep Ts w w' := ⟨KeepT.of_touch h (fun q hq hs => Or.inl (hS q hq hs)), KeepK.of_touch h hS hT⟩
theorem Keep.of_grown {B sz k : Nat} (hr : w.ownsRow B T sz ov k xs) (hg : w.grownBy w' ov.ownBlock) (hT : T ∈ Ts) (hB : T ≠ 91) : Keep Ts w w' := ⟨KeepT.of_grown hr hg hT, KeepK.of_grown hr hg hB⟩
theorem zAb.keep {S : CSt} (h : zAb w c S) (k : KeepT Ts w w') (hT : ¬ 78 ∈ Ts) : zAb w' c S := ⟨k.1 _ _ _ hT h.1, h.2⟩
theorem zAi.keep {t n : Nat} {m : List Bool} (h : zAi w t n m) (k : KeepT Ts w w') (hT : ¬ 115 ∈ Ts) : zAi w' t n m := ⟨k.1 _ _ _ hT h.1, h.2⟩
theorem zCO {S : CSt} (h : zAb w c S) (hT : Touch (fun k => k = c) w w') : Keep [78] w w' :=
 Keep.of_touch hT (fun q _ hq => by subst hq; exact Tyd.blk h.1 (by simp)) (by decide)
end Go.Proofs.YtaemlplcjjbamaaGreatDoor
