/- delta.Apply: a delta that makes a text, by the marks of a book that has seen both. Condition: the sizes. -/
import Derived.Test.YtogobhpnlndcaaaGreatDRight2
import Derived.Test.YtogobhpnlndcaaaGreatFind
import Derived.Test.YtogobhpnlndcaaaGreatWriter
import Derived.Test.YtogobhpnlndcaaaGreatHeld
import Derived.Test.YtogobhpnlndcaaaGreatSign3
namespace Go.Proofs.YtogobhpnlndcaaaGreat
open Go Go.RowKit
set_option linter.unusedVariables false

theorem stpOk.nat {x : Stp} {O : List UInt8} (h : stpOk x (O.length : Nat)) : ∃ a n : Nat, x.at_ = (a : Int) ∧ x.len = (n : Int) ∧ a + n ≤ O.length := by
  rcases h with ⟨h1, h2, h3, h4⟩ | ⟨h1, h2, h3, h4, h5, h6⟩
  · exact ⟨0, 0, h2, h3, Nat.zero_le _⟩
  · exact ⟨x.at_.toNat, x.len.toNat, by omega, by omega, by omega⟩
theorem outS_take_at {O : List UInt8} {l : List Stp} {k : Nat} {x : Stp} (h : l[k]? = some x) : outS O (l.take (k + 1)) = outS O (l.take k) ++ stpOut O x := by
  have e : l.take (k + 1) = l.take k ++ [x] := by
    rw [List.take_add_one, h]
    rfl
  rw [e, outS_append]
  simp [outS]
set_option maxRecDepth 100000 in
set_option maxHeartbeats 4000000 in
theorem dRun_any (sv : Value) (base : Nat) (O T : List UInt8) (l : List Stp) (w : World) (hr : w.ownsRow base 64 3 sv l.length (stpsV l)) (hm : Mk O l T) (hO : O.length ≤ 524288) (hT : T.length ≤ 524288) :
    Calls Tryz.prog 31 #[.string (ba O), sv] w fun e w' => e = .returned (.tuple #[.string (ba T), .int .i64 0]) ∧ Below w.heap.size w w' := by
  have HM := Lib.hid hm
  have hlT : l.length ≤ T.length := by rw [← hm.out]; exact outS_count l hm.ok
  have hOz := ba_size O
  have HR := Lib.hid hr
  obtain ⟨sa, sc, rfl⟩ := row_shape hr
  obtain ⟨m, hml⟩ : ∃ m, m = l.length := ⟨_, rfl⟩
  rw [← hml] at hlT ⊢
  have Hm := Lib.hid hml
  clear hr hm hml
  go_enter Tryz.func31, Tryz.ntmps31
  go_upto_region 2 with fail
  have HW0 := Lib.hid (isW_new w)
  have HB0 := Lib.hid ((Below.refl w.heap.size w).alloc (Nat.le_refl _) (.cells #[.pointer none, .slice none 0 0] 81))
  generalize w.alloc (.cells #[.pointer none, .slice none 0 0] 81) = w0 at HW0 HB0 ⊢
  obtain ⟨bw, hbw⟩ : ∃ bw, bw = w.heap.size := ⟨_, rfl⟩
  rw [← hbw] at HW0 HB0 ⊢
  have Hbw := Lib.hid hbw
  clear hbw
  go_wp2_with fail
  go_loopw [11] (fun kv wr => ∃ k : Nat, kv = .int .i64 (k : Int) ∧ k ≤ m ∧ Hid (isW bw (outS O (l.take k)) wr) ∧ Hid (Below bw w wr)) (fun kv _ => m - (intOf kv).toNat)
  case atStart => exact ⟨0, rfl, Nat.zero_le _, HW0, HB0⟩
  case round =>
    obtain ⟨k, rfl, hk, HW, HB⟩ := hrel
    have hszr := isW_lt HW.out
    by_cases hlt : k < m
    · have HRr := Lib.hid (ownsRow_below HR.out (Hbw.out ▸ HB.out))
      obtain ⟨g, cap, hv, hg2, hg3, hg4, hg6, hg5⟩ := row_some HRr.out (by have := Hm.out; omega)
      simp only [Value.slice.injEq] at hv
      obtain ⟨rfl, _, rfl⟩ := hv
      obtain ⟨x, hx⟩ : ∃ x, l[k]? = some x := ⟨_, List.getElem?_eq_getElem (by have := Hm.out; omega)⟩
      obtain ⟨v1, v2, v3⟩ := stpsV_at hx
      have hml := Hm.out
      have e1 := (hg5 (k * 3) (by omega)).trans v1
      have e2 := (hg5 (k * 3 + 1) (by omega)).trans v2
      have e3 := (hg5 (k * 3 + 2) (by omega)).trans v3
      have hok := HM.out.ok x (List.mem_of_getElem? hx)
      have hnx := outS_take_succ hx hok
      have hle := outS_take_le (O := O) (l := l) (k + 1)
      rw [HM.out.out] at hle
      have Hnext := Lib.hid (outS_take_at (O := O) hx)
      have HSt := Lib.hid (fun w' => stepRight_any x (O.length : Nat) w' hok (by omega) (by omega))
      obtain ⟨a, n, ha, hn, han⟩ := hok.nat
      have HOut := Lib.hid (show stpOut O x = (O.drop a).take n ++ x.text by unfold stpOut; rw [ha, hn]; rfl)
      obtain ⟨xa, xl, xt⟩ := x
      simp only at e1 e2 e3 hnx ha hn HOut
      subst ha hn
      have hxt := ba_size xt
      obtain ⟨o2, ho2⟩ : ∃ o2, o2 = (outS O (l.take (k + 1))).length := ⟨_, rfl⟩
      obtain ⟨o, ho⟩ : ∃ o, o = (outS O (l.take k)).length := ⟨_, rfl⟩
      rw [← ho2, ← ho] at hnx
      rw [← ho2] at hle
      have Ho := Lib.hid ho
      obtain ⟨z, hz⟩ : ∃ z, z = a + n := ⟨_, rfl⟩
      obtain ⟨nx, hnxx⟩ : ∃ nx, nx = n + xt.length := ⟨_, rfl⟩
      have hzw : IntKind.i64.wrap ((a : Int) + (n : Int)) = (z : Int) := by rw [IntKind.wrap_i64]; omega
      have hzp : (a : Int) + (n : Int) = (z : Int) := by omega
      have hnw : IntKind.i64.wrap ((n : Int) + (xt.length : Nat)) = (nx : Int) := by rw [IntKind.wrap_i64]; omega
      have hle2 : ¬ 524288 - (o : Int) < (nx : Int) := by omega
      have how : IntKind.i64.wrap (524288 - (o : Int)) = 524288 - (o : Int) := by rw [IntKind.wrap_i64]; omega
      have HBx := Lib.hid (Blk.new wr [.int .i64 (a : Int), .int .i64 (n : Int), .string (ba xt)] 64)
      have hBa : Below wr.heap.size wr (wr.alloc (.cells #[.int .i64 (a : Int), .int .i64 (n : Int), .string (ba xt)] 64)) := (Below.refl _ wr).alloc (Nat.le_refl _) _
      have HWa := Lib.hid (isW_below HW.out hBa)
      have HBw := Lib.hid (HB.out.trans (hBa.mono (Nat.le_of_lt hszr)))
      have hzO : z ≤ O.length := by omega
      have haz : a ≤ z := by omega
      have HZ := Lib.hid hz
      have Hxtl := Lib.hid (show (outS O (l.take k)).length + n + xt.length ≤ 524288 by omega)
      clear hg5 v1 v2 v3 hx hok ho2 hml hnx hBa ho hnxx hz
      go_wp2_with fail
      refine (HSt.out _).mono ?_
      clear HSt
      rintro e w2 ⟨rfl, hb2⟩
      have HB2 := Lib.hid (HBw.out.trans (hb2.mono (by simp; omega)))
      have HW2 := Lib.hid (isW_below HWa.out hb2)
      have HBx2 := Lib.hid (HBx.out.below hb2)
      have k1 := HBx2.out.cell 1
      have k2 := HBx2.out.cell 2
      simp only [List.getElem?_cons_zero, List.getElem?_cons_succ] at k1 k2
      have hqb : wr.heap.size ≠ bw := by omega
      have HLn := Lib.hid (fun j => (Tryz.Builder_Len bw bw (Lib.byteCells (outS O (l.take k))) (w2.drewN j) (isW_below HW2.out (below_drewN (Below.refl _ _) j))).mono (fun e w' h => (⟨by rw [h.1, Lib.byteCells_length, ← Ho.out], 0, h.2⟩ : e = .returned (.int .i64 (o : Int)) ∧ ∃ i, w' = (w2.drewN j).drewN i)))
      generalize wr.heap.size = qx at k1 k2 hqb HBx2 ⊢
      clear hb2 HBx HBw HWa e1 e2 e3 HB HW
      go_upto_region 7 with fail
      go_quiet ((go_at_call 54; exact quiet_plus (HLn.out _)))
      obtain ⟨w3, hw3⟩ : ∃ w3, w3 = w2.drewN nq := ⟨_, rfl⟩
      have hb3 : Below w2.heap.size w2 w3 := by rw [hw3]; exact below_drewN (Below.refl _ _) _
      rw [← hw3]
      have HW3 := Lib.hid (isW_below HW2.out hb3)
      have HBx3 := Lib.hid (HBx2.out.below hb3)
      have HB3 := Lib.hid (HB2.out.trans (hb3.mono (Nat.le_of_lt (isW_lt HW2.out))))
      have j0 := HBx3.out.cell 0
      have j1 := HBx3.out.cell 1
      simp only [List.getElem?_cons_zero, List.getElem?_cons_succ] at j0 j1
      obtain ⟨Y, hY⟩ : ∃ Y, Y = (O.drop a).take n := ⟨_, rfl⟩
      have hex : (ba O).extract a z = ba Y := by rw [ba_slice, hY, HZ.out, Nat.add_sub_cancel_left]
      have hYl : Y.length ≤ n := by rw [hY, List.length_take]; omega
      have HY := Lib.hid hY
      have hs3 := isW_lt HW3.out
      have HWr := Lib.hid (write_w bw (outS O (l.take k)) Y w3 HW3.out (by have := Hxtl.out; omega) (by omega))
      clear hw3 hb3 hY HLn HW2 HBx2 k1 k2 HB2
      go_wp2_with fail
      (try rw [hex])
      refine HWr.out.mono ?_
      clear HWr hex
      rintro e w4 ⟨rfl, hW4, hB4, hK4⟩
      have HW4 := Lib.hid hW4
      have HB4 := Lib.hid (HB3.out.trans hB4)
      have HBx4 := Lib.hid (hK4 _ _ _ hqb (by decide) HBx3.out)
      have i2 := HBx4.out.cell 2
      simp only [List.getElem?_cons_zero, List.getElem?_cons_succ] at i2
      have hs4 := isW_lt HW4.out
      have HWr := Lib.hid (write_w bw (outS O (l.take k) ++ Y) xt w4 HW4.out (by have := Hxtl.out; rw [List.length_append]; omega) (by omega))
      clear hW4 hB4 hK4 HBx3 HW3 j0 j1
      go_wp2_with fail
      refine HWr.out.mono ?_
      clear HWr
      rintro e w5 ⟨rfl, hW5, hB5, hK5⟩
      have HW5 := Lib.hid (show isW bw (outS O (l.take (k + 1))) w5 by
        rw [Hnext.out, HOut.out, ← HY.out, ← List.append_assoc]; exact hW5)
      have HB5 := Lib.hid (HB4.out.trans hB5)
      clear hW5 hB5 hK5
      go_wp2_with fail
      go_roundw
      case rel => exact ⟨k + 1, by go_num, by omega, HW5, HB5⟩
      case measure => simp [intOf]; omega
    · have hkm : k = m := by omega
      subst hkm
      have he : outS O (l.take k) = T := by rw [Hm.out, List.take_of_length_le (Nat.le_refl _), HM.out.out]
      have HS := Lib.hid (string_w bw _ wr HW.out)
      rw [he] at HS
      clear he
      go_wp2_with fail
      refine HS.out.mono ?_
      clear HS
      rintro e w2 ⟨rfl, hb2⟩
      have HB2 := Lib.hid (HB.out.trans hb2)
      clear hb2
      go_wp2_with fail
      go_ret2
      exact ⟨rfl, by rw [← Hbw.out]; exact HB2.out⟩
end Go.Proofs.YtogobhpnlndcaaaGreat
namespace Go.Proofs.YtogobhpnlndcaaaGreat
open Go Go.RowKit
set_option linter.unusedVariables false

theorem seen_known {B : List ByteArray} {s : ByteArray} (h : s ∈ B) : seen B s = B := by
  unfold seen
  rw [if_pos (known_iff.2 h)]
def ApplySays (kb mb : Nat) (Bk : List ByteArray) (T : List UInt8) (w : World) (e : Ending) (w' : World) : Prop := e = .returned (.tuple #[.string (ba T), .int .i64 0]) ∧ BookIs w' kb mb Bk ∧ Touch (fun j => j = mb) w w'
set_option maxRecDepth 100000 in
set_option maxHeartbeats 4000000 in
theorem dApply_any (kb mb : Nat) (Bk : List ByteArray) (bm sm : ByteArray) (sv : Value) (base : Nat) (O T : List UInt8) (l : List Stp) (w : World) (hK : BookIs w kb mb Bk) (hne : kb ≠ mb) (hB : Bk.length ≤ 900000000) (hO : O.length ≤ 524288) (hT : T.length ≤ 524288)
    (hmO : ba O ∈ Bk) (hmT : ba T ∈ Bk) (hbm : bm = markOf Bk (ba O)) (hsm : sm = markOf Bk (ba T)) (hr : w.ownsRow base 64 3 sv l.length (stpsV l)) (hm : Mk O l T) :
    Calls Tryz.prog 12 #[.pointer (some ⟨kb, 0, none⟩), .string (ba O), dlV bm sm T.length sv] w (ApplySays kb mb Bk T w) := by
  have hb32 : bm.size = 32 := by rw [hbm]; exact markOf_size _ _
  have hs32 : sm.size = 32 := by rw [hsm]; exact markOf_size _ _
  have HRi := Lib.hid (fun w' (h : w'.ownsRow base 64 3 sv l.length (stpsV l)) => dRight_any bm sm sv base O T l w' hb32 hs32 h hm hT)
  have HRu := Lib.hid (fun w' (h : w'.ownsRow base 64 3 sv l.length (stpsV l)) => dRun_any sv base O T l w' h hm hO hT)
  have HMO := Lib.hid (fun w' (h : BookIs w' kb mb Bk) => mark_any kb mb Bk (ba O) w' h (by rw [ba_size]; unfold maxLen; omega) (by omega) hne)
  have HMT := Lib.hid (fun w' (h : BookIs w' kb mb Bk) => mark_any kb mb Bk (ba T) w' h (by rw [ba_size]; unfold maxLen; omega) (by omega) hne)
  rw [seen_known hmO, ← hbm] at HMO
  rw [seen_known hmT, ← hsm] at HMT
  have hkl := hK.at_.lt
  have hml := hK.map_lt
  obtain ⟨sa, sc, rfl⟩ := row_shape hr
  have hbb : (bm.toList != bm.toList) = false := by simp
  have hss : (sm.toList != sm.toList) = false := by simp
  have HB0 := Lib.hid ((Below.refl w.heap.size w).alloc (Nat.le_refl _) (.cells #[.string bm, .string sm, .int .i64 (T.length : Int), .slice sa l.length sc] 33))
  have HQ := Lib.hid (Blk.new w [.string bm, .string sm, .int .i64 (T.length : Int), .slice sa l.length sc] 33)
  have HR0 := Lib.hid (ownsRow_below hr HB0.out)
  have HK0 := Lib.hid (hK.below HB0.out)
  clear hr hm hK hbm hsm hmO hmT hb32 hs32
  unfold dlV at HRi ⊢
  go_enter Tryz.func12, Tryz.ntmps12
  go_upto_region 1 with fail
  generalize w.alloc (.cells #[.string bm, .string sm, .int .i64 (T.length : Int), .slice sa l.length sc] 33) = w0 at HB0 HQ HR0 HK0 ⊢
  obtain ⟨gx, hgx⟩ : ∃ gx, gx = w.heap.size := ⟨_, rfl⟩
  rw [← hgx] at HQ HB0 hkl hml ⊢
  have Hgx := Lib.hid hgx
  clear hgx
  have c0 : w0.cell? ⟨gx, 0, none⟩ = some (.string bm) := HQ.out.cell 0
  have c1 : w0.cell? ⟨gx, 1, none⟩ = some (.string sm) := HQ.out.cell 1
  have c2 : w0.cell? ⟨gx, 2, none⟩ = some (.int .i64 (T.length : Int)) := HQ.out.cell 2
  have c3 : w0.cell? ⟨gx, 3, none⟩ = some (.slice sa l.length sc) := HQ.out.cell 3
  have hgl := HQ.out.lt
  go_wp2_with fail
  refine (HRi.out _ HR0.out).mono ?_
  clear HRi
  rintro e w1 ⟨rfl, hb1⟩
  have HB1 := Lib.hid (HB0.out.trans (hb1.mono (Nat.le_of_lt hgl)))
  have HQ1 := Lib.hid (HQ.out.below hb1)
  have HR1 := Lib.hid (ownsRow_below HR0.out hb1)
  have HK1 := Lib.hid (HK0.out.below hb1)
  have k0 : w1.cell? ⟨gx, 0, none⟩ = some (.string bm) := HQ1.out.cell 0
  have hgl1 := HQ1.out.lt
  clear hb1 c0 c1 c2 c3 HB0 HQ HR0 HK0
  go_upto_region 3 with fail
  have kd : w1.drew.cell? ⟨gx, 0, none⟩ = some (.string bm) := k0
  go_region_held3 (fun w' => w'.cell? ⟨gx, 0, none⟩ = some (.string bm))
    (first | with_reducible exact hk2 | with_reducible exact kd | with_reducible exact k0 | go_keep)
    (first
      | (go_at_call 30; refine (HMO.out _ (HK1.out.below (Below.refl _ w1).drew)).mono ?_; rintro e w2 ⟨rfl, hK2, hT2⟩; have HK2 := Lib.hid hK2; have HT2 := Lib.hid (((Touch.refl (fun j => j = mb) w1).drew).trans hT2); have hk2 : w2.cell? ⟨gx, 0, none⟩ = some (.string bm) := (hT2.cell (p := ⟨gx, 0, none⟩) hgl1 (by show ¬ gx = mb; omega)).trans k0))
  have HQ2 := Lib.hid (HQ1.out.touch HT2.out (by omega))
  have HR2 := Lib.hid (row_touch HR1.out HT2.out (fun g hg e => (HK1.out.ne_row HR1.out (by decide)).2 (by rw [hg, e])))
  have i3 : w2.cell? ⟨gx, 3, none⟩ = some (.slice sa l.length sc) := HQ2.out.cell 3
  clear hK2 hT2 hk2 k0 kd HMO
  go_wp2_with fail
  refine (HRu.out _ HR2.out).mono ?_
  clear HRu
  rintro e w3 ⟨rfl, hb3⟩
  have HQ3 := Lib.hid (HQ2.out.below hb3)
  have HK3 := Lib.hid (HK2.out.below hb3)
  have HT3 := Lib.hid (HT2.out.trans (Touch.of_below hb3))
  have k1 : w3.cell? ⟨gx, 1, none⟩ = some (.string sm) := HQ3.out.cell 1
  have hgl3 := HQ3.out.lt
  clear hb3 i3
  go_upto_region 8 with fail
  have kd1 : w3.drew.cell? ⟨gx, 1, none⟩ = some (.string sm) := k1
  go_region_held3 (fun w' => w'.cell? ⟨gx, 1, none⟩ = some (.string sm))
    (first | with_reducible exact hk4 | with_reducible exact kd1 | with_reducible exact k1 | go_keep)
    (first
      | (go_at_call 30; refine (HMT.out _ (HK3.out.below (Below.refl _ w3).drew)).mono ?_; rintro e w4 ⟨rfl, hK4, hT4⟩; have HK4 := Lib.hid hK4; have HT4 := Lib.hid (HT3.out.trans (((Touch.refl (fun j => j = mb) w3).drew).trans hT4)); have hk4 : w4.cell? ⟨gx, 1, none⟩ = some (.string sm) := (hT4.cell (p := ⟨gx, 1, none⟩) hgl3 (by show ¬ gx = mb; omega)).trans k1))
  clear hK4 hT4 hk4 k1 kd1 HMT
  go_wp2_with fail
  go_ret2
  exact ⟨rfl, HK4.out, (Touch.of_below (by rw [← Hgx.out]; exact HB1.out)).trans HT4.out⟩
end Go.Proofs.YtogobhpnlndcaaaGreat
