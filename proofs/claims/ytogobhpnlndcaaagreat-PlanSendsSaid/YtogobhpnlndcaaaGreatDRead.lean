/- delta.Read at the bytes of a delta that makes a text: that delta. Condition: the sizes. -/
import Derived.Test.YtogobhpnlndcaaaGreatOpenW
import Derived.Test.YtogobhpnlndcaaaGreatDBytes
import Derived.Test.YtogobhpnlndcaaaGreatNewTab
import Derived.Test.YtogobhpnlndcaaaGreatReadEnd
namespace Go.Proofs.YtogobhpnlndcaaaGreat
open Go Go.RowKit
set_option linter.unusedVariables false

def StepSays (rb : Nat) (S : List UInt8) (x : Stp) (rest : List UInt8) (w : World) (e : Ending) (w' : World) : Prop := e = .returned (.agg #[.int .i64 x.at_, .int .i64 x.len, .string (ba x.text)]) ∧ RdAt w' rb S ⟨rest, 0⟩ ∧ Touch (fun k => k = rb) w w'
set_option maxRecDepth 100000 in
set_option maxHeartbeats 4000000 in
theorem dStep_any (rb : Nat) (S : List UInt8) (x : Stp) (b : Int) (rest : List UInt8) (w : World) (hx : stpOk x b) (h : RdAt w rb S ⟨stpB x ++ rest, 0⟩) (hS : S.length ≤ 1099511627776) :
    Calls Tryz.prog 25 #[.pointer (some ⟨rb, 0, none⟩)] w (StepSays rb S x rest w) := by
  have HB0 := Lib.hid ((Below.refl w.heap.size w).alloc (Nat.le_refl _) (.cells #[.int .i64 0, .int .i64 0, .string ⟨#[]⟩] 64))
  have HQ0 := Lib.hid (Blk.new w [.int .i64 0, .int .i64 0, .string ⟨#[]⟩] 64)
  have HR0 := Lib.hid (h.below HB0.out)
  have hrl := h.blk.lt
  clear h
  obtain ⟨xa, xl, xt⟩ := x
  rcases hx with ⟨h1, h2, h3, h4⟩ | ⟨h1, h2, h3, h4, h5, h6⟩
  · simp only at h1 h2 h3 h4
    subst h2 h3
    have HsB := Lib.hid (show stpB ⟨0, 0, xt⟩ ++ rest = cnL (2 * xt.length) ++ (xt ++ rest) by unfold stpB; rw [if_pos h1, List.append_assoc])
    obtain ⟨n, hn⟩ : ∃ n, n = 2 * xt.length := ⟨_, rfl⟩
    have HNm := Lib.hid (fun w' (h' : RdAt w' rb S ⟨cnL n ++ (xt ++ rest), 0⟩) => rdNum_any rb S _ w' h' hS)
    have HRw := Lib.hid (fun w' (h' : RdAt w' rb S ⟨xt ++ rest, 0⟩) => rdRaw_any rb S _ (xt.length : Int) w' h' hS)
    rw [Rr.num_back n _ (by omega)] at HNm
    rw [Rr.rawI_nat, Rr.raw_back] at HRw
    have hb1 : bits .and .i64 (n : Int) 1 = 0 := by rw [and_one n (by omega)]; have : n % 2 = 0 := by omega
                                                    rw [this]; rfl
    have hq : (n : Int) / 2 = (xt.length : Int) := by omega
    have hn4 : ¬ 4096 < (xt.length : Int) := by omega
    rw [← hn] at HsB
    rw [HsB.out] at HR0
    have Hn := Lib.hid hn
    clear hn h1
    go_enter Tryz.func25, Tryz.ntmps25
    go_upto_region 1 with fail
    generalize w.alloc (.cells #[.int .i64 0, .int .i64 0, .string ⟨#[]⟩] 64) = w0 at HB0 HQ0 HR0 ⊢
    obtain ⟨gx, hgx⟩ : ∃ gx, gx = w.heap.size := ⟨_, rfl⟩
    rw [← hgx] at HQ0 HB0 hrl ⊢
    have Hgx := Lib.hid hgx
    clear hgx
    go_wp2_with fail
    refine (HNm.out _ HR0.out).mono ?_
    clear HNm
    rintro e w1 ⟨rfl, hR1, hT1⟩
    have HR1 := Lib.hid hR1
    have HT1 := Lib.hid hT1
    clear hR1 hT1
    go_wp2_with fail
    refine (HRw.out _ HR1.out).mono ?_
    clear HRw
    rintro e w2 ⟨rfl, hR2, hT2⟩
    have HR2 := Lib.hid hR2
    have HT2 := Lib.hid (HT1.out.trans hT2)
    clear hR2 hT2
    have HQ2 := Lib.hid (HQ0.out.touch HT2.out (by omega))
    have k0 := HQ2.out.cell 0
    have k1 := HQ2.out.cell 1
    have k2 := HQ2.out.cell 2
    have f0 := HQ2.out.free 0
    have f1 := HQ2.out.free 1
    have f2 := HQ2.out.free 2
    have hq2 := HQ2.out.lt
    simp only [List.getElem?_cons_zero, List.getElem?_cons_succ] at k0 k1 k2
    go_wp2_with fail
    have HQf := Lib.hid ((((HQ2.out.set 0 (.int .i64 0)).set 1 (.int .i64 0)).set 2 (.string (ba xt))))
    have HTf := Lib.hid (touchB (touchB (touchB (Touch.refl (fun k => k = gx) w2) (o := 0) (.int .i64 0)) (o := 1) (.int .i64 0)) (o := 2) (.string (ba xt)))
    generalize ((w2.setCell ⟨gx, 0, none⟩ (.int .i64 0)).setCell ⟨gx, 1, none⟩ (.int .i64 0)).setCell ⟨gx, 2, none⟩ (.string (ba xt)) = wf at HQf HTf ⊢
    have c0 : wf.cell? ⟨gx, 0, none⟩ = some (.int .i64 0) := HQf.out.cell 0
    have c1 : wf.cell? ⟨gx, 1, none⟩ = some (.int .i64 0) := HQf.out.cell 1
    have c2 : wf.cell? ⟨gx, 2, none⟩ = some (.string (ba xt)) := HQf.out.cell 2
    refine bodyPost_ret (v := .agg #[.int .i64 0, .int .i64 0, .string (ba xt)]) (by simp [results, Tryz.results25, go_sem, c0, c1, c2]) rfl ?_
    refine ⟨rfl, HR2.out.touch HTf.out (by omega), ?_⟩
    exact touch_join ((Touch.of_below (S := fun k => k = rb) (by rw [← Hgx.out]; exact HB0.out)).trans HT2.out) HTf.out (fun j hj => Or.inr (by rw [← Hgx.out]; omega))
  · simp only at h1 h2 h3 h4 h5 h6
    subst h1
    have HsB := Lib.hid (show stpB ⟨xa, xl, []⟩ ++ rest = cnL (2 * xl + 1).toNat ++ (cnL xa.toNat ++ rest) by unfold stpB; rw [if_neg (by simp), List.append_assoc])
    obtain ⟨n, hn⟩ : ∃ n : Nat, (n : Int) = xl := ⟨xl.toNat, by omega⟩
    obtain ⟨a, ha⟩ : ∃ a : Nat, (a : Int) = xa := ⟨xa.toNat, by omega⟩
    subst hn ha
    obtain ⟨m, hm⟩ : ∃ m, m = 2 * n + 1 := ⟨_, rfl⟩
    rw [show (2 * (n : Int) + 1).toNat = m by omega, Int.toNat_natCast] at HsB
    have HNm := Lib.hid (fun w' (h' : RdAt w' rb S ⟨cnL m ++ (cnL a ++ rest), 0⟩) => rdNum_any rb S _ w' h' hS)
    have HNa := Lib.hid (fun w' (h' : RdAt w' rb S ⟨cnL a ++ rest, 0⟩) => rdNum_any rb S _ w' h' hS)
    rw [Rr.num_back m _ (by omega)] at HNm
    rw [Rr.num_back a _ (by omega)] at HNa
    have hb1 : bits .and .i64 (m : Int) 1 = 1 := by rw [and_one m (by omega)]; have : m % 2 = 1 := by omega
                                                    rw [this]; rfl
    have hq : (m : Int) / 2 = (n : Int) := by omega
    rw [HsB.out] at HR0
    clear hm
    go_enter Tryz.func25, Tryz.ntmps25
    go_upto_region 1 with fail
    generalize w.alloc (.cells #[.int .i64 0, .int .i64 0, .string ⟨#[]⟩] 64) = w0 at HB0 HQ0 HR0 ⊢
    obtain ⟨gx, hgx⟩ : ∃ gx, gx = w.heap.size := ⟨_, rfl⟩
    rw [← hgx] at HQ0 HB0 hrl ⊢
    have Hgx := Lib.hid hgx
    clear hgx
    go_wp2_with fail
    refine (HNm.out _ HR0.out).mono ?_
    clear HNm
    rintro e w1 ⟨rfl, hR1, hT1⟩
    have HR1 := Lib.hid hR1
    have HT1 := Lib.hid hT1
    clear hR1 hT1
    go_wp2_with fail
    refine (HNa.out _ HR1.out).mono ?_
    clear HNa
    rintro e w2 ⟨rfl, hR2, hT2⟩
    have HR2 := Lib.hid hR2
    have HT2 := Lib.hid (HT1.out.trans hT2)
    clear hR2 hT2
    have HQ2 := Lib.hid (HQ0.out.touch HT2.out (by omega))
    have k0 := HQ2.out.cell 0
    have k1 := HQ2.out.cell 1
    have k2 := HQ2.out.cell 2
    have f0 := HQ2.out.free 0
    have f1 := HQ2.out.free 1
    have f2 := HQ2.out.free 2
    have hq2 := HQ2.out.lt
    simp only [List.getElem?_cons_zero, List.getElem?_cons_succ] at k0 k1 k2
    go_wp2_with fail
    have HQf := Lib.hid ((((HQ2.out.set 0 (.int .i64 (a : Int))).set 1 (.int .i64 (n : Int))).set 2 (.string ⟨#[]⟩)))
    have HTf := Lib.hid (touchB (touchB (touchB (Touch.refl (fun k => k = gx) w2) (o := 0) (.int .i64 (a : Int))) (o := 1) (.int .i64 (n : Int))) (o := 2) (.string ⟨#[]⟩))
    generalize ((w2.setCell ⟨gx, 0, none⟩ (.int .i64 (a : Int))).setCell ⟨gx, 1, none⟩ (.int .i64 (n : Int))).setCell ⟨gx, 2, none⟩ (.string ⟨#[]⟩) = wf at HQf HTf ⊢
    have c0 : wf.cell? ⟨gx, 0, none⟩ = some (.int .i64 (a : Int)) := HQf.out.cell 0
    have c1 : wf.cell? ⟨gx, 1, none⟩ = some (.int .i64 (n : Int)) := HQf.out.cell 1
    have c2 : wf.cell? ⟨gx, 2, none⟩ = some (.string ⟨#[]⟩) := HQf.out.cell 2
    refine bodyPost_ret (v := .agg #[.int .i64 (a : Int), .int .i64 (n : Int), .string ⟨#[]⟩]) (by simp [results, Tryz.results25, go_sem, c0, c1, c2]) rfl ?_
    refine ⟨rfl, HR2.out.touch HTf.out (by omega), ?_⟩
    exact touch_join ((Touch.of_below (S := fun k => k = rb) (by rw [← Hgx.out]; exact HB0.out)).trans HT2.out) HTf.out (fun j hj => Or.inr (by rw [← Hgx.out]; omega))
end Go.Proofs.YtogobhpnlndcaaaGreat
namespace Go.Proofs.YtogobhpnlndcaaaGreat
open Go Go.RowKit
set_option linter.unusedVariables false

theorem flat_drop_at {l : List Stp} {k : Nat} {x : Stp} (h : l[k]? = some x) : (l.drop k).flatMap stpB = stpB x ++ (l.drop (k + 1)).flatMap stpB := by
  obtain ⟨hk, hx⟩ := List.getElem?_eq_some_iff.1 h
  rw [List.drop_eq_getElem_cons hk, hx, List.flatMap_cons]
theorem stpsV_take_at {l : List Stp} {k : Nat} {x : Stp} (h : l[k]? = some x) : l.take (k + 1) = l.take k ++ [x] := by
  rw [List.take_add_one, h]
  rfl
def ReadSays (bl sl : List UInt8) (n : Nat) (l : List Stp) (w : World) (e : Ending) (w' : World) : Prop :=
  ∃ sv, e = .returned (.tuple #[dlV (ba bl) (ba sl) n sv, .int .i64 0]) ∧ w'.ownsRow w.heap.size 64 3 sv l.length (stpsV l) ∧ Below w.heap.size w w'
set_option maxRecDepth 100000 in
set_option maxHeartbeats 4000000 in
theorem dRead_any (bl sl : List UInt8) (O T : List UInt8) (l : List Stp) (S : List UInt8) (w : World) (hSe : S = dlBytes ⟨bl, sl, (T.length : Nat), l⟩) (hSl : S.length ≤ 1099511627776) (hb : bl.length = 32) (hs : sl.length = 32) (hm : Mk O l T) (hO : O.length ≤ 524288) (hT : T.length ≤ 524288) :
    Calls Tryz.prog 11 #[.string (ba S)] w (ReadSays bl sl T.length l w) := by
  have HM := Lib.hid hm
  have hlT : l.length ≤ T.length := by rw [← hm.out]; exact outS_count l hm.ok
  have HB0 := Lib.hid ((Below.refl w.heap.size w).alloc (Nat.le_refl _) (.cells #[.string ⟨#[]⟩, .string ⟨#[]⟩, .int .i64 0, .slice none 0 0] 33))
  have HQ0 := Lib.hid (Blk.new w [.string ⟨#[]⟩, .string ⟨#[]⟩, .int .i64 0, .slice none 0 0] 33)
  have hSe2 : S = bl ++ (sl ++ (cnL T.length ++ (cnL l.length ++ l.flatMap stpB))) := by
    rw [hSe]
    unfold dlBytes
    simp
  have HS := Lib.hid hSe2
  clear hm hSe hSe2
  have HR1 := Lib.hid (fun rb w' (h : RdAt w' rb S ⟨bl ++ (sl ++ (cnL T.length ++ (cnL l.length ++ l.flatMap stpB))), 0⟩) => rdRaw_any rb S _ ((32 : Nat) : Int) w' h hSl)
  have HR2 := Lib.hid (fun rb w' (h : RdAt w' rb S ⟨sl ++ (cnL T.length ++ (cnL l.length ++ l.flatMap stpB)), 0⟩) => rdRaw_any rb S _ ((32 : Nat) : Int) w' h hSl)
  have HR3 := Lib.hid (fun rb w' (h : RdAt w' rb S ⟨cnL T.length ++ (cnL l.length ++ l.flatMap stpB), 0⟩) => rdNum_any rb S _ w' h hSl)
  have HR4 := Lib.hid (fun rb w' (h : RdAt w' rb S ⟨cnL l.length ++ l.flatMap stpB, 0⟩) => rdNum_any rb S _ w' h hSl)
  rw [Rr.num_back _ _ (by omega)] at HR3 HR4
  have e1 := Rr.raw_back bl (sl ++ (cnL T.length ++ (cnL l.length ++ l.flatMap stpB)))
  have e2 := Rr.raw_back sl (cnL T.length ++ (cnL l.length ++ l.flatMap stpB))
  rw [hb] at e1
  rw [hs] at e2
  rw [Rr.rawI_nat, e1] at HR1
  rw [Rr.rawI_nat, e2] at HR2
  have HCr := Lib.hid (fun w' => codeRead_any S w')
  rw [HS.out] at HCr
  rw [← HS.out] at HCr
  clear e1 e2
  go_enter Tryz.func11, Tryz.ntmps11
  go_upto_region 1 with fail
  generalize w.alloc (.cells #[.string ⟨#[]⟩, .string ⟨#[]⟩, .int .i64 0, .slice none 0 0] 33) = w0 at HB0 HQ0 ⊢
  obtain ⟨gx, hgx⟩ : ∃ gx, gx = w.heap.size := ⟨_, rfl⟩
  rw [← hgx] at HQ0 HB0 ⊢
  have Hgx := Lib.hid hgx
  have hgl := HQ0.out.lt
  clear hgx
  go_wp2_with fail
  refine (HCr.out _).mono ?_
  clear HCr
  rintro e w1 ⟨rb, rfl, hrb, hRd, hb1⟩
  have HB1 := Lib.hid (HB0.out.trans (hb1.mono (Nat.le_of_lt hgl)))
  have HQ1 := Lib.hid (HQ0.out.below hb1)
  have HD1 := Lib.hid (show RdAt w1 rb S ⟨bl ++ (sl ++ (cnL T.length ++ (cnL l.length ++ l.flatMap stpB))), 0⟩ from HS.out ▸ hRd)
  have hgr : gx < rb := by omega
  clear hb1 hRd HB0 HQ0
  go_wp2_with fail
  refine (HR1.out _ _ HD1.out).mono ?_
  clear HR1
  rintro e w2 ⟨rfl, hD2, hT2⟩
  have HD2 := Lib.hid hD2
  have HT2 := Lib.hid hT2
  clear hD2 hT2 HD1
  go_wp2_with fail
  refine (HR2.out _ _ HD2.out).mono ?_
  clear HR2
  rintro e w3 ⟨rfl, hD3, hT3⟩
  have HD3 := Lib.hid hD3
  have HT3 := Lib.hid (HT2.out.trans hT3)
  clear hD3 hT3 HD2 HT2
  go_wp2_with fail
  refine (HR3.out _ _ HD3.out).mono ?_
  clear HR3
  rintro e w4 ⟨rfl, hD4, hT4⟩
  have HD4 := Lib.hid hD4
  have HT4 := Lib.hid (HT3.out.trans hT4)
  clear hD4 hT4 HD3 HT3
  go_upto_region 3 with fail
  have hrl4 := HD4.out.blk.lt
  have hBa : Below w4.heap.size w4 (w4.alloc (.cells #[.string (ba bl), .string (ba sl), .int .i64 (T.length : Int), .slice none 0 0] 33)) := (Below.refl _ w4).alloc (Nat.le_refl _) _
  have HDq := Lib.hid (Blk.new w4 [.string (ba bl), .string (ba sl), .int .i64 (T.length : Int), .slice none 0 0] 33)
  have HD5 := Lib.hid (HD4.out.below hBa)
  have HT5 := Lib.hid ((HT4.out.mono (S' := fun j => rb ≤ j) (fun k _ e => by omega)).trans (Touch.of_below hBa))
  generalize w4.alloc (.cells #[.string (ba bl), .string (ba sl), .int .i64 (T.length : Int), .slice none 0 0] 33) = w5 at HDq HD5 HT5 ⊢
  generalize w4.heap.size = dq at HDq hrl4 ⊢
  clear hBa HD4 HT4
  go_wp2_with fail
  refine (HR4.out _ _ HD5.out).mono ?_
  clear HR4
  rintro e w6 ⟨rfl, hD6, hT6⟩
  have HD6 := Lib.hid hD6
  have HDq6 := Lib.hid (HDq.out.touch hT6 (by omega))
  have HT6 := Lib.hid (HT5.out.trans (hT6.mono (S' := fun j => rb ≤ j) (fun k _ e => by omega)))
  obtain ⟨m, hml⟩ : ∃ m, m = l.length := ⟨_, rfl⟩
  rw [← hml]
  have Hm := Lib.hid hml
  have hm6 : m ≤ 524288 := by omega
  clear hD6 hT6 HD5 HDq HT5 hml
  go_wp2_with fail
  go_loopw [21] (fun kv wr => ∃ (k : Nat) (sv : Value), kv = .int .i64 (k : Int) ∧ k ≤ m ∧ Hid (RdAt wr rb S ⟨(l.drop k).flatMap stpB, 0⟩) ∧ Hid (Blk wr dq [.string (ba bl), .string (ba sl), .int .i64 (T.length : Int), sv] 33) ∧ Hid (wr.ownsRow dq 64 3 sv k (stpsV (l.take k))) ∧ Hid (Touch (fun j => rb ≤ j) w1 wr)) (fun kv _ => m - (intOf kv).toNat)
  case atStart => exact ⟨0, _, rfl, Nat.zero_le _, HD6, HDq6, Lib.hid (World.ownsRow_nil _ _ _ _), HT6⟩
  case round =>
    obtain ⟨k, sv, rfl, hk, HD, HDq, HRw, HT⟩ := hrel
    clear HD6 HDq6 HT6
    obtain ⟨sa, sc, rfl⟩ := row_shape HRw.out
    by_cases hlt : k < m
    · obtain ⟨x, hx⟩ : ∃ x, l[k]? = some x := ⟨_, List.getElem?_eq_getElem (by have := Hm.out; omega)⟩
      have hok := HM.out.ok x (List.mem_of_getElem? hx)
      have HDs := Lib.hid (show RdAt wr rb S ⟨stpB x ++ (l.drop (k + 1)).flatMap stpB, 0⟩ from flat_drop_at hx ▸ HD.out)
      have HSp := Lib.hid (dStep_any rb S x (O.length : Nat) _ wr hok HDs.out hSl)
      have HSt := Lib.hid (fun w' => stepRight_any x (-1) w' hok.any (by omega) (by omega))
      have HEr := Lib.hid (fun w' (h : RdAt w' rb S ⟨(l.drop (k + 1)).flatMap stpB, 0⟩) => rdErr_any rb S _ w' h)
      have Htk := Lib.hid (stpsV_take_at hx)
      obtain ⟨xa, xl, xt⟩ := x
      clear hx hok
      go_wp2_with fail
      refine HSp.out.mono ?_
      clear HSp
      rintro e w7 ⟨rfl, hD7, hT7⟩
      have HDq7 := Lib.hid (HDq.out.touch hT7 (by omega))
      have HRw7 := Lib.hid (row_touch HRw.out hT7 (fun g hg e => row_ne HRw.out HD.out.blk (by decide) (by rw [hg, e])))
      have HT7 := Lib.hid (HT.out.trans (hT7.mono (S' := fun j => rb ≤ j) (fun k _ e => by omega)))
      have hBa : Below w7.heap.size w7 (w7.alloc (.cells #[.int .i64 xa, .int .i64 xl, .string (ba xt)] 64)) := (Below.refl _ w7).alloc (Nat.le_refl _) _
      have HBx := Lib.hid (Blk.new w7 [.int .i64 xa, .int .i64 xl, .string (ba xt)] 64)
      have HD8 := Lib.hid (hD7.below hBa)
      have HDq8 := Lib.hid (HDq7.out.below hBa)
      have HRw8 := Lib.hid (ownsRow_below HRw7.out hBa)
      have HT8 := Lib.hid (HT7.out.trans (Touch.of_below hBa))
      have Hrx := Lib.hid (show ∀ g, (Value.slice sa k sc).ownBlock = some g → g ≠ w7.heap.size from fun g hg e => by have := (HRw7.out.lt g hg).2; omega)
      clear hD7 hT7 hBa HD HDs HDq HRw HT HDq7 HRw7 HT7
      go_upto_region 7 with fail
      generalize w7.alloc (.cells #[.int .i64 xa, .int .i64 xl, .string (ba xt)] 64) = w8 at HBx HD8 HDq8 HRw8 HT8 ⊢
      generalize w7.heap.size = qx at HBx Hrx ⊢
      go_wp2_with fail
      refine (HEr.out _ HD8.out).mono ?_
      clear HEr
      rintro e w9 ⟨rfl, rfl⟩
      have k0 : w8.cell? ⟨qx, 0, none⟩ = some (.int .i64 xa) := HBx.out.cell 0
      have k1 : w8.cell? ⟨qx, 1, none⟩ = some (.int .i64 xl) := HBx.out.cell 1
      have k2 : w8.cell? ⟨qx, 2, none⟩ = some (.string (ba xt)) := HBx.out.cell 2
      go_wp2_with fail
      refine (HSt.out _).mono ?_
      clear HSt
      rintro e w9 ⟨rfl, hb9⟩
      have HBx9 := Lib.hid (HBx.out.below hb9)
      have HD9 := Lib.hid (HD8.out.below hb9)
      have HDq9 := Lib.hid (HDq8.out.below hb9)
      have HRw9 := Lib.hid (ownsRow_below HRw8.out hb9)
      have HT9 := Lib.hid (HT8.out.trans (Touch.of_below hb9))
      clear hb9 k0 k1 k2 HBx HD8 HDq8 HRw8 HT8
      have k0 : w9.cell? ⟨qx, 0, none⟩ = some (.int .i64 xa) := HBx9.out.cell 0
      have k1 : w9.cell? ⟨qx, 1, none⟩ = some (.int .i64 xl) := HBx9.out.cell 1
      have k2 : w9.cell? ⟨qx, 2, none⟩ = some (.string (ba xt)) := HBx9.out.cell 2
      have k3 : w9.cell? ⟨dq, 3, none⟩ = some (.slice sa k sc) := HDq9.out.cell 3
      have hdl := HDq9.out.lt
      go_wp2_with (at_builtin; refine append_own1 rfl _ _ 31 rfl dq 64 3 32 Tryz.underlying31 _ info_step rfl (by decide) _ _ _ rfl HRw9.out _ rfl [.int .i64 xa, .int .i64 xl, .string (ba xt)] rfl rfl (by simp [Value.oneCell']) ?c1 ?c2 ?c3 ?_)
      case c1 => unfold maxLen; omega
      case c2 => omega
      case c3 => first | omega | (simp; omega)
      intro v' wa hown hg
      have hown2 : wa.ownsRow dq 64 3 v' (k + 1) (stpsV (l.take (k + 1))) := by rw [Htk.out, stpsV_snoc]; exact hown
      have hrne : (Value.slice sa k sc).ownBlock ≠ some dq := row_ne HRw9.out HDq9.out (by decide)
      have hta : Touch (fun j => (Value.slice sa k sc).ownBlock = some j) w9 wa := touch_grown ((Touch.refl _ w9).alloc _) hg (fun g hg => Or.inl hg)
      have HDqa := Lib.hid (HDq9.out.touch hta hrne)
      have HDa := Lib.hid (HD9.out.touch hta (row_ne HRw9.out HD9.out.blk (by decide)))
      have f3 := HDqa.out.free 3
      have k3a := HDqa.out.cell 3
      simp only [List.getElem?_cons_zero, List.getElem?_cons_succ] at k3a
      obtain ⟨va, vc, rfl⟩ := row_shape hown2
      have Hown := Lib.hid hown2
      have Hta := Lib.hid (HT9.out.trans (hta.mono (S' := fun j => rb ≤ j) (fun j _ e => by have := (HRw9.out.lt j e).1; omega)))
      clear hown hown2 hg hta hrne k3
      go_wp2_with fail
      have hT2 : Touch (fun j => j = dq) wa (wa.setCell ⟨dq, 3, none⟩ (.slice va (k + 1) vc)) := touchB (Touch.refl _ wa) _
      have HDqb := Lib.hid (HDqa.out.set 3 (.slice va (k + 1) vc))
      have HDb := Lib.hid (HDa.out.touch hT2 (by omega))
      have Hownb := Lib.hid (row_touch Hown.out hT2 (fun g hg e => row_ne Hown.out HDqa.out (by decide) (by rw [hg, e])))
      have HTb := Lib.hid (Hta.out.trans (hT2.mono (S' := fun j => rb ≤ j) (fun k _ e => by omega)))
      go_roundw
      case rel => exact ⟨k + 1, _, by go_num, by omega, HDb, HDqb, Hownb, HTb⟩
      case measure => simp [intOf]; omega
    · have hkm : k = l.length := by have := Hm.out; omega
      have hmm : m = k := by omega
      have hdr : l.drop k = [] := by rw [hkm, List.drop_of_length_le (Nat.le_refl _)]
      have htk : l.take k = l := by rw [hkm, List.take_of_length_le (Nat.le_refl _)]
      rw [hdr] at HD
      rw [htk] at HRw
      have HKl := Lib.hid hkm
      subst hmm
      clear hdr htk hkm
      have HEn := Lib.hid (rdEnd_any rb S ⟨[], 0⟩ wr HD.out hSl)
      have hfin : Rr.fin ⟨[], 0⟩ = ⟨[], 0⟩ := by unfold Rr.fin; rw [if_neg (by simp)]
      rw [hfin] at HEn
      clear hfin
      go_wp2_with fail
      refine HEn.out.mono ?_
      clear HEn
      rintro e w7 ⟨rfl, hD7, hT7⟩
      have HDq7 := Lib.hid (HDq.out.touch hT7 (by omega))
      have HRw7 := Lib.hid (show w7.ownsRow dq 64 3 (.slice sa m sc) l.length (stpsV l) from HKl.out ▸ row_touch HRw.out hT7 (fun g hg e => row_ne HRw.out HD.out.blk (by decide) (by rw [hg, e])))
      have HT7 := Lib.hid (HT.out.trans (hT7.mono (S' := fun j => rb ≤ j) (fun k _ e => by omega)))
      have HRi := Lib.hid (dRight_any (ba bl) (ba sl) (.slice sa m sc) dq O T l w7 (by rw [ba_size]; exact hb) (by rw [ba_size]; exact hs) HRw7.out HM.out hT)
      unfold dlV at HRi
      have k0 : w7.cell? ⟨dq, 0, none⟩ = some (.string (ba bl)) := HDq7.out.cell 0
      have k1 : w7.cell? ⟨dq, 1, none⟩ = some (.string (ba sl)) := HDq7.out.cell 1
      have k2 : w7.cell? ⟨dq, 2, none⟩ = some (.int .i64 (T.length : Int)) := HDq7.out.cell 2
      have k3 : w7.cell? ⟨dq, 3, none⟩ = some (.slice sa m sc) := HDq7.out.cell 3
      clear hD7 hT7 HD HDq HRw HT
      go_wp2_with fail
      refine HRi.out.mono ?_
      clear HRi
      rintro e w8 ⟨rfl, hb8⟩
      have HDq8 := Lib.hid (HDq7.out.below hb8)
      have HRw8 := Lib.hid (ownsRow_below HRw7.out hb8)
      have HT8 := Lib.hid (HT7.out.trans (Touch.of_below hb8))
      have HQ8 := Lib.hid (HQ1.out.touch HT8.out (by omega))
      clear hb8 k0 k1 k2 k3 HDq7 HRw7 HT7
      have k0 : w8.cell? ⟨dq, 0, none⟩ = some (.string (ba bl)) := HDq8.out.cell 0
      have k1 : w8.cell? ⟨dq, 1, none⟩ = some (.string (ba sl)) := HDq8.out.cell 1
      have k2 : w8.cell? ⟨dq, 2, none⟩ = some (.int .i64 (T.length : Int)) := HDq8.out.cell 2
      have k3 : w8.cell? ⟨dq, 3, none⟩ = some (.slice sa m sc) := HDq8.out.cell 3
      have g0 := HQ8.out.cell 0
      have g1 := HQ8.out.cell 1
      have g2 := HQ8.out.cell 2
      have g3 := HQ8.out.cell 3
      have f0 := HQ8.out.free 0
      have f1 := HQ8.out.free 1
      have f2 := HQ8.out.free 2
      have f3 := HQ8.out.free 3
      have hq8 := HQ8.out.lt
      simp only [List.getElem?_cons_zero, List.getElem?_cons_succ] at g0 g1 g2 g3
      go_wp2_with fail
      have HQf := Lib.hid (((((HQ8.out.set 0 (.string (ba bl))).set 1 (.string (ba sl))).set 2 (.int .i64 (T.length : Int))).set 3 (.slice sa m sc)))
      have HTf := Lib.hid (touchB (touchB (touchB (touchB (Touch.refl (fun k => k = gx) w8) (o := 0) (.string (ba bl))) (o := 1) (.string (ba sl))) (o := 2) (.int .i64 (T.length : Int))) (o := 3) (.slice sa m sc))
      generalize (((w8.setCell ⟨gx, 0, none⟩ (.string (ba bl))).setCell ⟨gx, 1, none⟩ (.string (ba sl))).setCell ⟨gx, 2, none⟩ (.int .i64 (T.length : Int))).setCell ⟨gx, 3, none⟩ (.slice sa m sc) = wf at HQf HTf ⊢
      have c0 : wf.cell? ⟨gx, 0, none⟩ = some (.string (ba bl)) := HQf.out.cell 0
      have c1 : wf.cell? ⟨gx, 1, none⟩ = some (.string (ba sl)) := HQf.out.cell 1
      have c2 : wf.cell? ⟨gx, 2, none⟩ = some (.int .i64 (T.length : Int)) := HQf.out.cell 2
      have c3 : wf.cell? ⟨gx, 3, none⟩ = some (.slice sa m sc) := HQf.out.cell 3
      refine bodyPost_ret (v := .tuple #[.agg #[.string (ba bl), .string (ba sl), .int .i64 (T.length : Int), .slice sa m sc], .int .i64 0]) (by simp [results, Tryz.results11, go_sem, c0, c1, c2, c3]) rfl ?_
      refine ⟨.slice sa m sc, rfl, ?_, ?_⟩
      · rw [← Hgx.out]
        exact row_base (row_touch HRw8.out HTf.out (fun g hg e => row_ne HRw8.out HQ8.out (by decide) (by rw [hg, e]))) (by omega)
      · rw [← Hgx.out]
        exact (HB1.out.trans (HT8.out.below (by have := HQ1.out.lt; omega) (fun k hk e => by omega))).trans (HTf.out.below (by omega) (fun k hk e => by omega))
end Go.Proofs.YtogobhpnlndcaaaGreat
