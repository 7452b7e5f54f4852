/- The document's device: List. No condition but the sizes. -/
import Derived.Test.YtlmodbaeoheiiaaRefName
import Derived.Test.YtlmodbaeoheiiaaList
namespace Go.Proofs.Ytlmodbaeoheiiaa
open Go.RowKit
set_option linter.unusedVariables false

def insStep (x : ByteArray) (st : List ByteArray × Bool) (y : ByteArray) : List ByteArray × Bool := if st.2 = false ∧ Op.bytesLess x.toList y.toList = true then (st.1 ++ [x] ++ [y], true) else (st.1 ++ [y], st.2)
def insFold (x : ByteArray) (l : List ByteArray) : List ByteArray × Bool := l.foldl (insStep x) ([], false)
def insName (x : ByteArray) (l : List ByteArray) : List ByteArray := if (insFold x l).2 = true then (insFold x l).1 else (insFold x l).1 ++ [x]
def listR (l : List RF) : List ByteArray := l.foldl (fun out f => insName f.name out) []
theorem insFold_snoc {x : ByteArray} {l : List ByteArray} {k : Nat} (hk : k < l.length) : insFold x (l.take (k + 1)) = insStep x (insFold x (l.take k)) l[k] := by
  unfold insFold
  rw [List.take_succ_eq_append_getElem hk, List.foldl_append]
  rfl
theorem listR_snoc {l : List RF} {k : Nat} (hk : k < l.length) : listR (l.take (k + 1)) = insName l[k].name (listR (l.take k)) := by
  unfold listR
  rw [List.take_succ_eq_append_getElem hk, List.foldl_append]
  rfl
theorem strVals_snoc (l : List ByteArray) (x : ByteArray) : strVals (l ++ [x]) = strVals l ++ [.string x] := by unfold strVals; rw [List.map_append]; rfl
theorem strVals_at {l : List ByteArray} {k : Nat} (hk : k < l.length) : (strVals l)[k]? = some (.string l[k]) := by
  unfold strVals
  rw [List.getElem?_map, List.getElem?_eq_getElem hk]; rfl
theorem refList_off (q : Nat) (R : RSt) (w : World) (h : RefD w q R) (ho : R.off = true) :
    Calls Try.prog 47 #[.pointer (some ⟨q, 0, none⟩)] w fun e w' => e = .returned (.tuple #[.slice none 0 0, .int .i64 14]) ∧ w = w' := by
  have d4 := refOff q R w h true ho
  clear h ho
  go_enter Try.func47, Try.ntmps47
  go_wp2_with fail
  go_ret2
  exact ⟨rfl, rfl⟩
set_option maxRecDepth 100000 in
set_option maxHeartbeats 3200000 in
theorem refList_ok (q : Nat) (R : RSt) (w : World) (h : RefD w q R) (ho : R.off = false) (hl : R.files.length ≤ 1000000) :
    Calls Try.prog 47 #[.pointer (some ⟨q, 0, none⟩)] w fun e w' => ∃ v, e = .returned (.tuple #[v, .int .i64 0]) ∧ w'.ownsRow w.heap.size 9 1 v (listR R.files).length (strVals (listR R.files)) ∧ (listR R.files).length ≤ R.files.length ∧ Below w.heap.size w w' := by
  have d4 := refOff q R w h false ho
  obtain ⟨ad, cap, hv⟩ := row_shape h.frow
  have c0 : w.cell? ⟨q, 0, none⟩ = some (.slice ad R.files.length cap) := by rw [← hv]; exact h.blk.cell 0
  have hql := h.blk.lt
  have HC0 := Lib.hid c0
  have H := Lib.hid h
  have Hv := Lib.hid hv
  clear h hv ho
  go_enter Try.func47, Try.ntmps47
  go_wp2_with fail
  clear c0 d4
  go_loopw [4, 5] (fun u i wr => ∃ (k : Nat) (X : List ByteArray), k ≤ R.files.length ∧ i = .int .i64 k ∧ X.length ≤ k ∧ Hid (X = listR (R.files.take k)) ∧ Hid (wr.ownsRow w.heap.size 9 1 u X.length (strVals X)) ∧ Hid (Below w.heap.size w wr)) (fun _ i _ => R.files.length - (intOf i).toNat)
  case atStart => exact ⟨0, [], Nat.zero_le _, rfl, Nat.le_refl _, Lib.hid rfl, Lib.hid (World.ownsRow_nil _ _ _ _), Lib.hid (Below.refl _ _)⟩
  case round =>
    obtain ⟨k, X, hk, rfl, hXk, HX, HO, HB⟩ := hrel
    have c0 := (HB.out.cell (p := ⟨q, 0, none⟩) hql).trans HC0.out
    by_cases hlt : k < R.files.length
    · obtain ⟨g, cap', hv', hgl, hc⟩ := rfile_at H.out k hlt
      rw [Hv.out] at hv'
      injection hv' with hv1 hv3 hv2
      clear hv3
      subst hv1; subst hv2
      have hst := Lib.hid (listR_snoc hlt)
      generalize R.files[k] = F at hc hst
      have d1 : wr.cell? ⟨g, k * 4 + 1, none⟩ = some (.string F.name) := (HB.out.cell (p := ⟨g, k * 4 + 1, none⟩) hgl).trans (hc 1 (by omega))
      generalize F.name = x at d1 hst
      rw [← HX.out] at hst
      obtain ⟨ua, uc, hu⟩ := row_shape HO.out
      subst hu
      have hql2 : q < wr.heap.size := Nat.lt_of_lt_of_le hql HB.out.size
      have hgl2 : g < wr.heap.size := Nat.lt_of_lt_of_le hgl HB.out.size
      have HC2 := Lib.hid (And.intro c0 d1)
      clear hc c0 d1
      have hkl : (k : Int) < (R.files.length : Int) := by omega
      have HCC := Lib.hid (fun (w2 : World) (hb : Below wr.heap.size wr w2) => And.intro ((hb.cell (p := ⟨q, 0, none⟩) hql2).trans HC2.out.1) ((hb.cell (p := ⟨g, k * 4 + 1, none⟩) hgl2).trans HC2.out.2))
      obtain ⟨c0, d1⟩ := HC2.out
      clear HC2
      go_wp2_with fail
      clear c0 d1
      obtain ⟨wr0, rfl⟩ : ∃ wr0, wr0 = wr := ⟨wr, rfl⟩
      go_loopw [6, 7, 8] (fun u b j wr => ∃ (z : Nat) (Y : List ByteArray) (done : Bool), z ≤ X.length ∧ j = .int .i64 z ∧ b = .bool done ∧ Y.length ≤ z + done.toNat ∧ Hid (insFold x (X.take z) = (Y, done)) ∧ Hid (wr.ownsRow wr0.heap.size 9 1 u Y.length (strVals Y)) ∧ Hid (Below wr0.heap.size wr0 wr)) (fun _ _ j _ => X.length - (intOf j).toNat)
      case atStart => exact ⟨0, [], false, Nat.zero_le _, rfl, rfl, Nat.zero_le _, Lib.hid rfl, Lib.hid (World.ownsRow_nil _ _ _ _), Lib.hid (Below.refl _ _)⟩
      case round =>
        obtain ⟨z, Y, done, hz, rfl, rfl, hYd, HY, HO2, HB2⟩ := hrel
        have hYz : Y.length ≤ z + 1 := Nat.le_trans hYd (Nat.add_le_add_left (by cases done <;> decide) _)
        have HYd := Lib.hid hYd
        clear hYd
        obtain ⟨c0, d1⟩ := HCC.out _ HB2.out
        obtain ⟨ya, yc, hy⟩ := row_shape HO2.out
        subst hy
        have hown2 := HO2.out
        by_cases hlz : z < X.length
        · have Hsn := Lib.hid (insFold_snoc (x := x) hlz)
          rw [HY.out] at Hsn
          obtain ⟨gx, cx, hvx, hbx, hgx, _, _, hcx⟩ := row_some HO.out (by omega)
          injection hvx with hx1 hx3 hx2
          clear hx3
          subst hx1; subst hx2
          have hcz : wr.cell? ⟨gx, z, none⟩ = some (.string X[z]) := by
            rw [HB2.out.cell (p := ⟨gx, z, none⟩) hgx, hcx z (by omega), strVals_at hlz]
          generalize X[z] = y at hcz Hsn
          clear hcx
          have hzl : (z : Int) < (X.length : Int) := by omega
          have hkl0 : (0 : Int) ≤ (k : Int) := by omega
          have hzl0 : (0 : Int) ≤ (z : Int) := by omega
          by_cases hcase : done = false ∧ Op.bytesLess x.toList y.toList = true
          · obtain ⟨rfl, hb⟩ := hcase
            have HN : Hid (insFold x (X.take (z + 1)) = (Y ++ [x] ++ [y], true)) := Lib.hid (by rw [Hsn.out]; exact if_pos ⟨rfl, hb⟩)
            clear Hsn HO2
            go_upto_region 12 with (fail)
            go_quiet (fail)
            have HBq := Lib.hid (show Below wr0.heap.size wr0 (wr.drewN nq) from below_drewN HB2.out nq)
            have hownq : (wr.drewN nq).ownsRow wr0.heap.size 9 1 (.slice ya Y.length yc) Y.length (strVals Y) := ownsRow_below hown2 (below_drewN (Below.refl _ _) nq)
            have hczq : (wr.drewN nq).cell? ⟨gx, z, none⟩ = some (.string y) := hcz
            obtain ⟨c0q, d1q⟩ := HCC.out _ HBq.out
            clear c0 d1 hcz hown2 HB2
            generalize wr.drewN nq = w2 at HBq hownq hczq c0q d1q ⊢
            have hgx2 : gx < w2.heap.size := Nat.lt_of_lt_of_le hgx HBq.out.size
            go_wp2_with (at_builtin; refine append_one rfl _ _ 59 rfl wr0.heap.size 9 1 16 Try.underlying59 _ info_strD rfl (by decide) _ _ _ rfl hownq [.string x] rfl rfl (by simp [Value.oneCell']) ?c1 ?c2 ?c3 ?_)
            case c1 => unfold maxLen; omega
            case c2 => omega
            case c3 => exact HBq.out.size
            intro v3 w3 hown3 hb3
            have HB3 := Lib.hid (HBq.out.trans hb3)
            have hcz3 : w3.cell? ⟨gx, z, none⟩ = some (.string y) := by
              rw [HB3.out.cell (p := ⟨gx, z, none⟩) hgx, ← HBq.out.cell (p := ⟨gx, z, none⟩) hgx]
              exact hczq
            obtain ⟨ya3, yc3, hy3⟩ := row_shape hown3
            subst hy3
            rw [← strVals_snoc] at hown3
            have HW3 := Lib.hid hown3
            clear hown3 hownq hczq c0q d1q
            go_wp2_with (at_builtin; refine append_one rfl _ _ 59 rfl wr0.heap.size 9 1 16 Try.underlying59 _ info_strD rfl (by decide) (.slice ya3 (Y.length + 1) yc3) (Y.length + 1) (strVals (Y ++ [x])) rfl HW3.out [.string y] rfl rfl (by simp [Value.oneCell']) ?c1 ?c2 ?c3 ?_)
            case c1 => unfold maxLen; omega
            case c2 => omega
            case c3 => exact HB3.out.size
            intro v4 w4 hown4 hb4
            have HB4 := Lib.hid (HB3.out.trans hb4)
            rw [← strVals_snoc] at hown4
            have HW4 : Hid (w4.ownsRow wr0.heap.size 9 1 v4 (Y ++ [x] ++ [y]).length (strVals (Y ++ [x] ++ [y]))) := Lib.hid (by
              have e : (Y ++ [x] ++ [y]).length = Y.length + 1 + 1 := by simp
              rw [e]; exact hown4)
            clear hown4 hb4 hcz3 hb3
            go_wp2_with fail
            go_roundw
            case rel => exact ⟨z + 1, Y ++ [x] ++ [y], true, by omega, by go_num, rfl, by (have h : Y.length ≤ z + 0 := HYd.out; simp only [List.length_append, List.length_singleton, Bool.toNat_true]; omega), HN, HW4, HB4⟩
            case measure => simp [intOf]; omega
          · have HN : Hid (insFold x (X.take (z + 1)) = (Y ++ [y], done)) := Lib.hid (by rw [Hsn.out]; exact if_neg hcase)
            clear Hsn HO2
            have hsplit : done = true ∨ (done = false ∧ Op.bytesLess x.toList y.toList = false) := by
              cases done with
              | true => exact Or.inl rfl
              | false =>
                right
                refine ⟨rfl, ?_⟩
                cases hq : Op.bytesLess x.toList y.toList with
                | false => rfl
                | true => exact absurd ⟨rfl, hq⟩ hcase
            clear hcase
            go_upto_region 12 with (fail)
            rcases hsplit with rfl | ⟨rfl, hbf⟩
            all_goals
              go_quiet (fail)
              have HBq := Lib.hid (show Below wr0.heap.size wr0 (wr.drewN nq) from below_drewN HB2.out nq)
              have hownq : (wr.drewN nq).ownsRow wr0.heap.size 9 1 (.slice ya Y.length yc) Y.length (strVals Y) := ownsRow_below hown2 (below_drewN (Below.refl _ _) nq)
              have hczq : (wr.drewN nq).cell? ⟨gx, z, none⟩ = some (.string y) := hcz
              obtain ⟨c0q, d1q⟩ := HCC.out _ HBq.out
              clear c0 d1 hcz hown2 HB2
              generalize wr.drewN nq = w2 at HBq hownq hczq c0q d1q ⊢
              have hgx2 : gx < w2.heap.size := Nat.lt_of_lt_of_le hgx HBq.out.size
              go_wp2_with (at_builtin; refine append_one rfl _ _ 59 rfl wr0.heap.size 9 1 16 Try.underlying59 _ info_strD rfl (by decide) _ _ _ rfl hownq [.string y] rfl rfl (by simp [Value.oneCell']) ?c1 ?c2 ?c3 ?_)
              case c1 => unfold maxLen; omega
              case c2 => omega
              case c3 => exact HBq.out.size
              intro v4 w4 hown4 hb4
              have HB4 := Lib.hid (HBq.out.trans hb4)
              rw [← strVals_snoc] at hown4
              have HW4 : Hid (w4.ownsRow wr0.heap.size 9 1 v4 (Y ++ [y]).length (strVals (Y ++ [y]))) := Lib.hid (by
                have e : (Y ++ [y]).length = Y.length + 1 := by simp
                rw [e]; exact hown4)
              clear hown4 hb4 hownq hczq c0q d1q
              go_wp2_with fail
              go_roundw
              case rel => exact ⟨z + 1, Y ++ [y], _, by omega, by go_num, rfl, by (have h := HYd.out; simp only [List.length_append, List.length_singleton]; omega), HN, HW4, HB4⟩
              case measure => simp [intOf]; omega
        · obtain rfl : z = X.length := by omega
          rw [List.take_length] at HY
          have HBW := Lib.hid (show Below w.heap.size w wr from HB.out.trans (HB2.out.mono HB.out.size))
          cases done with
          | true =>
            have HX2 : Hid (Y = listR (R.files.take (k + 1))) := Lib.hid (by
              rw [hst.out]
              unfold insName
              rw [HY.out]
              rfl)
            have HO3 : Hid (wr.ownsRow w.heap.size 9 1 (.slice ya Y.length yc) Y.length (strVals Y)) := Lib.hid (row_base hown2 HB.out.size)
            clear hown2 HO2 c0 d1
            go_wp2_with fail
            go_roundw
            case rel => exact ⟨k + 1, Y, by omega, by go_num, by omega, HX2, HO3, HBW⟩
            case measure => simp [intOf]; omega
          | false =>
            have HX2 : Hid (Y ++ [x] = listR (R.files.take (k + 1))) := Lib.hid (by
              rw [hst.out]
              unfold insName
              rw [HY.out]
              rfl)
            go_wp2_with (at_builtin; refine append_one rfl _ _ 59 rfl wr0.heap.size 9 1 16 Try.underlying59 _ info_strD rfl (by decide) _ _ _ rfl hown2 [.string x] rfl rfl (by simp [Value.oneCell']) ?c1 ?c2 ?c3 ?_)
            case c1 => unfold maxLen; omega
            case c2 => omega
            case c3 => exact HB2.out.size
            intro v4 w4 hown4 hb4
            have HB4 := Lib.hid (HB.out.trans ((HB2.out.trans hb4).mono HB.out.size))
            rw [← strVals_snoc] at hown4
            have HW4 : Hid (w4.ownsRow w.heap.size 9 1 v4 (Y ++ [x]).length (strVals (Y ++ [x]))) := Lib.hid (by
              have e : (Y ++ [x]).length = Y.length + 1 := by simp
              rw [e]; exact row_base hown4 HB.out.size)
            obtain ⟨va, vc, hv4⟩ := row_shape HW4.out
            subst hv4
            clear hown4 hb4 hown2 HO2 c0 d1
            go_wp2_with fail
            go_roundw
            case rel => exact ⟨k + 1, Y ++ [x], by omega, by go_num, by (have h : Y.length ≤ X.length + 0 := HYd.out; simp only [List.length_append, List.length_singleton]; omega), HX2, HW4, HB4⟩
            case measure => simp [intOf]; omega
    · obtain rfl : k = R.files.length := by omega
      have hown := HO.out
      rw [List.take_length] at HX
      have Hown := Lib.hid (HX.out ▸ hown)
      have Hlen := Lib.hid (HX.out ▸ hXk)
      clear hown
      go_wp2_with fail
      go_ret2
      exact ⟨_, rfl, Hown.out, Hlen.out, HB.out⟩
end Go.Proofs.Ytlmodbaeoheiiaa
