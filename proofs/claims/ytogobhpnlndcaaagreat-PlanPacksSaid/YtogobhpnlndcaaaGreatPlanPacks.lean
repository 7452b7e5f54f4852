/- The walk of PlanPacks: what is packed is the text, or a delta that makes it, and no longer than the text wrapped. No condition. -/
import Derived.Test.YtogobhpnlndcaaaGreatPack
import Derived.Test.YtogobhpnlndcaaaGreatDRead
import Derived.Test.YtogobhpnlndcaaaGreatDApply
import Derived.Test.YtogobhpnlndcaaaGreatOpenW
import Derived.Test.YtogobhpnlndcaaaGreatPlan
namespace Go.Proofs.YtogobhpnlndcaaaGreat
open Go Go.RowKit
set_option linter.unusedVariables false

theorem BookIs.self_ne {w : World} {k mb : Nat} {B : List ByteArray} (h : BookIs w k mb B) : k ≠ mb := by
  intro e
  obtain ⟨D, ⟨es, clock, k1, _⟩, _⟩ := h.own
  have hb : Blk w k _ _ := h.at_
  subst e
  unfold Blk at hb
  rw [k1] at hb
  cases hb
theorem cut_any (s : ByteArray) (w : World) :
    Calls Tryz.prog 5 #[.string s] w fun e w' => (∃ L : List UInt8, e = .returned (.string (ba L)) ∧ L.length ≤ 1500) ∧ w = w' := by
  obtain ⟨S, hS, hl⟩ := ba_data s
  subst hS
  have hz := ba_size S
  clear hl
  go_enter Tryz.func5, Tryz.ntmps5
  by_cases h : S.length ≤ 1500
  · go_wp2_with fail
    go_ret
    exact ⟨⟨S, rfl, h⟩, rfl⟩
  · have hex : (ba S).extract 0 1500 = ba (S.take 1500) := by rw [ba_slice]; rfl
    go_wp2_with fail
    go_ret
    exact ⟨⟨S.take 1500, by first | rfl | rw [hex], by rw [List.length_take]; omega⟩, rfl⟩
set_option maxRecDepth 100000 in
set_option maxHeartbeats 4000000 in
theorem planPacks_walk (s t : ByteArray) (w : World) (_hs : s.size ≤ maxLen) (_ht : t.size ≤ maxLen) :
    Calls Tryz.prog 3 #[.string s, .string t] w fun e w' => e = .returned (.bool true) ∧ Below w.heap.size w w' := by
  have HC1 := Lib.hid (cut_any s w)
  have HC2 := Lib.hid (cut_any t w)
  clear _hs _ht
  go_enter Tryz.func3, Tryz.ntmps3
  go_wp2_with fail
  refine HC1.out.mono ?_
  clear HC1
  rintro e w1 ⟨⟨O, rfl, hO⟩, rfl⟩
  go_wp2_with fail
  refine HC2.out.mono ?_
  clear HC2
  rintro e w1 ⟨⟨T, rfl, hT⟩, rfl⟩
  go_wp2_with fail
  refine (ideal_book w).mono ?_
  rintro e w1 ⟨kb, mb, rfl, hkb, hmb, hK, hb1⟩
  have HB1 := Lib.hid hb1
  have hne := hK.self_ne
  have HPk := Lib.hid (pack_any kb mb [] O T w1 hK hne (by omega) (by omega) (by simp))
  have Hne := Lib.hid hne
  clear hK hb1 hne
  go_wp2_with fail
  refine HPk.out.mono ?_
  clear HPk
  rintro e w2 ⟨s, is_, Bk, rfl, hK2, hX2, hL2, hT2, hr⟩
  have HK2 := Lib.hid hK2
  have HT2 := Lib.hid (HB1.out.trans (hT2.below (B := w.heap.size) HB1.out.size (fun k hk e => by omega)))
  simp only [List.length_nil] at hL2
  have HL2 := Lib.hid (show Bk.length ≤ 900000000 by omega)
  have HW := Lib.hid (fun w' => wrap_any T w' (by omega))
  have hVl := wrapL_len T
  obtain ⟨V, hV⟩ : ∃ V, V = wrapL T := ⟨_, rfl⟩
  rw [← hV] at HW hVl
  have hr0 : (is_ = false ∧ s = V) ∨ (is_ = true ∧ Packed Bk O T s) := by rw [hV]; exact hr
  clear hr
  have hVz := ba_size V
  have hsz := ba_size s
  have HOp := Lib.hid (fun (h : s.length ≤ 1099511627776) w' => openW_any s w' h)
  have HV := Lib.hid hV
  have hawk := Lib.hid (fun w' => awake_any w')
  clear hK2 hX2 hL2 hT2 hV HB1
  go_wp2_with fail
  refine (HW.out _).mono ?_
  rintro e w3 ⟨rfl, hb3⟩
  have HK3 := Lib.hid (HK2.out.below hb3)
  have HB3 := Lib.hid (HT2.out.trans (hb3.mono HT2.out.size))
  clear hb3 HK2 HT2
  have hvt : openL V = (T, 0) := by rw [HV.out]; exact open_wrap T (by omega)
  rcases hr0 with ⟨rfl, rfl⟩ | ⟨rfl, hlt, bl, sl, l, hs, hmk, hbz, hsz2, hbl, hsl, hmO, hmT⟩
  · have HO := Lib.hid (fun w' => HOp.out (by omega) w')
    rw [hvt] at HO
    clear hvt
    go_wp2_with fail
    refine (HO.out _).mono ?_
    clear HO
    rintro e w4 ⟨rfl, hb4⟩
    have HB4 := Lib.hid (HB3.out.trans (hb4.mono HB3.out.size))
    clear hb4
    go_wp2_with fail
    refine (hawk.out _).mono ?_
    rintro e w5 ⟨rfl, hb5⟩
    have HB5 := Lib.hid (HB4.out.trans (hb5.mono HB4.out.size))
    clear hb5
    go_wp2_with fail
    go_ret
    exact ⟨by first | rfl | exact ret_bool (by simp), HB5.out⟩
  · rw [← HV.out] at hlt
    obtain ⟨D, hD⟩ : ∃ D, D = dlBytes ⟨bl, sl, (T.length : Nat), l⟩ := ⟨_, rfl⟩
    rw [← hD] at hs
    have hDl : D.length ≤ 1048576 := by rw [hD]; exact dlBytes_len hmk hbz hsz2 (by omega) (by omega)
    have hst : openL s = (D, 0) := by rw [hs]; exact open_wrap D hDl
    have HO := Lib.hid (fun w' => HOp.out (by omega) w')
    rw [hst] at HO
    have HRd := Lib.hid (fun w' => dRead_any bl sl O T l D w' hD (by omega) hbz hsz2 hmk (by omega) (by omega))
    have HAp := Lib.hid (fun w' dv base (hr : w'.ownsRow base 64 3 dv l.length (stpsV l)) (hk : BookIs w' kb mb Bk) => dApply_any kb mb Bk (ba bl) (ba sl) dv base O T l w' hk Hne.out HL2.out (by omega) (by omega) hmO hmT hbl hsl hr hmk)
    have hlt2 : s.length < V.length := hlt
    clear hvt hst hs hD hmk hbz hsz2 hbl hsl hmO hmT
    go_wp2_with fail
    refine (HO.out _).mono ?_
    clear HO
    rintro e w4 ⟨rfl, hb4⟩
    have HB4 := Lib.hid (HB3.out.trans (hb4.mono HB3.out.size))
    have HK4 := Lib.hid (HK3.out.below hb4)
    clear hb4
    go_wp2_with fail
    refine (HRd.out _).mono ?_
    clear HRd
    rintro e w5 ⟨dv, rfl, hr5, hb5⟩
    unfold dlV at HAp ⊢
    obtain ⟨da, dc, rfl⟩ := row_shape hr5
    have hBa : Below w5.heap.size w5 (w5.alloc (.cells #[.string (ba bl), .string (ba sl), .int .i64 (T.length : Int), .slice da l.length dc] 33)) := (Below.refl _ w5).alloc (Nat.le_refl _) _
    have hb6 := hb5.trans (hBa.mono hb5.size)
    have HB6 := Lib.hid (HB4.out.trans (hb6.mono HB4.out.size))
    have HR6 := Lib.hid (ownsRow_below hr5 hBa)
    have HK6 := Lib.hid (HK4.out.below hb6)
    have HQ := Lib.hid (Blk.new w5 [.string (ba bl), .string (ba sl), .int .i64 (T.length : Int), .slice da l.length dc] 33)
    clear hr5 hb5 hBa hb6 HB4 HK4
    go_upto_region 12 with fail
    generalize w5.alloc (.cells #[.string (ba bl), .string (ba sl), .int .i64 (T.length : Int), .slice da l.length dc] 33) = w6 at HB6 HR6 HK6 HQ ⊢
    generalize w5.heap.size = qx at HQ ⊢
    have c0 : w6.cell? ⟨qx, 0, none⟩ = some (.string (ba bl)) := HQ.out.cell 0
    have c1 : w6.cell? ⟨qx, 1, none⟩ = some (.string (ba sl)) := HQ.out.cell 1
    have c2 : w6.cell? ⟨qx, 2, none⟩ = some (.int .i64 (T.length : Int)) := HQ.out.cell 2
    have c3 : w6.cell? ⟨qx, 3, none⟩ = some (.slice da l.length dc) := HQ.out.cell 3
    go_wp2_with fail
    refine (HAp.out _ _ _ HR6.out HK6.out).mono ?_
    clear HAp
    rintro e w7 ⟨rfl, hK7, hT7⟩
    have HB7 := Lib.hid (HB6.out.trans (hT7.below (B := w.heap.size) HB6.out.size (fun k hk e => by omega)))
    clear hK7 hT7 c0 c1 c2 c3
    go_wp2_with fail
    refine (hawk.out _).mono ?_
    rintro e w8 ⟨rfl, hb8⟩
    have HB8 := Lib.hid (HB7.out.trans (hb8.mono HB7.out.size))
    clear hb8
    go_wp2_with fail
    go_ret
    exact ⟨by first | rfl | exact ret_bool (by simp), HB8.out⟩
end Go.Proofs.YtogobhpnlndcaaaGreat
