/- plan.Pack: the text wrapped, or a delta that makes it, whichever is shorter. Condition: the sizes. -/
import Derived.Test.YtogobhpnlndcaaaGreatDOf
import Derived.Test.YtogobhpnlndcaaaGreatDBytes
import Derived.Test.YtogobhpnlndcaaaGreatWrap
namespace Go.Proofs.YtogobhpnlndcaaaGreat
open Go Go.RowKit
set_option linter.unusedVariables false

theorem BookIs.self_ne {w : World} {k mb : Nat} {B : List ByteArray} (h : BookIs w k mb B) : k ≠ mb := by
  intro e
  obtain ⟨D, ⟨es, clock, k1, _⟩, _⟩ := h.own
  have hb : Blk w k _ _ := h.at_
  subst e
  unfold Blk at hb
  rw [k1] at hb
  cases hb
theorem dlBytes_len {bl sl : List UInt8} {O T : List UInt8} {l : List Stp} (hm : Mk O l T) (hb : bl.length = 32) (hs : sl.length = 32) (hO : O.length ≤ 524288) (hT : T.length ≤ 30000) : (dlBytes ⟨bl, sl, (T.length : Nat), l⟩).length ≤ 1048576 := by
  have h1 := stpsB_len hO l hm.ok
  have h2 : l.length ≤ T.length := by rw [← hm.out]; exact outS_count l hm.ok
  rw [hm.out] at h1
  have h3 := cnL_le (n := T.length) (by omega)
  have h4 := cnL_le (n := l.length) (by omega)
  unfold dlBytes
  simp only [List.length_append, Int.toNat_natCast]
  omega
theorem ba_data (s : ByteArray) : ∃ l : List UInt8, ba l = s ∧ l.length = s.size := ⟨s.data.toList, by cases s; simp [ba], by cases s; simp [ByteArray.size]⟩
theorem cut_any (s : ByteArray) (w : World) :
    Calls Tryz.prog 5 #[.string s] w fun e w' => (∃ L : List UInt8, e = .returned (.string (ba L)) ∧ L.length ≤ 1500) ∧ w = w' := by
  obtain ⟨S, hS, hl⟩ := ba_data s
  subst hS
  have hz := ba_size S
  clear hl
  go_enter Tryz.func5, Tryz.ntmps5
  by_cases h : S.length ≤ 1500
  · go_wp2_with fail
    go_ret
    exact ⟨⟨S, rfl, h⟩, rfl⟩
  · have hex : (ba S).extract 0 1500 = ba (S.take 1500) := by rw [ba_slice]; rfl
    go_wp2_with fail
    go_ret
    exact ⟨⟨S.take 1500, by first | rfl | rw [hex], by rw [List.length_take]; omega⟩, rfl⟩
/-- what packs a text by a delta -/
def Packed (Bk : List ByteArray) (O T s : List UInt8) : Prop := s.length < (wrapL T).length ∧ ∃ bl sl l, s = wrapL (dlBytes ⟨bl, sl, (T.length : Nat), l⟩) ∧ Mk O l T ∧ bl.length = 32 ∧ sl.length = 32 ∧ ba bl = markOf Bk (ba O) ∧ ba sl = markOf Bk (ba T) ∧ ba O ∈ Bk ∧ ba T ∈ Bk
def PackSays (kb mb : Nat) (B : List ByteArray) (O T : List UInt8) (w : World) (e : Ending) (w' : World) : Prop :=
  ∃ (s : List UInt8) (is_ : Bool) (Bk : List ByteArray), e = .returned (.tuple #[.string (ba s), .bool is_]) ∧ BookIs w' kb mb Bk ∧ Ext B Bk ∧ Bk.length ≤ B.length + O.length + T.length + 3 ∧ Touch (fun j => j = mb) w w' ∧ ((is_ = false ∧ s = wrapL T) ∨ (is_ = true ∧ Packed Bk O T s))
set_option maxRecDepth 100000 in
set_option maxHeartbeats 4000000 in
theorem pack_any (kb mb : Nat) (B : List ByteArray) (O T : List UInt8) (w : World) (hK : BookIs w kb mb B) (hne : kb ≠ mb) (hO : O.length ≤ 524288) (hT : T.length ≤ 30000) (hB : B.length ≤ 700000000) :
    Calls Tryz.prog 7 #[.pointer (some ⟨kb, 0, none⟩), .string (ba O), .string (ba T)] w (PackSays kb mb B O T w) := by
  have hOz := ba_size O
  have HW := Lib.hid (wrap_any T w (by omega))
  have HK := Lib.hid hK
  have HOf := Lib.hid (fun (b : Nat) (h1 : 16 ≤ b) (h2 : b ≤ 1024) w' (h : BookIs w' kb mb B) => dOf_any kb mb B O T b w' h hne hO (by omega) h1 h2 hB)
  clear hK hne
  obtain ⟨V, hV⟩ : ∃ V, V = wrapL T := ⟨_, rfl⟩
  rw [← hV] at HW
  have HV := Lib.hid hV
  have hVz := ba_size V
  clear hV
  go_enter Tryz.func7, Tryz.ntmps7
  go_wp2_with fail
  refine HW.out.mono ?_
  clear HW
  rintro e w1 ⟨rfl, hb1⟩
  have HK1 := Lib.hid (HK.out.below hb1)
  have HB1 := Lib.hid hb1
  clear hb1 HK
  have HSB := Lib.hid (signBlock_any (O.length : Int) w1)
  go_wp2_with fail
  refine HSB.out.mono ?_
  clear HSB
  rintro e w2 ⟨⟨b, rfl, hb1, hb2⟩, rfl⟩
  go_wp2_with fail
  refine (HOf.out b hb1 hb2 _ HK1.out).mono ?_
  clear HOf
  rintro e w3 ⟨dv, l, Bk, rfl, hr, hmk, hK3, hX3, hmO, hmT, hL3, hT3⟩
  obtain ⟨bl, hbl, hbz⟩ := ba_data (markOf Bk (ba O))
  obtain ⟨sl, hsl, hsz⟩ := ba_data (markOf Bk (ba T))
  rw [markOf_size] at hbz hsz
  rw [← hbl, ← hsl]
  have Hbl := Lib.hid hbl
  have Hsl := Lib.hid hsl
  have HBy := Lib.hid (fun w' (h : w'.ownsRow w1.heap.size 64 3 dv l.length (stpsV l)) => dBytes_any bl sl dv w1.heap.size O T l w' hbz hsz h hmk hO (by omega))
  have HWr := Lib.hid (fun w' => wrap_any (dlBytes ⟨bl, sl, (T.length : Nat), l⟩) w' (dlBytes_len hmk hbz hsz hO hT))
  have Hz := Lib.hid (And.intro hbz hsz)
  unfold dlV at HBy ⊢
  obtain ⟨da, dc, rfl⟩ := row_shape hr
  clear hbl hsl hbz hsz
  have hBa : Below w3.heap.size w3 (w3.alloc (.cells #[.string (ba bl), .string (ba sl), .int .i64 (T.length : Int), .slice da l.length dc] 33)) := (Below.refl _ w3).alloc (Nat.le_refl _) _
  have HQ := Lib.hid (Blk.new w3 [.string (ba bl), .string (ba sl), .int .i64 (T.length : Int), .slice da l.length dc] 33)
  have HT3 := Lib.hid ((Touch.of_below (S := fun j => j = mb) HB1.out).trans (hT3.trans (Touch.of_below hBa)))
  have HK3 := Lib.hid (hK3.below hBa)
  have HR3 := Lib.hid (ownsRow_below hr hBa)
  have HX3 := Lib.hid hX3
  have HmO := Lib.hid hmO
  have HmT := Lib.hid hmT
  have HL3 := Lib.hid hL3
  have Hmk := Lib.hid hmk
  clear hr hmk hK3 hX3 hmO hmT hL3 hT3 hBa HB1 HK1
  go_upto_region 3 with fail
  generalize w3.alloc (.cells #[.string (ba bl), .string (ba sl), .int .i64 (T.length : Int), .slice da l.length dc] 33) = w4 at HQ HT3 HK3 HR3 ⊢
  generalize w3.heap.size = qx at HQ ⊢
  have c0 : w4.cell? ⟨qx, 0, none⟩ = some (.string (ba bl)) := HQ.out.cell 0
  have c1 : w4.cell? ⟨qx, 1, none⟩ = some (.string (ba sl)) := HQ.out.cell 1
  have c2 : w4.cell? ⟨qx, 2, none⟩ = some (.int .i64 (T.length : Int)) := HQ.out.cell 2
  have c3 : w4.cell? ⟨qx, 3, none⟩ = some (.slice da l.length dc) := HQ.out.cell 3
  go_wp2_with fail
  refine (HBy.out _ HR3.out).mono ?_
  clear HBy
  rintro e w5 ⟨rfl, hb5⟩
  have HT5 := Lib.hid (HT3.out.trans (Touch.of_below hb5))
  have HK5 := Lib.hid (HK3.out.below hb5)
  clear hb5 c0 c1 c2 c3
  obtain ⟨D, hD⟩ : ∃ D, D = dlBytes ⟨bl, sl, (T.length : Nat), l⟩ := ⟨_, rfl⟩
  rw [← hD] at HWr ⊢
  have HD := Lib.hid hD
  clear hD
  obtain ⟨W, hW⟩ : ∃ W, W = wrapL D := ⟨_, rfl⟩
  rw [← hW] at HWr
  have HWd := Lib.hid hW
  have hWz := ba_size W
  clear hW
  go_wp2_with fail
  refine (HWr.out _).mono ?_
  clear HWr
  rintro e w6 ⟨rfl, hb6⟩
  have HT6 := Lib.hid (HT5.out.trans (Touch.of_below hb6))
  have HK6 := Lib.hid (HK5.out.below hb6)
  clear hb6 HT5 HK5 HT3 HK3 HR3 HQ
  by_cases hlt : W.length < V.length
  · have hlt1 : ¬ (V.length : Int) ≤ (W.length : Int) := by omega
    go_wp2_with fail
    go_ret2
    exact ⟨W, true, Bk, rfl, HK6.out, HX3.out, HL3.out, HT6.out, Or.inr ⟨rfl, by rw [← HV.out]; exact hlt, bl, sl, l, by rw [HWd.out, HD.out], Hmk.out, Hz.out.1, Hz.out.2, Hbl.out, Hsl.out, HmO.out, HmT.out⟩⟩
  · go_wp2_with fail
    go_ret2
    exact ⟨V, false, Bk, rfl, HK6.out, HX3.out, HL3.out, HT6.out, Or.inl ⟨rfl, HV.out⟩⟩
end Go.Proofs.YtogobhpnlndcaaaGreat
