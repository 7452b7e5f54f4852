/- delta.Of: a delta that makes a text of another one. Condition: the sizes. -/
import Derived.Test.YtogobhpnlndcaaaGreatDRight2
import Derived.Test.YtogobhpnlndcaaaGreatMake
namespace Go.Proofs.YtogobhpnlndcaaaGreat
open Go Go.RowKit
set_option linter.unusedVariables false

def OfSays (kb mb : Nat) (B : List ByteArray) (O T : List UInt8) (w : World) (e : Ending) (w' : World) : Prop :=
  ∃ sv l B', e = .returned (.tuple #[dlV (markOf B' (ba O)) (markOf B' (ba T)) T.length sv, .int .i64 0]) ∧ w'.ownsRow w.heap.size 64 3 sv l.length (stpsV l) ∧ Mk O l T ∧ BookIs w' kb mb B' ∧ Ext B B' ∧ ba O ∈ B' ∧ ba T ∈ B' ∧ B'.length ≤ B.length + O.length + T.length + 3 ∧ Touch (fun j => j = mb) w w'
set_option maxRecDepth 100000 in
set_option maxHeartbeats 4000000 in
theorem dOf_any (kb mb : Nat) (B : List ByteArray) (O T : List UInt8) (bl : Nat) (w : World) (hK : BookIs w kb mb B) (hne : kb ≠ mb) (hO : O.length ≤ 524288) (hT : T.length ≤ 524288) (h1 : 16 ≤ bl) (h2 : bl ≤ 1024) (hB : B.length ≤ 700000000) :
    Calls Tryz.prog 14 #[.pointer (some ⟨kb, 0, none⟩), .string (ba O), .string (ba T), .int .i64 (bl : Int)] w (OfSays kb mb B O T w) := by
  have hTz := ba_size T
  have hOz := ba_size O
  have HS := Lib.hid (fun w' (h : BookIs w' kb mb B) => sign_any kb mb B O bl w' h hne hO h1 h2 (by omega))
  have hn := npc_le (size := O.length) (bl := bl) (by omega)
  have HK := Lib.hid hK
  have hkl := hK.at_.lt
  have hml := hK.map_lt
  have Hne := Lib.hid hne
  clear hK hne
  go_enter Tryz.func14, Tryz.ntmps14
  go_upto_region 1 with fail
  have HB0 := Lib.hid ((Below.refl w.heap.size w).alloc (Nat.le_refl _) (.cells #[.string ⟨#[]⟩, .string ⟨#[]⟩, .int .i64 0, .slice none 0 0] 33))
  have HQ0 := Lib.hid (Blk.new w [.string ⟨#[]⟩, .string ⟨#[]⟩, .int .i64 0, .slice none 0 0] 33)
  have HK0 := Lib.hid (HK.out.below HB0.out)
  generalize w.alloc (.cells #[.string ⟨#[]⟩, .string ⟨#[]⟩, .int .i64 0, .slice none 0 0] 33) = w0 at HB0 HQ0 HK0 ⊢
  obtain ⟨gx, hgx⟩ : ∃ gx, gx = w.heap.size := ⟨_, rfl⟩
  rw [← hgx] at HQ0 HB0 hkl hml ⊢
  have Hgx := Lib.hid hgx
  clear hgx HK
  go_wp2_with fail
  refine (HS.out _ HK0.out).mono ?_
  clear HS
  rintro e w1 ⟨wv, sv, B1, rfl, hr1, hr2, hmem, hK1, hX1, hL1, hT1⟩
  obtain ⟨wa, wcap, rfl⟩ := row_shape hr1
  obtain ⟨sa, scap, rfl⟩ := row_shape hr2
  have hl0 := HQ0.out.lt
  have hl1 := hT1.size
  have HQ1 := Lib.hid (HQ0.out.touch hT1 (by omega))
  have HMk := Lib.hid (fun w' (hb : Below w1.heap.size w1 w') => make_any kb mb B1 O T bl w0.heap.size _ _ w' (hK1.below hb) ⟨ownsRow_below hr1 hb, ownsRow_below hr2 hb⟩ hmem hO hT h1 h2 (by omega) Hne.out)
  have HX1 := Lib.hid hX1
  have HT1 := Lib.hid hT1
  have HL1 := Lib.hid hL1
  clear hr1 hr2 hmem hK1 hX1 hL1 hT1
  generalize npc O.length bl = n at hn HMk HL1 ⊢
  go_wp2_with fail
  refine (HMk.out _ ((Below.refl _ w1).alloc (Nat.le_refl _) _)).mono ?_
  clear HMk
  rintro e w2 ⟨dv, l, B2, rfl, hr2, hmk, hK2, hX2, hL2, hT2⟩
  have hBa : Below w1.heap.size w1 (w1.alloc (.cells #[.int .i64 (bl : Int), .int .i64 (O.length : Int), .slice wa n wcap, .slice sa n scap] 73)) := (Below.refl _ w1).alloc (Nat.le_refl _) _
  have HT2 := Lib.hid (HT1.out.trans ((Touch.of_below hBa).trans hT2))
  have hsz2 : w0.heap.size ≤ w2.heap.size := HT2.out.size
  have HQ2 := Lib.hid (HQ0.out.touch HT2.out (by omega))
  have HR2 := Lib.hid (row_base hr2 (show gx ≤ _ by simp; omega))
  have HMk2 := Lib.hid hmk
  have HX2 := Lib.hid (HX1.out.trans hX2)
  have hl2 : B2.length ≤ B.length + n + T.length + 1 := by have := HL1.out; omega
  have HA := Lib.hid (mark_any kb mb B2 (ba O) w2 hK2 (by rw [ba_size]; unfold maxLen; omega) (by omega) Hne.out)
  obtain ⟨da, dc, rfl⟩ := row_shape hr2
  clear hr2 hmk hK2 hX2 hL2 hT2 hBa HX1 HT1 HL1 HQ1 HQ0
  go_wp2_with fail
  refine HA.out.mono ?_
  clear HA
  rintro e w3 ⟨rfl, hK3, hT3⟩
  have hsl := seen_length B2 (ba O)
  have HT3 := Lib.hid (HT2.out.trans hT3)
  have HQ3 := Lib.hid (HQ2.out.touch hT3 (by omega))
  have HR3 := Lib.hid (row_touch HR2.out hT3 (fun g hg e => by have := (HR2.out.lt g hg).1; omega))
  have HA := Lib.hid (mark_any kb mb (seen B2 (ba O)) (ba T) w3 hK3 (by rw [ba_size]; unfold maxLen; omega) (by omega) Hne.out)
  clear hK3 hT3 HT2 HQ2 HR2
  go_wp2_with fail
  refine HA.out.mono ?_
  clear HA
  rintro e w4 ⟨rfl, hK4, hT4⟩
  have hsl2 := seen_length (seen B2 (ba O)) (ba T)
  have HT4 := Lib.hid (HT3.out.trans hT4)
  have HQ4 := Lib.hid (HQ3.out.touch hT4 (by omega))
  have HR4 := Lib.hid (row_touch HR3.out hT4 (fun g hg e => by have := (HR3.out.lt g hg).1; omega))
  have hmm : markOf (seen (seen B2 (ba O)) (ba T)) (ba O) = markOf (seen B2 (ba O)) (ba O) := (Ext.seen _ _).mark (seen_mem _ _)
  rw [← hmm]
  have HXf := Lib.hid ((HX2.out.trans (Ext.seen B2 (ba O))).trans (Ext.seen _ (ba T)))
  have HmO := Lib.hid ((Ext.seen (seen B2 (ba O)) (ba T)) _ (seen_mem B2 (ba O))).1
  have HmT := Lib.hid (seen_mem (seen B2 (ba O)) (ba T))
  have HK4 := Lib.hid hK4
  have hlf : (seen (seen B2 (ba O)) (ba T)).length ≤ B.length + O.length + T.length + 3 := by omega
  have Hlf := Lib.hid hlf
  generalize seen (seen B2 (ba O)) (ba T) = Bf at HXf HmO HmT HK4 Hlf ⊢
  obtain ⟨m1, hm1⟩ : ∃ m1, m1 = markOf Bf (ba O) := ⟨_, rfl⟩
  obtain ⟨m2, hm2⟩ : ∃ m2, m2 = markOf Bf (ba T) := ⟨_, rfl⟩
  rw [← hm1, ← hm2]
  have Hm12 := Lib.hid (And.intro hm1 hm2)
  clear hm1 hm2
  have k0 := HQ4.out.cell 0
  have k1 := HQ4.out.cell 1
  have k2 := HQ4.out.cell 2
  have k3 := HQ4.out.cell 3
  have f0 := HQ4.out.free 0
  have f1 := HQ4.out.free 1
  have f2 := HQ4.out.free 2
  have f3 := HQ4.out.free 3
  have hq4 := HQ4.out.lt
  simp only [List.getElem?_cons_zero, List.getElem?_cons_succ] at k0 k1 k2 k3
  clear hK4 hT4 hlf hmm hsl hsl2 HT3 HQ3 HR3 hl2
  go_wp2_with fail
  have HQf := Lib.hid (((((HQ4.out.set 0 (.string m1)).set 1 (.string m2)).set 2 (.int .i64 (T.length : Int))).set 3 (.slice da l.length dc)))
  have HTf := Lib.hid (touchB (touchB (touchB (touchB (Touch.refl (fun k => k = gx) w4) (o := 0) (.string m1)) (o := 1) (.string m2)) (o := 2) (.int .i64 (T.length : Int))) (o := 3) (.slice da l.length dc))
  generalize (((w4.setCell ⟨gx, 0, none⟩ (.string m1)).setCell ⟨gx, 1, none⟩ (.string m2)).setCell ⟨gx, 2, none⟩ (.int .i64 (T.length : Int))).setCell ⟨gx, 3, none⟩ (.slice da l.length dc) = wf at HQf HTf ⊢
  have c0 : wf.cell? ⟨gx, 0, none⟩ = some (.string m1) := HQf.out.cell 0
  have c1 : wf.cell? ⟨gx, 1, none⟩ = some (.string m2) := HQf.out.cell 1
  have c2 : wf.cell? ⟨gx, 2, none⟩ = some (.int .i64 (T.length : Int)) := HQf.out.cell 2
  have c3 : wf.cell? ⟨gx, 3, none⟩ = some (.slice da l.length dc) := HQf.out.cell 3
  refine bodyPost_ret (v := .tuple #[.agg #[.string m1, .string m2, .int .i64 (T.length : Int), .slice da l.length dc], .int .i64 0]) (by simp [results, Tryz.results14, go_sem, c0, c1, c2, c3]) rfl ?_
  refine ⟨.slice da l.length dc, l, Bf, ?_, ?_, HMk2.out, ?_, HXf.out, HmO.out, HmT.out, Hlf.out, ?_⟩
  · unfold dlV
    rw [← Hm12.out.1, ← Hm12.out.2]
  · rw [← Hgx.out]
    exact row_touch HR4.out HTf.out (fun g hg e => row_ne HR4.out HQ4.out (by decide) (by rw [hg, e]))
  · exact HK4.out.touch HTf.out (by omega) (by omega)
  · exact touch_join ((Touch.of_below (S := fun j => j = mb) (by rw [← Hgx.out]; exact HB0.out)).trans HT4.out) HTf.out (fun j hj => Or.inr (by rw [← Hgx.out]; omega))
end Go.Proofs.YtogobhpnlndcaaaGreat
