/- A vault's promise. No condition. -/
import Derived.Test.YtaeklleogniimaaGreatDoorVltReply
import Derived.Deep.RegionLaw
namespace Go.Proofs.YtaeklleogniimaaGreatDoor
open Go Go.RowKit
set_option linter.unusedVariables false

set_option maxRecDepth 100000 in
set_option maxHeartbeats 4000000 in
theorem promise_any {w : World} {v b k lg st : Nat} {id pr : Int} (hv : VltAt w v id b k lg st pr) (k0 fr t0 bl : Int) : Calls Tryz.prog 42 #[.pointer (some ⟨v, 0, none⟩), .agg (msgVals k0 fr t0 bl).toArray] w fun e w' => ∃ g, e = .returned (.slice (some ⟨g, 0, none⟩) 1 1) ∧ w'.cell? ⟨g, 0, none⟩ = some (.int .i64 2) ∧ g < w'.heap.size ∧ Below w.heap.size w w' := by
  have HRp := Lib.hid (fun W (h : VltAt W v id b k lg st pr) => reply_any h 2 k0 fr t0 bl)
  have HMk := Lib.hid (fun W (h : VltAt W v id b k lg st pr) => vmarked h)
  have HVs := Lib.hid (fun W (hb : Below w.heap.size w W) => hv.below hb)
  clear hv
  unfold msgVals at HRp ⊢
  go_enter Tryz.func42, Tryz.ntmps42
  go_wp2_with fail
  have hb0 := Lib.hid ((Below.refl w.heap.size w).alloc (Nat.le_refl _) (.cells (msgVals k0 fr t0 bl).toArray 26))
  have HM0 := Lib.hid (Blk.new w (msgVals k0 fr t0 bl) 26)
  refine (HRp.out _ (HVs.out _ hb0.out)).mono ?_
  rintro e w1 ⟨rfl, hb⟩
  have HB1 := Lib.hid (below_step hb0.out hb)
  have HM1 := Lib.hid (HM0.out.below hb)
  clear hb hb0 HRp HM0
  go_wp2_with fail
  have HM2 := HM1.out.alloc (.cells (msgVals 2 id fr 0).toArray 26)
  have HR2 := Blk.new w1 (msgVals 2 id fr 0) 26
  have HB2 := Lib.hid (HB1.out.alloc HB1.out.size (.cells (msgVals 2 id fr 0).toArray 26))
  unfold msgVals at HM2 HR2 HB2
  obtain ⟨m, Hm⟩ : ∃ m, Hid (m = w.heap.size) := ⟨_, Lib.hid rfl⟩
  obtain ⟨r, Hr⟩ : ∃ r, Hid (r = w1.heap.size) := ⟨_, Lib.hid rfl⟩
  have Hrw := Lib.hid (show w.heap.size ≤ r from by rw [Hr.out]; exact HB1.out.size)
  rw [← Hr.out] at HR2 ⊢
  rw [← Hm.out] at HM2
  generalize w1.alloc (.cells #[.int .i64 2, .int .i64 id, .int .i64 fr, .int .i64 0, .int .i64 0, .int .i64 0, .int .i64 0, .int .i64 0, .int .i64 0, .string ⟨#[]⟩, .int .i64 0, .int .i64 0, .string ⟨#[]⟩, .slice none 0 0] 26) = w2 at HM2 HR2 HB2 ⊢
  have HVw := Lib.hid (HVs.out _ HB2.out)
  have hvr : v ≠ r := by have := (HVs.out _ (Below.refl _ w)).1.lt; have := Hrw.out; omega
  have hrv : r ≠ v := fun e => hvr e.symm
  have hmr : m ≠ r := by have := HM1.out.lt; have := Hm.out; have := Hr.out; omega
  have hrm : r ≠ m := fun e => hmr e.symm
  rw [← Hm.out]
  have k5 : w2.cell? ⟨v, 5, none⟩ = some (.int .i64 0) := HVw.out.1.cell 5
  have k6 : w2.cell? ⟨v, 6, none⟩ = some (.int .i64 0) := HVw.out.1.cell 6
  have km : w2.cell? ⟨m, 3, none⟩ = some (.int .i64 bl) := HM2.cell 3
  have c3 : w2.cell? ⟨r, 3, none⟩ = some (.int .i64 0) := HR2.cell 3
  have c6 : w2.cell? ⟨r, 6, none⟩ = some (.int .i64 0) := HR2.cell 6
  have c7 : w2.cell? ⟨r, 7, none⟩ = some (.int .i64 0) := HR2.cell 7
  have c13 : w2.cell? ⟨r, 13, none⟩ = some (.slice none 0 0) := HR2.cell 13
  have f3 : w2.frozen? ⟨r, 3, none⟩ = false := HR2.free 3
  have f6 : w2.frozen? ⟨r, 6, none⟩ = false := HR2.free 6
  have f7 : w2.frozen? ⟨r, 7, none⟩ = false := HR2.free 7
  have f13 : w2.frozen? ⟨r, 13, none⟩ = false := HR2.free 13
  have hrl : r < w2.heap.size := HR2.lt
  have HRR := Lib.hid HR2
  have e3 : w2.drew.cell? ⟨r, 3, none⟩ = some (.int .i64 0) := HRR.out.drew.cell 3
  have g3 : w2.drew.frozen? ⟨r, 3, none⟩ = false := HRR.out.drew.free 3
  have e6 : w2.drew.cell? ⟨r, 6, none⟩ = some (.int .i64 0) := HRR.out.drew.cell 6
  have g6 : w2.drew.frozen? ⟨r, 6, none⟩ = false := HRR.out.drew.free 6
  have e7 : w2.drew.cell? ⟨r, 7, none⟩ = some (.int .i64 0) := HRR.out.drew.cell 7
  have g7 : w2.drew.frozen? ⟨r, 7, none⟩ = false := HRR.out.drew.free 7
  have e13 : w2.drew.cell? ⟨r, 13, none⟩ = some (.slice none 0 0) := HRR.out.drew.cell 13
  have g13 : w2.drew.frozen? ⟨r, 13, none⟩ = false := HRR.out.drew.free 13
  have l5 : w2.drew.cell? ⟨v, 5, none⟩ = some (.int .i64 0) := HVw.out.1.drew.cell 5
  have l6 : w2.drew.cell? ⟨v, 6, none⟩ = some (.int .i64 0) := HVw.out.1.drew.cell 6
  have lm : w2.drew.cell? ⟨m, 3, none⟩ = some (.int .i64 bl) := km
  have hrd : r < w2.drew.heap.size := hrl
  clear HM2 HR2 HVs HM1
  have HQ := Lib.hid (((((HRR.out.set 3 (.int .i64 bl)).set 6 (.int .i64 0)).set 7 (.int .i64 0)).set 13 (.slice none 0 0)).drew)
  have HT := Lib.hid (touchV (o := 13) (touchV (o := 7) (touchV (o := 6) (touchV (o := 3) (Touch.refl (fun k => k = r) w2) (.int .i64 bl)) (.int .i64 0)) (.int .i64 0)) (.slice none 0 0))
  have HBf := Lib.hid (HB2.out.trans (HT.out.below HB2.out.size (fun j hj hh => by have := Hrw.out; omega))).drew
  clear HT
  obtain ⟨wf, Hwf⟩ : ∃ wf, Hid (((((w2.setCell ⟨r, 3, none⟩ (.int .i64 bl)).setCell ⟨r, 6, none⟩ (.int .i64 0)).setCell ⟨r, 7, none⟩ (.int .i64 0)).setCell ⟨r, 13, none⟩ (.slice none 0 0)).drew = wf) := ⟨_, Lib.hid rfl⟩
  rw [Hwf.out] at HQ HBf
  have d0 : wf.cell? ⟨r, 0, none⟩ = some (.int .i64 2) := HQ.out.cell 0
  have d1 : wf.cell? ⟨r, 1, none⟩ = some (.int .i64 id) := HQ.out.cell 1
  have d2 : wf.cell? ⟨r, 2, none⟩ = some (.int .i64 fr) := HQ.out.cell 2
  have d3 : wf.cell? ⟨r, 3, none⟩ = some (.int .i64 bl) := HQ.out.cell 3
  have d4 : wf.cell? ⟨r, 4, none⟩ = some (.int .i64 0) := HQ.out.cell 4
  have d5 : wf.cell? ⟨r, 5, none⟩ = some (.int .i64 0) := HQ.out.cell 5
  have d6 : wf.cell? ⟨r, 6, none⟩ = some (.int .i64 0) := HQ.out.cell 6
  have d7 : wf.cell? ⟨r, 7, none⟩ = some (.int .i64 0) := HQ.out.cell 7
  have d8 : wf.cell? ⟨r, 8, none⟩ = some (.int .i64 0) := HQ.out.cell 8
  have d9 : wf.cell? ⟨r, 9, none⟩ = some (.string ⟨#[]⟩) := HQ.out.cell 9
  have d10 : wf.cell? ⟨r, 10, none⟩ = some (.int .i64 0) := HQ.out.cell 10
  have d11 : wf.cell? ⟨r, 11, none⟩ = some (.int .i64 0) := HQ.out.cell 11
  have d12 : wf.cell? ⟨r, 12, none⟩ = some (.string ⟨#[]⟩) := HQ.out.cell 12
  have d13 : wf.cell? ⟨r, 13, none⟩ = some (.slice none 0 0) := HQ.out.cell 13
  go_region_law (go_simp; go_at_call 102; refine (HMk.out _ (by first | exact HVw.out | exact ⟨Blk.drew HVw.out.1, Blk.drew HVw.out.2⟩)).mono ?_; rintro e w' ⟨rfl, rfl⟩)
  all_goals
    rw [Hwf.out]
    clear HMk HB2 HVw HRR k5 k6 km c3 c6 c7 c13 f3 f6 f7 f13 e3 e6 e7 e13 g3 g6 g7 g13 l5 l6 lm hrd
    go_wp2_with fail
    go_ret
    exact ⟨wf.heap.size, rfl, (Blk.new wf [.int .i64 2, .int .i64 id, .int .i64 fr, .int .i64 bl, .int .i64 0, .int .i64 0, .int .i64 0, .int .i64 0, .int .i64 0, .string ⟨#[]⟩, .int .i64 0, .int .i64 0, .string ⟨#[]⟩, .slice none 0 0] 26).cell 0, (Blk.new wf [.int .i64 2, .int .i64 id, .int .i64 fr, .int .i64 bl, .int .i64 0, .int .i64 0, .int .i64 0, .int .i64 0, .int .i64 0, .string ⟨#[]⟩, .int .i64 0, .int .i64 0, .string ⟨#[]⟩, .slice none 0 0] 26).lt, HBf.out.alloc HBf.out.size _⟩
end Go.Proofs.YtaeklleogniimaaGreatDoor
