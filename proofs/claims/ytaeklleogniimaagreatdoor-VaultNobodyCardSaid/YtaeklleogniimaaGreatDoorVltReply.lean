/- A vault's answer to a message, begun. No condition. -/
import Derived.Test.YtaeklleogniimaaGreatDoorVltAns
namespace Go.Proofs.YtaeklleogniimaaGreatDoor
open Go Go.RowKit
set_option linter.unusedVariables false

set_option maxRecDepth 100000 in
set_option maxHeartbeats 2000000 in
theorem reply_any {w : World} {v b k lg st : Nat} {id pr : Int} (hv : VltAt w v id b k lg st pr) (kind k0 fr t0 bl : Int) : Calls Tryz.prog 45 #[.pointer (some ⟨v, 0, none⟩), .agg (msgVals k0 fr t0 bl).toArray, .int .i64 kind] w fun e w' => e = .returned (.agg (msgVals kind id fr 0).toArray) ∧ Below w.heap.size w w' := by
  have HV := Lib.hid hv
  clear hv
  unfold msgVals
  go_enter Tryz.func45, Tryz.ntmps45
  go_wp2_with fail
  obtain ⟨m, Hm⟩ : ∃ m, Hid (m = w.heap.size) := ⟨_, Lib.hid rfl⟩
  obtain ⟨r, Hr⟩ : ∃ r, Hid (r = w.heap.size + 1) := ⟨_, Lib.hid rfl⟩
  have HM := (Blk.new w (msgVals k0 fr t0 bl) 26).alloc (.cells (msgVals 0 0 0 0).toArray 26)
  have HR := Blk.new (w.alloc (.cells (msgVals k0 fr t0 bl).toArray 26)) (msgVals 0 0 0 0) 26
  have hb0 := ((Below.refl w.heap.size w).alloc (Nat.le_refl _) (.cells (msgVals k0 fr t0 bl).toArray 26)).alloc (by simp) (.cells (msgVals 0 0 0 0).toArray 26)
  rw [show (w.alloc (.cells (msgVals k0 fr t0 bl).toArray 26)).heap.size = w.heap.size + 1 from by simp] at HR
  have HVn := Lib.hid (HV.out.below hb0)
  have Hv := Lib.hid HV.out.1.lt
  have hb1 := Lib.hid hb0
  clear HV hb0
  unfold msgVals at HM HR hb1 HVn
  generalize (w.alloc (.cells #[.int .i64 k0, .int .i64 fr, .int .i64 t0, .int .i64 bl, .int .i64 0, .int .i64 0, .int .i64 0, .int .i64 0, .int .i64 0, .string ⟨#[]⟩, .int .i64 0, .int .i64 0, .string ⟨#[]⟩, .slice none 0 0] 26)).alloc (.cells #[.int .i64 0, .int .i64 0, .int .i64 0, .int .i64 0, .int .i64 0, .int .i64 0, .int .i64 0, .int .i64 0, .int .i64 0, .string ⟨#[]⟩, .int .i64 0, .int .i64 0, .string ⟨#[]⟩, .slice none 0 0] 26) = w2 at HM HR hb1 HVn ⊢
  rw [← Hm.out] at HM ⊢
  rw [show m + 1 = r by rw [Hr.out, Hm.out]]
  rw [← Hr.out] at HR
  have kv : w2.cell? ⟨v, 0, none⟩ = some (.int .i64 id) := HVn.out.1.cell 0
  have km : w2.cell? ⟨m, 1, none⟩ = some (.int .i64 fr) := HM.cell 1
  have c0 : w2.cell? ⟨r, 0, none⟩ = some (.int .i64 0) := HR.cell 0
  have f0 : w2.frozen? ⟨r, 0, none⟩ = false := HR.free 0
  have c1 : w2.cell? ⟨r, 1, none⟩ = some (.int .i64 0) := HR.cell 1
  have f1 : w2.frozen? ⟨r, 1, none⟩ = false := HR.free 1
  have c2 : w2.cell? ⟨r, 2, none⟩ = some (.int .i64 0) := HR.cell 2
  have f2 : w2.frozen? ⟨r, 2, none⟩ = false := HR.free 2
  have c3 : w2.cell? ⟨r, 3, none⟩ = some (.int .i64 0) := HR.cell 3
  have f3 : w2.frozen? ⟨r, 3, none⟩ = false := HR.free 3
  have c4 : w2.cell? ⟨r, 4, none⟩ = some (.int .i64 0) := HR.cell 4
  have f4 : w2.frozen? ⟨r, 4, none⟩ = false := HR.free 4
  have c5 : w2.cell? ⟨r, 5, none⟩ = some (.int .i64 0) := HR.cell 5
  have f5 : w2.frozen? ⟨r, 5, none⟩ = false := HR.free 5
  have c6 : w2.cell? ⟨r, 6, none⟩ = some (.int .i64 0) := HR.cell 6
  have f6 : w2.frozen? ⟨r, 6, none⟩ = false := HR.free 6
  have c7 : w2.cell? ⟨r, 7, none⟩ = some (.int .i64 0) := HR.cell 7
  have f7 : w2.frozen? ⟨r, 7, none⟩ = false := HR.free 7
  have c8 : w2.cell? ⟨r, 8, none⟩ = some (.int .i64 0) := HR.cell 8
  have f8 : w2.frozen? ⟨r, 8, none⟩ = false := HR.free 8
  have c9 : w2.cell? ⟨r, 9, none⟩ = some (.string ⟨#[]⟩) := HR.cell 9
  have f9 : w2.frozen? ⟨r, 9, none⟩ = false := HR.free 9
  have c10 : w2.cell? ⟨r, 10, none⟩ = some (.int .i64 0) := HR.cell 10
  have f10 : w2.frozen? ⟨r, 10, none⟩ = false := HR.free 10
  have c11 : w2.cell? ⟨r, 11, none⟩ = some (.int .i64 0) := HR.cell 11
  have f11 : w2.frozen? ⟨r, 11, none⟩ = false := HR.free 11
  have c12 : w2.cell? ⟨r, 12, none⟩ = some (.string ⟨#[]⟩) := HR.cell 12
  have f12 : w2.frozen? ⟨r, 12, none⟩ = false := HR.free 12
  have c13 : w2.cell? ⟨r, 13, none⟩ = some (.slice none 0 0) := HR.cell 13
  have f13 : w2.frozen? ⟨r, 13, none⟩ = false := HR.free 13
  have HRr := Lib.hid HR
  have hrl : r < w2.heap.size := HR.lt
  clear HM HR
  go_region
  clear kv km c0 f0 c1 f1 c2 f2 c3 f3 c4 f4 c5 f5 c6 f6 c7 f7 c8 f8 c9 f9 c10 f10 c11 f11 c12 f12 c13 f13
  have HQf := Lib.hid ((((((((((((((((HRr.out).set 0 (.int .i64 kind)).set 1 (.int .i64 id)).set 2 (.int .i64 fr)).set 3 (.int .i64 0)).set 4 (.int .i64 0)).set 5 (.int .i64 0)).set 6 (.int .i64 0)).set 7 (.int .i64 0)).set 8 (.int .i64 0)).set 9 (.string ⟨#[]⟩)).set 10 (.int .i64 0)).set 11 (.int .i64 0)).set 12 (.string ⟨#[]⟩)).set 13 (.slice none 0 0)).drew)
  have HTf := Lib.hid (touchV (o := 13) (touchV (o := 12) (touchV (o := 11) (touchV (o := 10) (touchV (o := 9) (touchV (o := 8) (touchV (o := 7) (touchV (o := 6) (touchV (o := 5) (touchV (o := 4) (touchV (o := 3) (touchV (o := 2) (touchV (o := 1) (touchV (o := 0) (Touch.refl (fun k => k = r) w2) (.int .i64 kind)) (.int .i64 id)) (.int .i64 fr)) (.int .i64 0)) (.int .i64 0)) (.int .i64 0)) (.int .i64 0)) (.int .i64 0)) (.int .i64 0)) (.string ⟨#[]⟩)) (.int .i64 0)) (.int .i64 0)) (.string ⟨#[]⟩)) (.slice none 0 0))
  have HBf := Lib.hid (hb1.out.trans (HTf.out.below hb1.out.size (fun j hj hh => by have := Hr.out; omega))).drew
  clear HTf
  generalize (((((((((((((((w2).setCell ⟨r, 0, none⟩ (.int .i64 kind)).setCell ⟨r, 1, none⟩ (.int .i64 id)).setCell ⟨r, 2, none⟩ (.int .i64 fr)).setCell ⟨r, 3, none⟩ (.int .i64 0)).setCell ⟨r, 4, none⟩ (.int .i64 0)).setCell ⟨r, 5, none⟩ (.int .i64 0)).setCell ⟨r, 6, none⟩ (.int .i64 0)).setCell ⟨r, 7, none⟩ (.int .i64 0)).setCell ⟨r, 8, none⟩ (.int .i64 0)).setCell ⟨r, 9, none⟩ (.string ⟨#[]⟩)).setCell ⟨r, 10, none⟩ (.int .i64 0)).setCell ⟨r, 11, none⟩ (.int .i64 0)).setCell ⟨r, 12, none⟩ (.string ⟨#[]⟩)).setCell ⟨r, 13, none⟩ (.slice none 0 0)).drew = wf at HQf HBf ⊢
  have c0 : wf.cell? ⟨r, 0, none⟩ = some (.int .i64 kind) := HQf.out.cell 0
  have c1 : wf.cell? ⟨r, 1, none⟩ = some (.int .i64 id) := HQf.out.cell 1
  have c2 : wf.cell? ⟨r, 2, none⟩ = some (.int .i64 fr) := HQf.out.cell 2
  have c3 : wf.cell? ⟨r, 3, none⟩ = some (.int .i64 0) := HQf.out.cell 3
  have c4 : wf.cell? ⟨r, 4, none⟩ = some (.int .i64 0) := HQf.out.cell 4
  have c5 : wf.cell? ⟨r, 5, none⟩ = some (.int .i64 0) := HQf.out.cell 5
  have c6 : wf.cell? ⟨r, 6, none⟩ = some (.int .i64 0) := HQf.out.cell 6
  have c7 : wf.cell? ⟨r, 7, none⟩ = some (.int .i64 0) := HQf.out.cell 7
  have c8 : wf.cell? ⟨r, 8, none⟩ = some (.int .i64 0) := HQf.out.cell 8
  have c9 : wf.cell? ⟨r, 9, none⟩ = some (.string ⟨#[]⟩) := HQf.out.cell 9
  have c10 : wf.cell? ⟨r, 10, none⟩ = some (.int .i64 0) := HQf.out.cell 10
  have c11 : wf.cell? ⟨r, 11, none⟩ = some (.int .i64 0) := HQf.out.cell 11
  have c12 : wf.cell? ⟨r, 12, none⟩ = some (.string ⟨#[]⟩) := HQf.out.cell 12
  have c13 : wf.cell? ⟨r, 13, none⟩ = some (.slice none 0 0) := HQf.out.cell 13
  go_wp2_with fail
  refine bodyPost_ret (v := .agg (msgVals kind id fr 0).toArray) (by simp [msgVals, results, Tryz.results45, go_sem, c0, c1, c2, c3, c4, c5, c6, c7, c8, c9, c10, c11, c12, c13]) rfl ⟨rfl, HBf.out⟩
end Go.Proofs.YtaeklleogniimaaGreatDoor
