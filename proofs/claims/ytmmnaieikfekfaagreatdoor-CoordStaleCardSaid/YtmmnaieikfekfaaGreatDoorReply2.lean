/- The walk of the statement's reply at a message that asks for a promise. No condition. -/
import Derived.Test.YtmmnaieikfekfaaGreatDoorReply
namespace Go.Proofs.YtmmnaieikfekfaaGreatDoor
open Go Go.RowKit
set_option linter.unusedVariables false

set_option maxRecDepth 100000 in
set_option maxHeartbeats 4000000 in
theorem reply_prep (id v bal id2 : Int) (w : World) : Calls Tryz.prog 60 #[.agg #[.int .i64 1, .int .i64 id, .int .i64 v, .int .i64 bal, .int .i64 0, .int .i64 0, .int .i64 0, .int .i64 0, .int .i64 0, .string ⟨#[]⟩, .int .i64 0, .int .i64 0, .string ⟨#[]⟩, .slice none 0 0], .int .i64 id2] w fun e w' => e = .returned (.agg #[.int .i64 2, .int .i64 v, .int .i64 id2, .int .i64 bal, .int .i64 0, .int .i64 0, .int .i64 0, .int .i64 0, .int .i64 0, .string ⟨#[]⟩, .int .i64 0, .int .i64 0, .string ⟨#[]⟩, .slice none 0 0]) ∧ Below w.heap.size w w' := by
  have HC := Lib.hid (fun w1 => clean_prom v id2 bal w1)
  go_enter Tryz.func60, Tryz.ntmps60
  go_wp2_with fail
  have Y2 := (Blk.new (w.alloc (.cells #[.int .i64 1, .int .i64 id, .int .i64 v, .int .i64 bal, .int .i64 0, .int .i64 0, .int .i64 0, .int .i64 0, .int .i64 0, .string ⟨#[]⟩, .int .i64 0, .int .i64 0, .string ⟨#[]⟩, .slice none 0 0] 61)) [.int .i64 0, .int .i64 0, .int .i64 0, .int .i64 0, .int .i64 0, .int .i64 0, .int .i64 0, .int .i64 0, .int .i64 0, .string ⟨#[]⟩, .int .i64 0, .int .i64 0, .string ⟨#[]⟩, .slice none 0 0] 61).alloc (.cells #[.int .i64 2, .int .i64 v, .int .i64 id2, .int .i64 bal, .int .i64 0, .int .i64 0, .int .i64 0, .int .i64 0, .int .i64 0, .string ⟨#[]⟩, .int .i64 0, .int .i64 0, .string ⟨#[]⟩, .slice none 0 0] 61)
  have b0 := (((Below.refl w.heap.size w).alloc (Nat.le_refl _) (.cells #[.int .i64 1, .int .i64 id, .int .i64 v, .int .i64 bal, .int .i64 0, .int .i64 0, .int .i64 0, .int .i64 0, .int .i64 0, .string ⟨#[]⟩, .int .i64 0, .int .i64 0, .string ⟨#[]⟩, .slice none 0 0] 61)).alloc (by simp) (.cells #[.int .i64 0, .int .i64 0, .int .i64 0, .int .i64 0, .int .i64 0, .int .i64 0, .int .i64 0, .int .i64 0, .int .i64 0, .string ⟨#[]⟩, .int .i64 0, .int .i64 0, .string ⟨#[]⟩, .slice none 0 0] 61)).alloc (by simp; omega) (.cells #[.int .i64 2, .int .i64 v, .int .i64 id2, .int .i64 bal, .int .i64 0, .int .i64 0, .int .i64 0, .int .i64 0, .int .i64 0, .string ⟨#[]⟩, .int .i64 0, .int .i64 0, .string ⟨#[]⟩, .slice none 0 0] 61)
  rw [show (w.alloc (.cells #[.int .i64 1, .int .i64 id, .int .i64 v, .int .i64 bal, .int .i64 0, .int .i64 0, .int .i64 0, .int .i64 0, .int .i64 0, .string ⟨#[]⟩, .int .i64 0, .int .i64 0, .string ⟨#[]⟩, .slice none 0 0] 61)).heap.size = w.heap.size + 1 by simp] at Y2
  have hgw : w.heap.size ≤ w.heap.size + 1 := by omega
  have HY0 := Lib.hid (show Blk (((w.alloc (.cells #[.int .i64 1, .int .i64 id, .int .i64 v, .int .i64 bal, .int .i64 0, .int .i64 0, .int .i64 0, .int .i64 0, .int .i64 0, .string ⟨#[]⟩, .int .i64 0, .int .i64 0, .string ⟨#[]⟩, .slice none 0 0] 61)).alloc (.cells #[.int .i64 0, .int .i64 0, .int .i64 0, .int .i64 0, .int .i64 0, .int .i64 0, .int .i64 0, .int .i64 0, .int .i64 0, .string ⟨#[]⟩, .int .i64 0, .int .i64 0, .string ⟨#[]⟩, .slice none 0 0] 61)).alloc (.cells #[.int .i64 2, .int .i64 v, .int .i64 id2, .int .i64 bal, .int .i64 0, .int .i64 0, .int .i64 0, .int .i64 0, .int .i64 0, .string ⟨#[]⟩, .int .i64 0, .int .i64 0, .string ⟨#[]⟩, .slice none 0 0] 61)) (w.heap.size + 1) [.int .i64 0, .int .i64 0, .int .i64 0, .int .i64 0, .int .i64 0, .int .i64 0, .int .i64 0, .int .i64 0, .int .i64 0, .string ⟨#[]⟩, .int .i64 0, .int .i64 0, .string ⟨#[]⟩, .slice none 0 0] 61 from Y2)
  clear Y2
  generalize ((w.alloc (.cells #[.int .i64 1, .int .i64 id, .int .i64 v, .int .i64 bal, .int .i64 0, .int .i64 0, .int .i64 0, .int .i64 0, .int .i64 0, .string ⟨#[]⟩, .int .i64 0, .int .i64 0, .string ⟨#[]⟩, .slice none 0 0] 61)).alloc (.cells #[.int .i64 0, .int .i64 0, .int .i64 0, .int .i64 0, .int .i64 0, .int .i64 0, .int .i64 0, .int .i64 0, .int .i64 0, .string ⟨#[]⟩, .int .i64 0, .int .i64 0, .string ⟨#[]⟩, .slice none 0 0] 61)).alloc (.cells #[.int .i64 2, .int .i64 v, .int .i64 id2, .int .i64 bal, .int .i64 0, .int .i64 0, .int .i64 0, .int .i64 0, .int .i64 0, .string ⟨#[]⟩, .int .i64 0, .int .i64 0, .string ⟨#[]⟩, .slice none 0 0] 61) = w0 at HY0 b0 ⊢
  generalize w.heap.size + 1 = g at HY0 hgw ⊢
  refine (HC.out w0).mono ?_
  rintro e w1 ⟨rfl, hb1⟩
  have HY := Lib.hid (HY0.out.below hb1)
  have HB1 := Lib.hid (below_step b0 hb1)
  have y0 : w1.cell? ⟨g, 0, none⟩ = some (.int .i64 0) := HY.out.cell 0
  have f0 := HY.out.free 0
  have y1 : w1.cell? ⟨g, 1, none⟩ = some (.int .i64 0) := HY.out.cell 1
  have f1 := HY.out.free 1
  have y2 : w1.cell? ⟨g, 2, none⟩ = some (.int .i64 0) := HY.out.cell 2
  have f2 := HY.out.free 2
  have y3 : w1.cell? ⟨g, 3, none⟩ = some (.int .i64 0) := HY.out.cell 3
  have f3 := HY.out.free 3
  have y4 : w1.cell? ⟨g, 4, none⟩ = some (.int .i64 0) := HY.out.cell 4
  have f4 := HY.out.free 4
  have y5 : w1.cell? ⟨g, 5, none⟩ = some (.int .i64 0) := HY.out.cell 5
  have f5 := HY.out.free 5
  have y6 : w1.cell? ⟨g, 6, none⟩ = some (.int .i64 0) := HY.out.cell 6
  have f6 := HY.out.free 6
  have y7 : w1.cell? ⟨g, 7, none⟩ = some (.int .i64 0) := HY.out.cell 7
  have f7 := HY.out.free 7
  have y8 : w1.cell? ⟨g, 8, none⟩ = some (.int .i64 0) := HY.out.cell 8
  have f8 := HY.out.free 8
  have y9 : w1.cell? ⟨g, 9, none⟩ = some (.string ⟨#[]⟩) := HY.out.cell 9
  have f9 := HY.out.free 9
  have y10 : w1.cell? ⟨g, 10, none⟩ = some (.int .i64 0) := HY.out.cell 10
  have f10 := HY.out.free 10
  have y11 : w1.cell? ⟨g, 11, none⟩ = some (.int .i64 0) := HY.out.cell 11
  have f11 := HY.out.free 11
  have y12 : w1.cell? ⟨g, 12, none⟩ = some (.string ⟨#[]⟩) := HY.out.cell 12
  have f12 := HY.out.free 12
  have y13 : w1.cell? ⟨g, 13, none⟩ = some (.slice none 0 0) := HY.out.cell 13
  have f13 := HY.out.free 13
  clear HC HY0 b0 hb1
  have HB := Lib.hid ((((((((((((((HB1.out.setCell (p := ⟨g, 0, none⟩) hgw (.int .i64 2)).setCell (p := ⟨g, 1, none⟩) hgw (.int .i64 v)).setCell (p := ⟨g, 2, none⟩) hgw (.int .i64 id2)).setCell (p := ⟨g, 3, none⟩) hgw (.int .i64 bal)).setCell (p := ⟨g, 4, none⟩) hgw (.int .i64 0)).setCell (p := ⟨g, 5, none⟩) hgw (.int .i64 0)).setCell (p := ⟨g, 6, none⟩) hgw (.int .i64 0)).setCell (p := ⟨g, 7, none⟩) hgw (.int .i64 0)).setCell (p := ⟨g, 8, none⟩) hgw (.int .i64 0)).setCell (p := ⟨g, 9, none⟩) hgw (.string ⟨#[]⟩)).setCell (p := ⟨g, 10, none⟩) hgw (.int .i64 0)).setCell (p := ⟨g, 11, none⟩) hgw (.int .i64 0)).setCell (p := ⟨g, 12, none⟩) hgw (.string ⟨#[]⟩)).setCell (p := ⟨g, 13, none⟩) hgw (.slice none 0 0))
  go_wp2_with fail
  refine bodyPost_ret (v := .agg #[.int .i64 2, .int .i64 v, .int .i64 id2, .int .i64 bal, .int .i64 0, .int .i64 0, .int .i64 0, .int .i64 0, .int .i64 0, .string ⟨#[]⟩, .int .i64 0, .int .i64 0, .string ⟨#[]⟩, .slice none 0 0]) ?_ rfl ⟨rfl, HB.out⟩
  simp [results, Tryz.results60, go_sem, y0, y1, y2, y3, y4, y5, y6, y7, y8, y9, y10, y11, y12, y13]
end Go.Proofs.YtmmnaieikfekfaaGreatDoor
