/- The walk of the statement's reply (layer 20) at the kinds 1, 4, 7, 9, 11 (printed by wip/mkcreply.py). Condition: the numbers are small. -/
import Derived.Test.YtaemlplcjjbamaaGreatDoorBCClean
namespace Go.Proofs.YtaemlplcjjbamaaGreatDoor
open Go Go.RowKit
set_option linter.unusedVariables false
def answer1 (m : MG) (id : Int) : MG := ⟨2, m.to_, id, m.bal, m.gen, 0, m.fl, 0, m.rd, m.mrk, 0, 0, ⟨#[]⟩, none, 0, 0⟩
set_option maxRecDepth 100000 in
set_option maxHeartbeats 4000000 in
theorem lawReply_1 (m : MG) (id : Int) (w : World)  : Calls Tryz.prog 32 #[.agg #[.int .i64 1, .int .i64 m.fr, .int .i64 m.to_, .int .i64 m.bal, .int .i64 m.gen, .int .i64 m.bas, .int .i64 m.fl, .int .i64 m.tp, .int .i64 m.rd, .string m.mrk, .int .i64 m.pa, .int .i64 m.po, .string m.pt, .slice m.la m.ll m.lc], .int .i64 id] w fun e w' => ∃ o : MG, Hid (o = cleanTo (answer1 m id) (fieldsOf 2) (fieldsOf 2).size) ∧ e = .returned (.agg #[.int .i64 o.k, .int .i64 o.fr, .int .i64 o.to_, .int .i64 o.bal, .int .i64 o.gen, .int .i64 o.bas, .int .i64 o.fl, .int .i64 o.tp, .int .i64 o.rd, .string o.mrk, .int .i64 o.pa, .int .i64 o.po, .string o.pt, .slice o.la o.ll o.lc]) ∧ Below w.heap.size w w' := by
  have HC := Lib.hid (show ∀ w1, Calls Tryz.prog 31 #[.agg #[.int .i64 2, .int .i64 m.to_, .int .i64 id, .int .i64 m.bal, .int .i64 m.gen, .int .i64 0, .int .i64 m.fl, .int .i64 0, .int .i64 m.rd, .string m.mrk, .int .i64 0, .int .i64 0, .string ⟨#[]⟩, .slice none 0 0]] w1 fun e w' => ∃ o : MG, Hid (o = cleanTo (answer1 m id) (fieldsOf 2) (fieldsOf 2).size) ∧ e = .returned (.agg #[.int .i64 o.k, .int .i64 o.fr, .int .i64 o.to_, .int .i64 o.bal, .int .i64 o.gen, .int .i64 o.bas, .int .i64 o.fl, .int .i64 o.tp, .int .i64 o.rd, .string o.mrk, .int .i64 o.pa, .int .i64 o.po, .string o.pt, .slice o.la o.ll o.lc]) ∧ Below w1.heap.size w1 w' from fun w1 => clean_any (answer1 m id) (by show IsKind 2; unfold IsKind; omega) w1)
  go_enter Tryz.func32, Tryz.ntmps32
  go_wp2_with fail
  have Y2 := (Blk.new (w.alloc (.cells #[.int .i64 1, .int .i64 m.fr, .int .i64 m.to_, .int .i64 m.bal, .int .i64 m.gen, .int .i64 m.bas, .int .i64 m.fl, .int .i64 m.tp, .int .i64 m.rd, .string m.mrk, .int .i64 m.pa, .int .i64 m.po, .string m.pt, .slice m.la m.ll m.lc] 30)) [.int .i64 0, .int .i64 0, .int .i64 0, .int .i64 0, .int .i64 0, .int .i64 0, .int .i64 0, .int .i64 0, .int .i64 0, .string ⟨#[]⟩, .int .i64 0, .int .i64 0, .string ⟨#[]⟩, .slice none 0 0] 30).alloc (.cells #[.int .i64 2, .int .i64 m.to_, .int .i64 id, .int .i64 m.bal, .int .i64 m.gen, .int .i64 0, .int .i64 m.fl, .int .i64 0, .int .i64 m.rd, .string m.mrk, .int .i64 0, .int .i64 0, .string ⟨#[]⟩, .slice none 0 0] 30)
  have b0 := (((Below.refl w.heap.size w).alloc (Nat.le_refl _) (.cells #[.int .i64 1, .int .i64 m.fr, .int .i64 m.to_, .int .i64 m.bal, .int .i64 m.gen, .int .i64 m.bas, .int .i64 m.fl, .int .i64 m.tp, .int .i64 m.rd, .string m.mrk, .int .i64 m.pa, .int .i64 m.po, .string m.pt, .slice m.la m.ll m.lc] 30)).alloc (by simp) (.cells #[.int .i64 0, .int .i64 0, .int .i64 0, .int .i64 0, .int .i64 0, .int .i64 0, .int .i64 0, .int .i64 0, .int .i64 0, .string ⟨#[]⟩, .int .i64 0, .int .i64 0, .string ⟨#[]⟩, .slice none 0 0] 30)).alloc (by simp; omega) (.cells #[.int .i64 2, .int .i64 m.to_, .int .i64 id, .int .i64 m.bal, .int .i64 m.gen, .int .i64 0, .int .i64 m.fl, .int .i64 0, .int .i64 m.rd, .string m.mrk, .int .i64 0, .int .i64 0, .string ⟨#[]⟩, .slice none 0 0] 30)
  rw [show (w.alloc (.cells #[.int .i64 1, .int .i64 m.fr, .int .i64 m.to_, .int .i64 m.bal, .int .i64 m.gen, .int .i64 m.bas, .int .i64 m.fl, .int .i64 m.tp, .int .i64 m.rd, .string m.mrk, .int .i64 m.pa, .int .i64 m.po, .string m.pt, .slice m.la m.ll m.lc] 30)).heap.size = w.heap.size + 1 by simp] at Y2
  have hgw : w.heap.size ≤ w.heap.size + 1 := by omega
  have HY0 := Lib.hid Y2
  clear Y2
  generalize ((w.alloc (.cells #[.int .i64 1, .int .i64 m.fr, .int .i64 m.to_, .int .i64 m.bal, .int .i64 m.gen, .int .i64 m.bas, .int .i64 m.fl, .int .i64 m.tp, .int .i64 m.rd, .string m.mrk, .int .i64 m.pa, .int .i64 m.po, .string m.pt, .slice m.la m.ll m.lc] 30)).alloc (.cells #[.int .i64 0, .int .i64 0, .int .i64 0, .int .i64 0, .int .i64 0, .int .i64 0, .int .i64 0, .int .i64 0, .int .i64 0, .string ⟨#[]⟩, .int .i64 0, .int .i64 0, .string ⟨#[]⟩, .slice none 0 0] 30)).alloc (.cells #[.int .i64 2, .int .i64 m.to_, .int .i64 id, .int .i64 m.bal, .int .i64 m.gen, .int .i64 0, .int .i64 m.fl, .int .i64 0, .int .i64 m.rd, .string m.mrk, .int .i64 0, .int .i64 0, .string ⟨#[]⟩, .slice none 0 0] 30) = w0 at HY0 b0 ⊢
  generalize w.heap.size + 1 = g at HY0 hgw ⊢
  refine (HC.out w0).mono ?_
  rintro e w1 ⟨o, ho, rfl, hb1'⟩
  have HY := Lib.hid (HY0.out.below hb1')
  have HB1 := Lib.hid (below_step b0 hb1')
  have y0 : w1.cell? ⟨g, 0, none⟩ = some (.int .i64 0) := HY.out.cell 0
  have f0 := HY.out.free 0
  have y1 : w1.cell? ⟨g, 1, none⟩ = some (.int .i64 0) := HY.out.cell 1
  have f1 := HY.out.free 1
  have y2 : w1.cell? ⟨g, 2, none⟩ = some (.int .i64 0) := HY.out.cell 2
  have f2 := HY.out.free 2
  have y3 : w1.cell? ⟨g, 3, none⟩ = some (.int .i64 0) := HY.out.cell 3
  have f3 := HY.out.free 3
  have y4 : w1.cell? ⟨g, 4, none⟩ = some (.int .i64 0) := HY.out.cell 4
  have f4 := HY.out.free 4
  have y5 : w1.cell? ⟨g, 5, none⟩ = some (.int .i64 0) := HY.out.cell 5
  have f5 := HY.out.free 5
  have y6 : w1.cell? ⟨g, 6, none⟩ = some (.int .i64 0) := HY.out.cell 6
  have f6 := HY.out.free 6
  have y7 : w1.cell? ⟨g, 7, none⟩ = some (.int .i64 0) := HY.out.cell 7
  have f7 := HY.out.free 7
  have y8 : w1.cell? ⟨g, 8, none⟩ = some (.int .i64 0) := HY.out.cell 8
  have f8 := HY.out.free 8
  have y9 : w1.cell? ⟨g, 9, none⟩ = some (.string ⟨#[]⟩) := HY.out.cell 9
  have f9 := HY.out.free 9
  have y10 : w1.cell? ⟨g, 10, none⟩ = some (.int .i64 0) := HY.out.cell 10
  have f10 := HY.out.free 10
  have y11 : w1.cell? ⟨g, 11, none⟩ = some (.int .i64 0) := HY.out.cell 11
  have f11 := HY.out.free 11
  have y12 : w1.cell? ⟨g, 12, none⟩ = some (.string ⟨#[]⟩) := HY.out.cell 12
  have f12 := HY.out.free 12
  have y13 : w1.cell? ⟨g, 13, none⟩ = some (.slice none 0 0) := HY.out.cell 13
  have f13 := HY.out.free 13
  clear HC HY0 b0 hb1'
  have HB := Lib.hid ((((((((((((((HB1.out.setCell (p := ⟨g, 0, none⟩) hgw (.int .i64 o.k)).setCell (p := ⟨g, 1, none⟩) hgw (.int .i64 o.fr)).setCell (p := ⟨g, 2, none⟩) hgw (.int .i64 o.to_)).setCell (p := ⟨g, 3, none⟩) hgw (.int .i64 o.bal)).setCell (p := ⟨g, 4, none⟩) hgw (.int .i64 o.gen)).setCell (p := ⟨g, 5, none⟩) hgw (.int .i64 o.bas)).setCell (p := ⟨g, 6, none⟩) hgw (.int .i64 o.fl)).setCell (p := ⟨g, 7, none⟩) hgw (.int .i64 o.tp)).setCell (p := ⟨g, 8, none⟩) hgw (.int .i64 o.rd)).setCell (p := ⟨g, 9, none⟩) hgw (.string o.mrk)).setCell (p := ⟨g, 10, none⟩) hgw (.int .i64 o.pa)).setCell (p := ⟨g, 11, none⟩) hgw (.int .i64 o.po)).setCell (p := ⟨g, 12, none⟩) hgw (.string o.pt)).setCell (p := ⟨g, 13, none⟩) hgw (.slice o.la o.ll o.lc))
  go_wp2_with fail
  refine bodyPost_ret (v := .agg #[.int .i64 o.k, .int .i64 o.fr, .int .i64 o.to_, .int .i64 o.bal, .int .i64 o.gen, .int .i64 o.bas, .int .i64 o.fl, .int .i64 o.tp, .int .i64 o.rd, .string o.mrk, .int .i64 o.pa, .int .i64 o.po, .string o.pt, .slice o.la o.ll o.lc]) ?_ rfl ⟨o, ho, rfl, HB.out⟩
  simp [results, Tryz.results32, go_sem, y0, y1, y2, y3, y4, y5, y6, y7, y8, y9, y10, y11, y12, y13]
def answer4 (m : MG) (id : Int) : MG := ⟨5, m.to_, id, m.bal, m.gen, 0, m.fl, 0, m.po - 1 - m.pa, m.mrk, 0, 0, ⟨#[]⟩, none, 0, 0⟩
set_option maxRecDepth 100000 in
set_option maxHeartbeats 4000000 in
theorem lawReply_4 (m : MG) (id : Int) (w : World) (hb : 0 ≤ m.pa ∧ m.pa < m.po ∧ m.po ≤ 1000000) : Calls Tryz.prog 32 #[.agg #[.int .i64 4, .int .i64 m.fr, .int .i64 m.to_, .int .i64 m.bal, .int .i64 m.gen, .int .i64 m.bas, .int .i64 m.fl, .int .i64 m.tp, .int .i64 m.rd, .string m.mrk, .int .i64 m.pa, .int .i64 m.po, .string m.pt, .slice m.la m.ll m.lc], .int .i64 id] w fun e w' => ∃ o : MG, Hid (o = cleanTo (answer4 m id) (fieldsOf 5) (fieldsOf 5).size) ∧ e = .returned (.agg #[.int .i64 o.k, .int .i64 o.fr, .int .i64 o.to_, .int .i64 o.bal, .int .i64 o.gen, .int .i64 o.bas, .int .i64 o.fl, .int .i64 o.tp, .int .i64 o.rd, .string o.mrk, .int .i64 o.pa, .int .i64 o.po, .string o.pt, .slice o.la o.ll o.lc]) ∧ Below w.heap.size w w' := by
  have HC := Lib.hid (show ∀ w1, Calls Tryz.prog 31 #[.agg #[.int .i64 5, .int .i64 m.to_, .int .i64 id, .int .i64 m.bal, .int .i64 m.gen, .int .i64 0, .int .i64 m.fl, .int .i64 0, .int .i64 (m.po - 1 - m.pa), .string m.mrk, .int .i64 0, .int .i64 0, .string ⟨#[]⟩, .slice none 0 0]] w1 fun e w' => ∃ o : MG, Hid (o = cleanTo (answer4 m id) (fieldsOf 5) (fieldsOf 5).size) ∧ e = .returned (.agg #[.int .i64 o.k, .int .i64 o.fr, .int .i64 o.to_, .int .i64 o.bal, .int .i64 o.gen, .int .i64 o.bas, .int .i64 o.fl, .int .i64 o.tp, .int .i64 o.rd, .string o.mrk, .int .i64 o.pa, .int .i64 o.po, .string o.pt, .slice o.la o.ll o.lc]) ∧ Below w1.heap.size w1 w' from fun w1 => clean_any (answer4 m id) (by show IsKind 5; unfold IsKind; omega) w1)
  obtain ⟨hb1, hb2, hb3⟩ := hb
  go_enter Tryz.func32, Tryz.ntmps32
  go_wp2_with fail
  have Y2 := (Blk.new (w.alloc (.cells #[.int .i64 4, .int .i64 m.fr, .int .i64 m.to_, .int .i64 m.bal, .int .i64 m.gen, .int .i64 m.bas, .int .i64 m.fl, .int .i64 m.tp, .int .i64 m.rd, .string m.mrk, .int .i64 m.pa, .int .i64 m.po, .string m.pt, .slice m.la m.ll m.lc] 30)) [.int .i64 0, .int .i64 0, .int .i64 0, .int .i64 0, .int .i64 0, .int .i64 0, .int .i64 0, .int .i64 0, .int .i64 0, .string ⟨#[]⟩, .int .i64 0, .int .i64 0, .string ⟨#[]⟩, .slice none 0 0] 30).alloc (.cells #[.int .i64 5, .int .i64 m.to_, .int .i64 id, .int .i64 m.bal, .int .i64 m.gen, .int .i64 0, .int .i64 m.fl, .int .i64 0, .int .i64 (m.po - 1 - m.pa), .string m.mrk, .int .i64 0, .int .i64 0, .string ⟨#[]⟩, .slice none 0 0] 30)
  have b0 := (((Below.refl w.heap.size w).alloc (Nat.le_refl _) (.cells #[.int .i64 4, .int .i64 m.fr, .int .i64 m.to_, .int .i64 m.bal, .int .i64 m.gen, .int .i64 m.bas, .int .i64 m.fl, .int .i64 m.tp, .int .i64 m.rd, .string m.mrk, .int .i64 m.pa, .int .i64 m.po, .string m.pt, .slice m.la m.ll m.lc] 30)).alloc (by simp) (.cells #[.int .i64 0, .int .i64 0, .int .i64 0, .int .i64 0, .int .i64 0, .int .i64 0, .int .i64 0, .int .i64 0, .int .i64 0, .string ⟨#[]⟩, .int .i64 0, .int .i64 0, .string ⟨#[]⟩, .slice none 0 0] 30)).alloc (by simp; omega) (.cells #[.int .i64 5, .int .i64 m.to_, .int .i64 id, .int .i64 m.bal, .int .i64 m.gen, .int .i64 0, .int .i64 m.fl, .int .i64 0, .int .i64 (m.po - 1 - m.pa), .string m.mrk, .int .i64 0, .int .i64 0, .string ⟨#[]⟩, .slice none 0 0] 30)
  rw [show (w.alloc (.cells #[.int .i64 4, .int .i64 m.fr, .int .i64 m.to_, .int .i64 m.bal, .int .i64 m.gen, .int .i64 m.bas, .int .i64 m.fl, .int .i64 m.tp, .int .i64 m.rd, .string m.mrk, .int .i64 m.pa, .int .i64 m.po, .string m.pt, .slice m.la m.ll m.lc] 30)).heap.size = w.heap.size + 1 by simp] at Y2
  have hgw : w.heap.size ≤ w.heap.size + 1 := by omega
  have HY0 := Lib.hid Y2
  clear Y2
  generalize ((w.alloc (.cells #[.int .i64 4, .int .i64 m.fr, .int .i64 m.to_, .int .i64 m.bal, .int .i64 m.gen, .int .i64 m.bas, .int .i64 m.fl, .int .i64 m.tp, .int .i64 m.rd, .string m.mrk, .int .i64 m.pa, .int .i64 m.po, .string m.pt, .slice m.la m.ll m.lc] 30)).alloc (.cells #[.int .i64 0, .int .i64 0, .int .i64 0, .int .i64 0, .int .i64 0, .int .i64 0, .int .i64 0, .int .i64 0, .int .i64 0, .string ⟨#[]⟩, .int .i64 0, .int .i64 0, .string ⟨#[]⟩, .slice none 0 0] 30)).alloc (.cells #[.int .i64 5, .int .i64 m.to_, .int .i64 id, .int .i64 m.bal, .int .i64 m.gen, .int .i64 0, .int .i64 m.fl, .int .i64 0, .int .i64 (m.po - 1 - m.pa), .string m.mrk, .int .i64 0, .int .i64 0, .string ⟨#[]⟩, .slice none 0 0] 30) = w0 at HY0 b0 ⊢
  generalize w.heap.size + 1 = g at HY0 hgw ⊢
  refine (HC.out w0).mono ?_
  rintro e w1 ⟨o, ho, rfl, hb1'⟩
  have HY := Lib.hid (HY0.out.below hb1')
  have HB1 := Lib.hid (below_step b0 hb1')
  have y0 : w1.cell? ⟨g, 0, none⟩ = some (.int .i64 0) := HY.out.cell 0
  have f0 := HY.out.free 0
  have y1 : w1.cell? ⟨g, 1, none⟩ = some (.int .i64 0) := HY.out.cell 1
  have f1 := HY.out.free 1
  have y2 : w1.cell? ⟨g, 2, none⟩ = some (.int .i64 0) := HY.out.cell 2
  have f2 := HY.out.free 2
  have y3 : w1.cell? ⟨g, 3, none⟩ = some (.int .i64 0) := HY.out.cell 3
  have f3 := HY.out.free 3
  have y4 : w1.cell? ⟨g, 4, none⟩ = some (.int .i64 0) := HY.out.cell 4
  have f4 := HY.out.free 4
  have y5 : w1.cell? ⟨g, 5, none⟩ = some (.int .i64 0) := HY.out.cell 5
  have f5 := HY.out.free 5
  have y6 : w1.cell? ⟨g, 6, none⟩ = some (.int .i64 0) := HY.out.cell 6
  have f6 := HY.out.free 6
  have y7 : w1.cell? ⟨g, 7, none⟩ = some (.int .i64 0) := HY.out.cell 7
  have f7 := HY.out.free 7
  have y8 : w1.cell? ⟨g, 8, none⟩ = some (.int .i64 0) := HY.out.cell 8
  have f8 := HY.out.free 8
  have y9 : w1.cell? ⟨g, 9, none⟩ = some (.string ⟨#[]⟩) := HY.out.cell 9
  have f9 := HY.out.free 9
  have y10 : w1.cell? ⟨g, 10, none⟩ = some (.int .i64 0) := HY.out.cell 10
  have f10 := HY.out.free 10
  have y11 : w1.cell? ⟨g, 11, none⟩ = some (.int .i64 0) := HY.out.cell 11
  have f11 := HY.out.free 11
  have y12 : w1.cell? ⟨g, 12, none⟩ = some (.string ⟨#[]⟩) := HY.out.cell 12
  have f12 := HY.out.free 12
  have y13 : w1.cell? ⟨g, 13, none⟩ = some (.slice none 0 0) := HY.out.cell 13
  have f13 := HY.out.free 13
  clear HC HY0 b0 hb1'
  have HB := Lib.hid ((((((((((((((HB1.out.setCell (p := ⟨g, 0, none⟩) hgw (.int .i64 o.k)).setCell (p := ⟨g, 1, none⟩) hgw (.int .i64 o.fr)).setCell (p := ⟨g, 2, none⟩) hgw (.int .i64 o.to_)).setCell (p := ⟨g, 3, none⟩) hgw (.int .i64 o.bal)).setCell (p := ⟨g, 4, none⟩) hgw (.int .i64 o.gen)).setCell (p := ⟨g, 5, none⟩) hgw (.int .i64 o.bas)).setCell (p := ⟨g, 6, none⟩) hgw (.int .i64 o.fl)).setCell (p := ⟨g, 7, none⟩) hgw (.int .i64 o.tp)).setCell (p := ⟨g, 8, none⟩) hgw (.int .i64 o.rd)).setCell (p := ⟨g, 9, none⟩) hgw (.string o.mrk)).setCell (p := ⟨g, 10, none⟩) hgw (.int .i64 o.pa)).setCell (p := ⟨g, 11, none⟩) hgw (.int .i64 o.po)).setCell (p := ⟨g, 12, none⟩) hgw (.string o.pt)).setCell (p := ⟨g, 13, none⟩) hgw (.slice o.la o.ll o.lc))
  go_wp2_with fail
  refine bodyPost_ret (v := .agg #[.int .i64 o.k, .int .i64 o.fr, .int .i64 o.to_, .int .i64 o.bal, .int .i64 o.gen, .int .i64 o.bas, .int .i64 o.fl, .int .i64 o.tp, .int .i64 o.rd, .string o.mrk, .int .i64 o.pa, .int .i64 o.po, .string o.pt, .slice o.la o.ll o.lc]) ?_ rfl ⟨o, ho, rfl, HB.out⟩
  simp [results, Tryz.results32, go_sem, y0, y1, y2, y3, y4, y5, y6, y7, y8, y9, y10, y11, y12, y13]
def answer7 (m : MG) (id : Int) : MG := ⟨8, m.to_, id, m.bal, m.gen, 0, m.fl, 0, m.rd, m.mrk, 0, 0, ⟨#[]⟩, none, 0, 0⟩
set_option maxRecDepth 100000 in
set_option maxHeartbeats 4000000 in
theorem lawReply_7 (m : MG) (id : Int) (w : World)  : Calls Tryz.prog 32 #[.agg #[.int .i64 7, .int .i64 m.fr, .int .i64 m.to_, .int .i64 m.bal, .int .i64 m.gen, .int .i64 m.bas, .int .i64 m.fl, .int .i64 m.tp, .int .i64 m.rd, .string m.mrk, .int .i64 m.pa, .int .i64 m.po, .string m.pt, .slice m.la m.ll m.lc], .int .i64 id] w fun e w' => ∃ o : MG, Hid (o = cleanTo (answer7 m id) (fieldsOf 8) (fieldsOf 8).size) ∧ e = .returned (.agg #[.int .i64 o.k, .int .i64 o.fr, .int .i64 o.to_, .int .i64 o.bal, .int .i64 o.gen, .int .i64 o.bas, .int .i64 o.fl, .int .i64 o.tp, .int .i64 o.rd, .string o.mrk, .int .i64 o.pa, .int .i64 o.po, .string o.pt, .slice o.la o.ll o.lc]) ∧ Below w.heap.size w w' := by
  have HC := Lib.hid (show ∀ w1, Calls Tryz.prog 31 #[.agg #[.int .i64 8, .int .i64 m.to_, .int .i64 id, .int .i64 m.bal, .int .i64 m.gen, .int .i64 0, .int .i64 m.fl, .int .i64 0, .int .i64 m.rd, .string m.mrk, .int .i64 0, .int .i64 0, .string ⟨#[]⟩, .slice none 0 0]] w1 fun e w' => ∃ o : MG, Hid (o = cleanTo (answer7 m id) (fieldsOf 8) (fieldsOf 8).size) ∧ e = .returned (.agg #[.int .i64 o.k, .int .i64 o.fr, .int .i64 o.to_, .int .i64 o.bal, .int .i64 o.gen, .int .i64 o.bas, .int .i64 o.fl, .int .i64 o.tp, .int .i64 o.rd, .string o.mrk, .int .i64 o.pa, .int .i64 o.po, .string o.pt, .slice o.la o.ll o.lc]) ∧ Below w1.heap.size w1 w' from fun w1 => clean_any (answer7 m id) (by show IsKind 8; unfold IsKind; omega) w1)
  go_enter Tryz.func32, Tryz.ntmps32
  go_wp2_with fail
  have Y2 := (Blk.new (w.alloc (.cells #[.int .i64 7, .int .i64 m.fr, .int .i64 m.to_, .int .i64 m.bal, .int .i64 m.gen, .int .i64 m.bas, .int .i64 m.fl, .int .i64 m.tp, .int .i64 m.rd, .string m.mrk, .int .i64 m.pa, .int .i64 m.po, .string m.pt, .slice m.la m.ll m.lc] 30)) [.int .i64 0, .int .i64 0, .int .i64 0, .int .i64 0, .int .i64 0, .int .i64 0, .int .i64 0, .int .i64 0, .int .i64 0, .string ⟨#[]⟩, .int .i64 0, .int .i64 0, .string ⟨#[]⟩, .slice none 0 0] 30).alloc (.cells #[.int .i64 8, .int .i64 m.to_, .int .i64 id, .int .i64 m.bal, .int .i64 m.gen, .int .i64 0, .int .i64 m.fl, .int .i64 0, .int .i64 m.rd, .string m.mrk, .int .i64 0, .int .i64 0, .string ⟨#[]⟩, .slice none 0 0] 30)
  have b0 := (((Below.refl w.heap.size w).alloc (Nat.le_refl _) (.cells #[.int .i64 7, .int .i64 m.fr, .int .i64 m.to_, .int .i64 m.bal, .int .i64 m.gen, .int .i64 m.bas, .int .i64 m.fl, .int .i64 m.tp, .int .i64 m.rd, .string m.mrk, .int .i64 m.pa, .int .i64 m.po, .string m.pt, .slice m.la m.ll m.lc] 30)).alloc (by simp) (.cells #[.int .i64 0, .int .i64 0, .int .i64 0, .int .i64 0, .int .i64 0, .int .i64 0, .int .i64 0, .int .i64 0, .int .i64 0, .string ⟨#[]⟩, .int .i64 0, .int .i64 0, .string ⟨#[]⟩, .slice none 0 0] 30)).alloc (by simp; omega) (.cells #[.int .i64 8, .int .i64 m.to_, .int .i64 id, .int .i64 m.bal, .int .i64 m.gen, .int .i64 0, .int .i64 m.fl, .int .i64 0, .int .i64 m.rd, .string m.mrk, .int .i64 0, .int .i64 0, .string ⟨#[]⟩, .slice none 0 0] 30)
  rw [show (w.alloc (.cells #[.int .i64 7, .int .i64 m.fr, .int .i64 m.to_, .int .i64 m.bal, .int .i64 m.gen, .int .i64 m.bas, .int .i64 m.fl, .int .i64 m.tp, .int .i64 m.rd, .string m.mrk, .int .i64 m.pa, .int .i64 m.po, .string m.pt, .slice m.la m.ll m.lc] 30)).heap.size = w.heap.size + 1 by simp] at Y2
  have hgw : w.heap.size ≤ w.heap.size + 1 := by omega
  have HY0 := Lib.hid Y2
  clear Y2
  generalize ((w.alloc (.cells #[.int .i64 7, .int .i64 m.fr, .int .i64 m.to_, .int .i64 m.bal, .int .i64 m.gen, .int .i64 m.bas, .int .i64 m.fl, .int .i64 m.tp, .int .i64 m.rd, .string m.mrk, .int .i64 m.pa, .int .i64 m.po, .string m.pt, .slice m.la m.ll m.lc] 30)).alloc (.cells #[.int .i64 0, .int .i64 0, .int .i64 0, .int .i64 0, .int .i64 0, .int .i64 0, .int .i64 0, .int .i64 0, .int .i64 0, .string ⟨#[]⟩, .int .i64 0, .int .i64 0, .string ⟨#[]⟩, .slice none 0 0] 30)).alloc (.cells #[.int .i64 8, .int .i64 m.to_, .int .i64 id, .int .i64 m.bal, .int .i64 m.gen, .int .i64 0, .int .i64 m.fl, .int .i64 0, .int .i64 m.rd, .string m.mrk, .int .i64 0, .int .i64 0, .string ⟨#[]⟩, .slice none 0 0] 30) = w0 at HY0 b0 ⊢
  generalize w.heap.size + 1 = g at HY0 hgw ⊢
  refine (HC.out w0).mono ?_
  rintro e w1 ⟨o, ho, rfl, hb1'⟩
  have HY := Lib.hid (HY0.out.below hb1')
  have HB1 := Lib.hid (below_step b0 hb1')
  have y0 : w1.cell? ⟨g, 0, none⟩ = some (.int .i64 0) := HY.out.cell 0
  have f0 := HY.out.free 0
  have y1 : w1.cell? ⟨g, 1, none⟩ = some (.int .i64 0) := HY.out.cell 1
  have f1 := HY.out.free 1
  have y2 : w1.cell? ⟨g, 2, none⟩ = some (.int .i64 0) := HY.out.cell 2
  have f2 := HY.out.free 2
  have y3 : w1.cell? ⟨g, 3, none⟩ = some (.int .i64 0) := HY.out.cell 3
  have f3 := HY.out.free 3
  have y4 : w1.cell? ⟨g, 4, none⟩ = some (.int .i64 0) := HY.out.cell 4
  have f4 := HY.out.free 4
  have y5 : w1.cell? ⟨g, 5, none⟩ = some (.int .i64 0) := HY.out.cell 5
  have f5 := HY.out.free 5
  have y6 : w1.cell? ⟨g, 6, none⟩ = some (.int .i64 0) := HY.out.cell 6
  have f6 := HY.out.free 6
  have y7 : w1.cell? ⟨g, 7, none⟩ = some (.int .i64 0) := HY.out.cell 7
  have f7 := HY.out.free 7
  have y8 : w1.cell? ⟨g, 8, none⟩ = some (.int .i64 0) := HY.out.cell 8
  have f8 := HY.out.free 8
  have y9 : w1.cell? ⟨g, 9, none⟩ = some (.string ⟨#[]⟩) := HY.out.cell 9
  have f9 := HY.out.free 9
  have y10 : w1.cell? ⟨g, 10, none⟩ = some (.int .i64 0) := HY.out.cell 10
  have f10 := HY.out.free 10
  have y11 : w1.cell? ⟨g, 11, none⟩ = some (.int .i64 0) := HY.out.cell 11
  have f11 := HY.out.free 11
  have y12 : w1.cell? ⟨g, 12, none⟩ = some (.string ⟨#[]⟩) := HY.out.cell 12
  have f12 := HY.out.free 12
  have y13 : w1.cell? ⟨g, 13, none⟩ = some (.slice none 0 0) := HY.out.cell 13
  have f13 := HY.out.free 13
  clear HC HY0 b0 hb1'
  have HB := Lib.hid ((((((((((((((HB1.out.setCell (p := ⟨g, 0, none⟩) hgw (.int .i64 o.k)).setCell (p := ⟨g, 1, none⟩) hgw (.int .i64 o.fr)).setCell (p := ⟨g, 2, none⟩) hgw (.int .i64 o.to_)).setCell (p := ⟨g, 3, none⟩) hgw (.int .i64 o.bal)).setCell (p := ⟨g, 4, none⟩) hgw (.int .i64 o.gen)).setCell (p := ⟨g, 5, none⟩) hgw (.int .i64 o.bas)).setCell (p := ⟨g, 6, none⟩) hgw (.int .i64 o.fl)).setCell (p := ⟨g, 7, none⟩) hgw (.int .i64 o.tp)).setCell (p := ⟨g, 8, none⟩) hgw (.int .i64 o.rd)).setCell (p := ⟨g, 9, none⟩) hgw (.string o.mrk)).setCell (p := ⟨g, 10, none⟩) hgw (.int .i64 o.pa)).setCell (p := ⟨g, 11, none⟩) hgw (.int .i64 o.po)).setCell (p := ⟨g, 12, none⟩) hgw (.string o.pt)).setCell (p := ⟨g, 13, none⟩) hgw (.slice o.la o.ll o.lc))
  go_wp2_with fail
  refine bodyPost_ret (v := .agg #[.int .i64 o.k, .int .i64 o.fr, .int .i64 o.to_, .int .i64 o.bal, .int .i64 o.gen, .int .i64 o.bas, .int .i64 o.fl, .int .i64 o.tp, .int .i64 o.rd, .string o.mrk, .int .i64 o.pa, .int .i64 o.po, .string o.pt, .slice o.la o.ll o.lc]) ?_ rfl ⟨o, ho, rfl, HB.out⟩
  simp [results, Tryz.results32, go_sem, y0, y1, y2, y3, y4, y5, y6, y7, y8, y9, y10, y11, y12, y13]
def answer9 (m : MG) (id : Int) : MG := ⟨10, m.to_, id, m.bal, m.gen, 0, m.fl, m.gen + 1, m.rd, m.mrk, 0, 0, ⟨#[]⟩, none, 0, 0⟩
set_option maxRecDepth 100000 in
set_option maxHeartbeats 4000000 in
theorem lawReply_9 (m : MG) (id : Int) (w : World) (hb : 0 ≤ m.gen ∧ m.gen ≤ 1000000) : Calls Tryz.prog 32 #[.agg #[.int .i64 9, .int .i64 m.fr, .int .i64 m.to_, .int .i64 m.bal, .int .i64 m.gen, .int .i64 m.bas, .int .i64 m.fl, .int .i64 m.tp, .int .i64 m.rd, .string m.mrk, .int .i64 m.pa, .int .i64 m.po, .string m.pt, .slice m.la m.ll m.lc], .int .i64 id] w fun e w' => ∃ o : MG, Hid (o = cleanTo (answer9 m id) (fieldsOf 10) (fieldsOf 10).size) ∧ e = .returned (.agg #[.int .i64 o.k, .int .i64 o.fr, .int .i64 o.to_, .int .i64 o.bal, .int .i64 o.gen, .int .i64 o.bas, .int .i64 o.fl, .int .i64 o.tp, .int .i64 o.rd, .string o.mrk, .int .i64 o.pa, .int .i64 o.po, .string o.pt, .slice o.la o.ll o.lc]) ∧ Below w.heap.size w w' := by
  have HC := Lib.hid (show ∀ w1, Calls Tryz.prog 31 #[.agg #[.int .i64 10, .int .i64 m.to_, .int .i64 id, .int .i64 m.bal, .int .i64 m.gen, .int .i64 0, .int .i64 m.fl, .int .i64 (m.gen + 1), .int .i64 m.rd, .string m.mrk, .int .i64 0, .int .i64 0, .string ⟨#[]⟩, .slice none 0 0]] w1 fun e w' => ∃ o : MG, Hid (o = cleanTo (answer9 m id) (fieldsOf 10) (fieldsOf 10).size) ∧ e = .returned (.agg #[.int .i64 o.k, .int .i64 o.fr, .int .i64 o.to_, .int .i64 o.bal, .int .i64 o.gen, .int .i64 o.bas, .int .i64 o.fl, .int .i64 o.tp, .int .i64 o.rd, .string o.mrk, .int .i64 o.pa, .int .i64 o.po, .string o.pt, .slice o.la o.ll o.lc]) ∧ Below w1.heap.size w1 w' from fun w1 => clean_any (answer9 m id) (by show IsKind 10; unfold IsKind; omega) w1)
  obtain ⟨hb1, hb2⟩ := hb
  go_enter Tryz.func32, Tryz.ntmps32
  go_wp2_with fail
  have Y2 := (Blk.new (w.alloc (.cells #[.int .i64 9, .int .i64 m.fr, .int .i64 m.to_, .int .i64 m.bal, .int .i64 m.gen, .int .i64 m.bas, .int .i64 m.fl, .int .i64 m.tp, .int .i64 m.rd, .string m.mrk, .int .i64 m.pa, .int .i64 m.po, .string m.pt, .slice m.la m.ll m.lc] 30)) [.int .i64 0, .int .i64 0, .int .i64 0, .int .i64 0, .int .i64 0, .int .i64 0, .int .i64 0, .int .i64 0, .int .i64 0, .string ⟨#[]⟩, .int .i64 0, .int .i64 0, .string ⟨#[]⟩, .slice none 0 0] 30).alloc (.cells #[.int .i64 10, .int .i64 m.to_, .int .i64 id, .int .i64 m.bal, .int .i64 m.gen, .int .i64 0, .int .i64 m.fl, .int .i64 (m.gen + 1), .int .i64 m.rd, .string m.mrk, .int .i64 0, .int .i64 0, .string ⟨#[]⟩, .slice none 0 0] 30)
  have b0 := (((Below.refl w.heap.size w).alloc (Nat.le_refl _) (.cells #[.int .i64 9, .int .i64 m.fr, .int .i64 m.to_, .int .i64 m.bal, .int .i64 m.gen, .int .i64 m.bas, .int .i64 m.fl, .int .i64 m.tp, .int .i64 m.rd, .string m.mrk, .int .i64 m.pa, .int .i64 m.po, .string m.pt, .slice m.la m.ll m.lc] 30)).alloc (by simp) (.cells #[.int .i64 0, .int .i64 0, .int .i64 0, .int .i64 0, .int .i64 0, .int .i64 0, .int .i64 0, .int .i64 0, .int .i64 0, .string ⟨#[]⟩, .int .i64 0, .int .i64 0, .string ⟨#[]⟩, .slice none 0 0] 30)).alloc (by simp; omega) (.cells #[.int .i64 10, .int .i64 m.to_, .int .i64 id, .int .i64 m.bal, .int .i64 m.gen, .int .i64 0, .int .i64 m.fl, .int .i64 (m.gen + 1), .int .i64 m.rd, .string m.mrk, .int .i64 0, .int .i64 0, .string ⟨#[]⟩, .slice none 0 0] 30)
  rw [show (w.alloc (.cells #[.int .i64 9, .int .i64 m.fr, .int .i64 m.to_, .int .i64 m.bal, .int .i64 m.gen, .int .i64 m.bas, .int .i64 m.fl, .int .i64 m.tp, .int .i64 m.rd, .string m.mrk, .int .i64 m.pa, .int .i64 m.po, .string m.pt, .slice m.la m.ll m.lc] 30)).heap.size = w.heap.size + 1 by simp] at Y2
  have hgw : w.heap.size ≤ w.heap.size + 1 := by omega
  have HY0 := Lib.hid Y2
  clear Y2
  generalize ((w.alloc (.cells #[.int .i64 9, .int .i64 m.fr, .int .i64 m.to_, .int .i64 m.bal, .int .i64 m.gen, .int .i64 m.bas, .int .i64 m.fl, .int .i64 m.tp, .int .i64 m.rd, .string m.mrk, .int .i64 m.pa, .int .i64 m.po, .string m.pt, .slice m.la m.ll m.lc] 30)).alloc (.cells #[.int .i64 0, .int .i64 0, .int .i64 0, .int .i64 0, .int .i64 0, .int .i64 0, .int .i64 0, .int .i64 0, .int .i64 0, .string ⟨#[]⟩, .int .i64 0, .int .i64 0, .string ⟨#[]⟩, .slice none 0 0] 30)).alloc (.cells #[.int .i64 10, .int .i64 m.to_, .int .i64 id, .int .i64 m.bal, .int .i64 m.gen, .int .i64 0, .int .i64 m.fl, .int .i64 (m.gen + 1), .int .i64 m.rd, .string m.mrk, .int .i64 0, .int .i64 0, .string ⟨#[]⟩, .slice none 0 0] 30) = w0 at HY0 b0 ⊢
  generalize w.heap.size + 1 = g at HY0 hgw ⊢
  refine (HC.out w0).mono ?_
  rintro e w1 ⟨o, ho, rfl, hb1'⟩
  have HY := Lib.hid (HY0.out.below hb1')
  have HB1 := Lib.hid (below_step b0 hb1')
  have y0 : w1.cell? ⟨g, 0, none⟩ = some (.int .i64 0) := HY.out.cell 0
  have f0 := HY.out.free 0
  have y1 : w1.cell? ⟨g, 1, none⟩ = some (.int .i64 0) := HY.out.cell 1
  have f1 := HY.out.free 1
  have y2 : w1.cell? ⟨g, 2, none⟩ = some (.int .i64 0) := HY.out.cell 2
  have f2 := HY.out.free 2
  have y3 : w1.cell? ⟨g, 3, none⟩ = some (.int .i64 0) := HY.out.cell 3
  have f3 := HY.out.free 3
  have y4 : w1.cell? ⟨g, 4, none⟩ = some (.int .i64 0) := HY.out.cell 4
  have f4 := HY.out.free 4
  have y5 : w1.cell? ⟨g, 5, none⟩ = some (.int .i64 0) := HY.out.cell 5
  have f5 := HY.out.free 5
  have y6 : w1.cell? ⟨g, 6, none⟩ = some (.int .i64 0) := HY.out.cell 6
  have f6 := HY.out.free 6
  have y7 : w1.cell? ⟨g, 7, none⟩ = some (.int .i64 0) := HY.out.cell 7
  have f7 := HY.out.free 7
  have y8 : w1.cell? ⟨g, 8, none⟩ = some (.int .i64 0) := HY.out.cell 8
  have f8 := HY.out.free 8
  have y9 : w1.cell? ⟨g, 9, none⟩ = some (.string ⟨#[]⟩) := HY.out.cell 9
  have f9 := HY.out.free 9
  have y10 : w1.cell? ⟨g, 10, none⟩ = some (.int .i64 0) := HY.out.cell 10
  have f10 := HY.out.free 10
  have y11 : w1.cell? ⟨g, 11, none⟩ = some (.int .i64 0) := HY.out.cell 11
  have f11 := HY.out.free 11
  have y12 : w1.cell? ⟨g, 12, none⟩ = some (.string ⟨#[]⟩) := HY.out.cell 12
  have f12 := HY.out.free 12
  have y13 : w1.cell? ⟨g, 13, none⟩ = some (.slice none 0 0) := HY.out.cell 13
  have f13 := HY.out.free 13
  clear HC HY0 b0 hb1'
  have HB := Lib.hid ((((((((((((((HB1.out.setCell (p := ⟨g, 0, none⟩) hgw (.int .i64 o.k)).setCell (p := ⟨g, 1, none⟩) hgw (.int .i64 o.fr)).setCell (p := ⟨g, 2, none⟩) hgw (.int .i64 o.to_)).setCell (p := ⟨g, 3, none⟩) hgw (.int .i64 o.bal)).setCell (p := ⟨g, 4, none⟩) hgw (.int .i64 o.gen)).setCell (p := ⟨g, 5, none⟩) hgw (.int .i64 o.bas)).setCell (p := ⟨g, 6, none⟩) hgw (.int .i64 o.fl)).setCell (p := ⟨g, 7, none⟩) hgw (.int .i64 o.tp)).setCell (p := ⟨g, 8, none⟩) hgw (.int .i64 o.rd)).setCell (p := ⟨g, 9, none⟩) hgw (.string o.mrk)).setCell (p := ⟨g, 10, none⟩) hgw (.int .i64 o.pa)).setCell (p := ⟨g, 11, none⟩) hgw (.int .i64 o.po)).setCell (p := ⟨g, 12, none⟩) hgw (.string o.pt)).setCell (p := ⟨g, 13, none⟩) hgw (.slice o.la o.ll o.lc))
  go_wp2_with fail
  refine bodyPost_ret (v := .agg #[.int .i64 o.k, .int .i64 o.fr, .int .i64 o.to_, .int .i64 o.bal, .int .i64 o.gen, .int .i64 o.bas, .int .i64 o.fl, .int .i64 o.tp, .int .i64 o.rd, .string o.mrk, .int .i64 o.pa, .int .i64 o.po, .string o.pt, .slice o.la o.ll o.lc]) ?_ rfl ⟨o, ho, rfl, HB.out⟩
  simp [results, Tryz.results32, go_sem, y0, y1, y2, y3, y4, y5, y6, y7, y8, y9, y10, y11, y12, y13]
def answer11 (m : MG) (id : Int) : MG := ⟨12, m.to_, id, m.bal, m.gen, 0, m.fl, 0, m.rd, m.mrk, 0, 0, ⟨#[]⟩, none, 0, 0⟩
set_option maxRecDepth 100000 in
set_option maxHeartbeats 4000000 in
theorem lawReply_11 (m : MG) (id : Int) (w : World)  : Calls Tryz.prog 32 #[.agg #[.int .i64 11, .int .i64 m.fr, .int .i64 m.to_, .int .i64 m.bal, .int .i64 m.gen, .int .i64 m.bas, .int .i64 m.fl, .int .i64 m.tp, .int .i64 m.rd, .string m.mrk, .int .i64 m.pa, .int .i64 m.po, .string m.pt, .slice m.la m.ll m.lc], .int .i64 id] w fun e w' => ∃ o : MG, Hid (o = cleanTo (answer11 m id) (fieldsOf 12) (fieldsOf 12).size) ∧ e = .returned (.agg #[.int .i64 o.k, .int .i64 o.fr, .int .i64 o.to_, .int .i64 o.bal, .int .i64 o.gen, .int .i64 o.bas, .int .i64 o.fl, .int .i64 o.tp, .int .i64 o.rd, .string o.mrk, .int .i64 o.pa, .int .i64 o.po, .string o.pt, .slice o.la o.ll o.lc]) ∧ Below w.heap.size w w' := by
  have HC := Lib.hid (show ∀ w1, Calls Tryz.prog 31 #[.agg #[.int .i64 12, .int .i64 m.to_, .int .i64 id, .int .i64 m.bal, .int .i64 m.gen, .int .i64 0, .int .i64 m.fl, .int .i64 0, .int .i64 m.rd, .string m.mrk, .int .i64 0, .int .i64 0, .string ⟨#[]⟩, .slice none 0 0]] w1 fun e w' => ∃ o : MG, Hid (o = cleanTo (answer11 m id) (fieldsOf 12) (fieldsOf 12).size) ∧ e = .returned (.agg #[.int .i64 o.k, .int .i64 o.fr, .int .i64 o.to_, .int .i64 o.bal, .int .i64 o.gen, .int .i64 o.bas, .int .i64 o.fl, .int .i64 o.tp, .int .i64 o.rd, .string o.mrk, .int .i64 o.pa, .int .i64 o.po, .string o.pt, .slice o.la o.ll o.lc]) ∧ Below w1.heap.size w1 w' from fun w1 => clean_any (answer11 m id) (by show IsKind 12; unfold IsKind; omega) w1)
  go_enter Tryz.func32, Tryz.ntmps32
  go_wp2_with fail
  have Y2 := (Blk.new (w.alloc (.cells #[.int .i64 11, .int .i64 m.fr, .int .i64 m.to_, .int .i64 m.bal, .int .i64 m.gen, .int .i64 m.bas, .int .i64 m.fl, .int .i64 m.tp, .int .i64 m.rd, .string m.mrk, .int .i64 m.pa, .int .i64 m.po, .string m.pt, .slice m.la m.ll m.lc] 30)) [.int .i64 0, .int .i64 0, .int .i64 0, .int .i64 0, .int .i64 0, .int .i64 0, .int .i64 0, .int .i64 0, .int .i64 0, .string ⟨#[]⟩, .int .i64 0, .int .i64 0, .string ⟨#[]⟩, .slice none 0 0] 30).alloc (.cells #[.int .i64 12, .int .i64 m.to_, .int .i64 id, .int .i64 m.bal, .int .i64 m.gen, .int .i64 0, .int .i64 m.fl, .int .i64 0, .int .i64 m.rd, .string m.mrk, .int .i64 0, .int .i64 0, .string ⟨#[]⟩, .slice none 0 0] 30)
  have b0 := (((Below.refl w.heap.size w).alloc (Nat.le_refl _) (.cells #[.int .i64 11, .int .i64 m.fr, .int .i64 m.to_, .int .i64 m.bal, .int .i64 m.gen, .int .i64 m.bas, .int .i64 m.fl, .int .i64 m.tp, .int .i64 m.rd, .string m.mrk, .int .i64 m.pa, .int .i64 m.po, .string m.pt, .slice m.la m.ll m.lc] 30)).alloc (by simp) (.cells #[.int .i64 0, .int .i64 0, .int .i64 0, .int .i64 0, .int .i64 0, .int .i64 0, .int .i64 0, .int .i64 0, .int .i64 0, .string ⟨#[]⟩, .int .i64 0, .int .i64 0, .string ⟨#[]⟩, .slice none 0 0] 30)).alloc (by simp; omega) (.cells #[.int .i64 12, .int .i64 m.to_, .int .i64 id, .int .i64 m.bal, .int .i64 m.gen, .int .i64 0, .int .i64 m.fl, .int .i64 0, .int .i64 m.rd, .string m.mrk, .int .i64 0, .int .i64 0, .string ⟨#[]⟩, .slice none 0 0] 30)
  rw [show (w.alloc (.cells #[.int .i64 11, .int .i64 m.fr, .int .i64 m.to_, .int .i64 m.bal, .int .i64 m.gen, .int .i64 m.bas, .int .i64 m.fl, .int .i64 m.tp, .int .i64 m.rd, .string m.mrk, .int .i64 m.pa, .int .i64 m.po, .string m.pt, .slice m.la m.ll m.lc] 30)).heap.size = w.heap.size + 1 by simp] at Y2
  have hgw : w.heap.size ≤ w.heap.size + 1 := by omega
  have HY0 := Lib.hid Y2
  clear Y2
  generalize ((w.alloc (.cells #[.int .i64 11, .int .i64 m.fr, .int .i64 m.to_, .int .i64 m.bal, .int .i64 m.gen, .int .i64 m.bas, .int .i64 m.fl, .int .i64 m.tp, .int .i64 m.rd, .string m.mrk, .int .i64 m.pa, .int .i64 m.po, .string m.pt, .slice m.la m.ll m.lc] 30)).alloc (.cells #[.int .i64 0, .int .i64 0, .int .i64 0, .int .i64 0, .int .i64 0, .int .i64 0, .int .i64 0, .int .i64 0, .int .i64 0, .string ⟨#[]⟩, .int .i64 0, .int .i64 0, .string ⟨#[]⟩, .slice none 0 0] 30)).alloc (.cells #[.int .i64 12, .int .i64 m.to_, .int .i64 id, .int .i64 m.bal, .int .i64 m.gen, .int .i64 0, .int .i64 m.fl, .int .i64 0, .int .i64 m.rd, .string m.mrk, .int .i64 0, .int .i64 0, .string ⟨#[]⟩, .slice none 0 0] 30) = w0 at HY0 b0 ⊢
  generalize w.heap.size + 1 = g at HY0 hgw ⊢
  refine (HC.out w0).mono ?_
  rintro e w1 ⟨o, ho, rfl, hb1'⟩
  have HY := Lib.hid (HY0.out.below hb1')
  have HB1 := Lib.hid (below_step b0 hb1')
  have y0 : w1.cell? ⟨g, 0, none⟩ = some (.int .i64 0) := HY.out.cell 0
  have f0 := HY.out.free 0
  have y1 : w1.cell? ⟨g, 1, none⟩ = some (.int .i64 0) := HY.out.cell 1
  have f1 := HY.out.free 1
  have y2 : w1.cell? ⟨g, 2, none⟩ = some (.int .i64 0) := HY.out.cell 2
  have f2 := HY.out.free 2
  have y3 : w1.cell? ⟨g, 3, none⟩ = some (.int .i64 0) := HY.out.cell 3
  have f3 := HY.out.free 3
  have y4 : w1.cell? ⟨g, 4, none⟩ = some (.int .i64 0) := HY.out.cell 4
  have f4 := HY.out.free 4
  have y5 : w1.cell? ⟨g, 5, none⟩ = some (.int .i64 0) := HY.out.cell 5
  have f5 := HY.out.free 5
  have y6 : w1.cell? ⟨g, 6, none⟩ = some (.int .i64 0) := HY.out.cell 6
  have f6 := HY.out.free 6
  have y7 : w1.cell? ⟨g, 7, none⟩ = some (.int .i64 0) := HY.out.cell 7
  have f7 := HY.out.free 7
  have y8 : w1.cell? ⟨g, 8, none⟩ = some (.int .i64 0) := HY.out.cell 8
  have f8 := HY.out.free 8
  have y9 : w1.cell? ⟨g, 9, none⟩ = some (.string ⟨#[]⟩) := HY.out.cell 9
  have f9 := HY.out.free 9
  have y10 : w1.cell? ⟨g, 10, none⟩ = some (.int .i64 0) := HY.out.cell 10
  have f10 := HY.out.free 10
  have y11 : w1.cell? ⟨g, 11, none⟩ = some (.int .i64 0) := HY.out.cell 11
  have f11 := HY.out.free 11
  have y12 : w1.cell? ⟨g, 12, none⟩ = some (.string ⟨#[]⟩) := HY.out.cell 12
  have f12 := HY.out.free 12
  have y13 : w1.cell? ⟨g, 13, none⟩ = some (.slice none 0 0) := HY.out.cell 13
  have f13 := HY.out.free 13
  clear HC HY0 b0 hb1'
  have HB := Lib.hid ((((((((((((((HB1.out.setCell (p := ⟨g, 0, none⟩) hgw (.int .i64 o.k)).setCell (p := ⟨g, 1, none⟩) hgw (.int .i64 o.fr)).setCell (p := ⟨g, 2, none⟩) hgw (.int .i64 o.to_)).setCell (p := ⟨g, 3, none⟩) hgw (.int .i64 o.bal)).setCell (p := ⟨g, 4, none⟩) hgw (.int .i64 o.gen)).setCell (p := ⟨g, 5, none⟩) hgw (.int .i64 o.bas)).setCell (p := ⟨g, 6, none⟩) hgw (.int .i64 o.fl)).setCell (p := ⟨g, 7, none⟩) hgw (.int .i64 o.tp)).setCell (p := ⟨g, 8, none⟩) hgw (.int .i64 o.rd)).setCell (p := ⟨g, 9, none⟩) hgw (.string o.mrk)).setCell (p := ⟨g, 10, none⟩) hgw (.int .i64 o.pa)).setCell (p := ⟨g, 11, none⟩) hgw (.int .i64 o.po)).setCell (p := ⟨g, 12, none⟩) hgw (.string o.pt)).setCell (p := ⟨g, 13, none⟩) hgw (.slice o.la o.ll o.lc))
  go_wp2_with fail
  refine bodyPost_ret (v := .agg #[.int .i64 o.k, .int .i64 o.fr, .int .i64 o.to_, .int .i64 o.bal, .int .i64 o.gen, .int .i64 o.bas, .int .i64 o.fl, .int .i64 o.tp, .int .i64 o.rd, .string o.mrk, .int .i64 o.pa, .int .i64 o.po, .string o.pt, .slice o.la o.ll o.lc]) ?_ rfl ⟨o, ho, rfl, HB.out⟩
  simp [results, Tryz.results32, go_sem, y0, y1, y2, y3, y4, y5, y6, y7, y8, y9, y10, y11, y12, y13]
end Go.Proofs.YtaemlplcjjbamaaGreatDoor
