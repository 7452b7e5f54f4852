/- The walk of the document's set (layer 17) at a promise. No condition. -/
import Derived.Test.YtmmnaieikfekfaaGreatDoorMsgRight
import Derived.Test.YtmmnaieikfekfaaGreatDoorHeap2
import Derived.Deep.RegionHeld3
namespace Go.Proofs.YtmmnaieikfekfaaGreatDoor
open Go Go.RowKit
set_option linter.unusedVariables false

theorem fields_two (w : World) : Calls Tryz.prog 91 #[.int .i64 2] w fun e w' => e = .returned (.string ⟨#[66, 70, 84, 76]⟩) ∧ w = w' := by
  go_enter Tryz.func91, Tryz.ntmps91
  go_wp2
  go_ret
  exact ⟨rfl, rfl⟩
def msgVals (kind a v bal : Int) : List Value := [.int .i64 kind, .int .i64 a, .int .i64 v, .int .i64 bal, .int .i64 0, .int .i64 0, .int .i64 0, .int .i64 0, .int .i64 0, .string ⟨#[]⟩, .int .i64 0, .int .i64 0, .string ⟨#[]⟩, .slice none 0 0]
theorem msg_cells {w : World} {q : Nat} {kind a v bal : Int} {T : TypeId} (h : Blk w q (msgVals kind a v bal) T) :
    w.cell? ⟨q, 0, none⟩ = some (.int .i64 kind) ∧ w.cell? ⟨q, 1, none⟩ = some (.int .i64 a) ∧ w.cell? ⟨q, 2, none⟩ = some (.int .i64 v) ∧ w.cell? ⟨q, 3, none⟩ = some (.int .i64 bal) ∧ w.cell? ⟨q, 4, none⟩ = some (.int .i64 0) ∧ w.cell? ⟨q, 5, none⟩ = some (.int .i64 0) ∧ w.cell? ⟨q, 6, none⟩ = some (.int .i64 0) ∧ w.cell? ⟨q, 7, none⟩ = some (.int .i64 0) ∧ w.cell? ⟨q, 8, none⟩ = some (.int .i64 0) ∧ w.cell? ⟨q, 9, none⟩ = some (.string ⟨#[]⟩) ∧ w.cell? ⟨q, 10, none⟩ = some (.int .i64 0) ∧ w.cell? ⟨q, 11, none⟩ = some (.int .i64 0) ∧ w.cell? ⟨q, 12, none⟩ = some (.string ⟨#[]⟩) ∧ w.cell? ⟨q, 13, none⟩ = some (.slice none 0 0) :=
  ⟨h.cell 0, h.cell 1, h.cell 2, h.cell 3, h.cell 4, h.cell 5, h.cell 6, h.cell 7, h.cell 8, h.cell 9, h.cell 10, h.cell 11, h.cell 12, h.cell 13⟩
set_option maxRecDepth 100000 in
theorem set_b (kind a v bal n : Int) (w : World) : Calls Tryz.prog 92 #[.agg #[.int .i64 kind, .int .i64 a, .int .i64 v, .int .i64 bal, .int .i64 0, .int .i64 0, .int .i64 0, .int .i64 0, .int .i64 0, .string ⟨#[]⟩, .int .i64 0, .int .i64 0, .string ⟨#[]⟩, .slice none 0 0], .int .u8 66, .int .i64 n] w fun e w' => e = .returned (.agg #[.int .i64 kind, .int .i64 a, .int .i64 v, .int .i64 n, .int .i64 0, .int .i64 0, .int .i64 0, .int .i64 0, .int .i64 0, .string ⟨#[]⟩, .int .i64 0, .int .i64 0, .string ⟨#[]⟩, .slice none 0 0]) ∧ Below w.heap.size w w' := by
  have HB := Lib.hid (((Below.refl w.heap.size w).alloc (Nat.le_refl _) (.cells #[.int .i64 kind, .int .i64 a, .int .i64 v, .int .i64 n, .int .i64 0, .int .i64 0, .int .i64 0, .int .i64 0, .int .i64 0, .string ⟨#[]⟩, .int .i64 0, .int .i64 0, .string ⟨#[]⟩, .slice none 0 0] 61)).alloc (by simp) (.cells #[.int .i64 kind, .int .i64 a, .int .i64 v, .int .i64 n, .int .i64 0, .int .i64 0, .int .i64 0, .int .i64 0, .int .i64 0, .string ⟨#[]⟩, .int .i64 0, .int .i64 0, .string ⟨#[]⟩, .slice none 0 0] 61))
  go_enter Tryz.func92, Tryz.ntmps92
  go_wp2
  refine bodyPost_ret (v := .agg #[.int .i64 kind, .int .i64 a, .int .i64 v, .int .i64 n, .int .i64 0, .int .i64 0, .int .i64 0, .int .i64 0, .int .i64 0, .string ⟨#[]⟩, .int .i64 0, .int .i64 0, .string ⟨#[]⟩, .slice none 0 0]) (by simp [results, Tryz.results92, go_sem]) rfl ⟨rfl, HB.out⟩
set_option maxRecDepth 100000 in
theorem set_0 (kind a v bal x : Int) (w : World) (hx : x = 70 ∨ x = 84) : Calls Tryz.prog 92 #[.agg #[.int .i64 kind, .int .i64 a, .int .i64 v, .int .i64 bal, .int .i64 0, .int .i64 0, .int .i64 0, .int .i64 0, .int .i64 0, .string ⟨#[]⟩, .int .i64 0, .int .i64 0, .string ⟨#[]⟩, .slice none 0 0], .int .u8 x, .int .i64 0] w fun e w' => e = .returned (.agg #[.int .i64 kind, .int .i64 a, .int .i64 v, .int .i64 bal, .int .i64 0, .int .i64 0, .int .i64 0, .int .i64 0, .int .i64 0, .string ⟨#[]⟩, .int .i64 0, .int .i64 0, .string ⟨#[]⟩, .slice none 0 0]) ∧ Below w.heap.size w w' := by
  have HB := Lib.hid (((Below.refl w.heap.size w).alloc (Nat.le_refl _) (.cells #[.int .i64 kind, .int .i64 a, .int .i64 v, .int .i64 bal, .int .i64 0, .int .i64 0, .int .i64 0, .int .i64 0, .int .i64 0, .string ⟨#[]⟩, .int .i64 0, .int .i64 0, .string ⟨#[]⟩, .slice none 0 0] 61)).alloc (by simp) (.cells #[.int .i64 kind, .int .i64 a, .int .i64 v, .int .i64 bal, .int .i64 0, .int .i64 0, .int .i64 0, .int .i64 0, .int .i64 0, .string ⟨#[]⟩, .int .i64 0, .int .i64 0, .string ⟨#[]⟩, .slice none 0 0] 61))
  rcases hx with rfl | rfl
  all_goals
    go_enter Tryz.func92, Tryz.ntmps92
    go_wp2
    refine bodyPost_ret (v := .agg #[.int .i64 kind, .int .i64 a, .int .i64 v, .int .i64 bal, .int .i64 0, .int .i64 0, .int .i64 0, .int .i64 0, .int .i64 0, .string ⟨#[]⟩, .int .i64 0, .int .i64 0, .string ⟨#[]⟩, .slice none 0 0]) (by simp [results, Tryz.results92, go_sem]) rfl ⟨rfl, HB.out⟩

end Go.Proofs.YtmmnaieikfekfaaGreatDoor
