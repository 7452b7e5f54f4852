/- The walks of the document's Clean (layer 17) and of the statement's reply: a promise that answers what asked for it. No condition. -/
import Derived.Test.YtmmnaieikfekfaaGreatDoorMsgSet
import Derived.Deep.RegionLaw
import Derived.Test.YtmmnaieikfekfaaGreatDoorHeld
namespace Go.Proofs.YtmmnaieikfekfaaGreatDoor
open Go Go.RowKit
set_option linter.unusedVariables false

set_option maxRecDepth 100000 in
set_option maxHeartbeats 8000000 in
theorem clean_prom (a v bal : Int) (w : World) : Calls Tryz.prog 59 #[.agg #[.int .i64 2, .int .i64 a, .int .i64 v, .int .i64 bal, .int .i64 0, .int .i64 0, .int .i64 0, .int .i64 0, .int .i64 0, .string ⟨#[]⟩, .int .i64 0, .int .i64 0, .string ⟨#[]⟩, .slice none 0 0]] w fun e w' => e = .returned (.agg #[.int .i64 2, .int .i64 a, .int .i64 v, .int .i64 bal, .int .i64 0, .int .i64 0, .int .i64 0, .int .i64 0, .int .i64 0, .string ⟨#[]⟩, .int .i64 0, .int .i64 0, .string ⟨#[]⟩, .slice none 0 0]) ∧ Below w.heap.size w w' := by
  have Z1 := (Blk.new w (msgVals 2 a v bal) 61)
  have b0 := (((Below.refl w.heap.size w).alloc (Nat.le_refl _) (.cells (msgVals 2 a v bal).toArray 61)).alloc (by simp) (.cells (msgVals 0 0 0 0).toArray 61)).alloc (by simp; omega) (.cells (msgVals 2 a v 0).toArray 61)
  have Y1 := (Z1.alloc (.cells (msgVals 0 0 0 0).toArray 61)).alloc (.cells (msgVals 2 a v 0).toArray 61)
  have Y2 := (Blk.new (w.alloc (.cells (msgVals 2 a v bal).toArray 61)) (msgVals 0 0 0 0) 61).alloc (.cells (msgVals 2 a v 0).toArray 61)
  have Y3 := Blk.new ((w.alloc (.cells (msgVals 2 a v bal).toArray 61)).alloc (.cells (msgVals 0 0 0 0).toArray 61)) (msgVals 2 a v 0) 61
  rw [show (w.alloc (.cells (msgVals 2 a v bal).toArray 61)).heap.size = w.heap.size + 1 by simp] at Y2
  rw [show ((w.alloc (.cells (msgVals 2 a v bal).toArray 61)).alloc (.cells (msgVals 0 0 0 0).toArray 61)).heap.size = w.heap.size + 2 by simp] at Y3
  have HY1 := Lib.hid Y1
  have HY2 := Lib.hid Y2
  have HY3 := Lib.hid Y3
  have HB0 := Lib.hid b0
  clear Z1 b0 Y1 Y2 Y3
  go_enter Tryz.func59, Tryz.ntmps59
  go_wp2_with fail
  refine (fields_two _).mono ?_
  rintro e w1 ⟨rfl, rfl⟩
  have Y1 := HY1.out
  have Y2 := HY2.out
  have Y3 := HY3.out
  have B0 := HB0.out
  clear HY1 HY2 HY3 HB0
  simp only [msgVals] at Y1 Y2 Y3 B0
  generalize ((w.alloc (.cells #[.int .i64 2, .int .i64 a, .int .i64 v, .int .i64 bal, .int .i64 0, .int .i64 0, .int .i64 0, .int .i64 0, .int .i64 0, .string ⟨#[]⟩, .int .i64 0, .int .i64 0, .string ⟨#[]⟩, .slice none 0 0] 61)).alloc (.cells #[.int .i64 0, .int .i64 0, .int .i64 0, .int .i64 0, .int .i64 0, .int .i64 0, .int .i64 0, .int .i64 0, .int .i64 0, .string ⟨#[]⟩, .int .i64 0, .int .i64 0, .string ⟨#[]⟩, .slice none 0 0] 61)).alloc (.cells #[.int .i64 2, .int .i64 a, .int .i64 v, .int .i64 0, .int .i64 0, .int .i64 0, .int .i64 0, .int .i64 0, .int .i64 0, .string ⟨#[]⟩, .int .i64 0, .int .i64 0, .string ⟨#[]⟩, .slice none 0 0] 61) = w0 at Y1 Y2 Y3 B0 ⊢
  obtain ⟨q, hq⟩ : ∃ q, q = w.heap.size := ⟨_, rfl⟩
  rw [← hq] at Y1 Y2 Y3 ⊢
  have Hq := Lib.hid hq
  have hne : q + 1 + 1 ≠ q := by omega
  have hne2 : q + 1 + 1 ≠ q + 1 := by omega
  have hqw : w.heap.size ≤ q + 1 + 1 := by omega
  have Y3' : Blk w0 (q + 1 + 1) (msgVals 2 a v 0) 61 := Y3
  clear Y3
  generalize q + 1 + 1 = g at Y3' hne hne2 hqw ⊢
  have HY1 := Lib.hid (show Blk w0 q (msgVals 2 a v bal) 61 from Y1)
  have HY2 := Lib.hid (show Blk w0 (q + 1) (msgVals 0 0 0 0) 61 from Y2)
  have HY3 := Lib.hid Y3'
  clear Y3'
  have HB0 := Lib.hid B0
  clear hq Y1 Y2 B0
  go_wp2_with fail
  go_loopw [5] (fun i wr => ∃ k : Nat, i = .int .i64 k ∧ k ≤ 4 ∧ Hid (Blk wr q (msgVals 2 a v bal) 61) ∧ Hid (Blk wr (q + 1) (msgVals 0 0 0 0) 61) ∧ Hid (Blk wr (g) (msgVals 2 a v (if k = 0 then 0 else bal)) 61) ∧ Below w.heap.size w wr) (fun i _ => 4 - (intOf i).toNat)
  case atStart => exact ⟨0, rfl, by omega, HY1, HY2, HY3, HB0.out⟩
  case round =>
    obtain ⟨k, rfl, hk, H1, H2, H3, hbr⟩ := hrel
    clear HY1 HY2 HY3 HB0
    by_cases h3 : k < 3
    · have hks : k < (⟨#[66, 70, 84, 76]⟩ : ByteArray).size := show k < 4 by omega
      have hkk : k = 0 ∨ k = 1 ∨ k = 2 := by omega
      have e77 : ((((⟨#[66, 70, 84, 76]⟩ : ByteArray)[k]'hks).toNat : Int) == 77) = false := by rcases hkk with rfl | rfl | rfl <;> rfl
      have e80 : ((((⟨#[66, 70, 84, 76]⟩ : ByteArray)[k]'hks).toNat : Int) == 80) = false := by rcases hkk with rfl | rfl | rfl <;> rfl
      have e76 : ((((⟨#[66, 70, 84, 76]⟩ : ByteArray)[k]'hks).toNat : Int) == 76) = false := by rcases hkk with rfl | rfl | rfl <;> rfl
      have HN := Lib.hid (show ∀ w1, Calls Tryz.prog 93 #[.agg #[.int .i64 2, .int .i64 a, .int .i64 v, .int .i64 bal, .int .i64 0, .int .i64 0, .int .i64 0, .int .i64 0, .int .i64 0, .string ⟨#[]⟩, .int .i64 0, .int .i64 0, .string ⟨#[]⟩, .slice none 0 0], .int .u8 (((⟨#[66, 70, 84, 76]⟩ : ByteArray)[k]'hks).toNat : Int)] w1 fun e w' => e = .returned (.int .i64 (if k = 0 then bal else 0)) ∧ Below w1.heap.size w1 w' from fun w1 => by
        rcases hkk with rfl | rfl | rfl
        · exact number_b 2 a v bal w1
        · exact number_0 2 a v bal 70 w1 (by omega)
        · exact number_0 2 a v bal 84 w1 (by omega))
      have HS := Lib.hid (show ∀ w1, Calls Tryz.prog 92 #[.agg #[.int .i64 2, .int .i64 a, .int .i64 v, .int .i64 (if k = 0 then 0 else bal), .int .i64 0, .int .i64 0, .int .i64 0, .int .i64 0, .int .i64 0, .string ⟨#[]⟩, .int .i64 0, .int .i64 0, .string ⟨#[]⟩, .slice none 0 0], .int .u8 (((⟨#[66, 70, 84, 76]⟩ : ByteArray)[k]'hks).toNat : Int), .int .i64 (if k = 0 then bal else 0)] w1 fun e w' => e = .returned (.agg #[.int .i64 2, .int .i64 a, .int .i64 v, .int .i64 bal, .int .i64 0, .int .i64 0, .int .i64 0, .int .i64 0, .int .i64 0, .string ⟨#[]⟩, .int .i64 0, .int .i64 0, .string ⟨#[]⟩, .slice none 0 0]) ∧ Below w1.heap.size w1 w' from fun w1 => by
        rcases hkk with rfl | rfl | rfl
        · exact set_b 2 a v 0 bal w1
        · exact set_0 2 a v bal 70 w1 (by omega)
        · exact set_0 2 a v bal 84 w1 (by omega))
      clear hkk
      generalize (if k = 0 then (0 : Int) else bal) = bk at H3 HS
      generalize (if k = 0 then bal else (0 : Int)) = nk at HN HS
      have hql : g < wr.heap.size := H3.out.lt
      have hqq : q < wr.heap.size := H1.out.lt
      have HK := Lib.hid (show ∀ w', Below wr.heap.size wr w' → (w'.cell? ⟨q, 0, none⟩ = some (.int .i64 2) ∧ w'.cell? ⟨q, 1, none⟩ = some (.int .i64 a) ∧ w'.cell? ⟨q, 2, none⟩ = some (.int .i64 v) ∧ w'.cell? ⟨q, 3, none⟩ = some (.int .i64 bal) ∧ w'.cell? ⟨q, 4, none⟩ = some (.int .i64 0) ∧ w'.cell? ⟨q, 5, none⟩ = some (.int .i64 0) ∧ w'.cell? ⟨q, 6, none⟩ = some (.int .i64 0) ∧ w'.cell? ⟨q, 7, none⟩ = some (.int .i64 0) ∧ w'.cell? ⟨q, 8, none⟩ = some (.int .i64 0) ∧ w'.cell? ⟨q, 9, none⟩ = some (.string ⟨#[]⟩) ∧ w'.cell? ⟨q, 10, none⟩ = some (.int .i64 0) ∧ w'.cell? ⟨q, 11, none⟩ = some (.int .i64 0) ∧ w'.cell? ⟨q, 12, none⟩ = some (.string ⟨#[]⟩) ∧ w'.cell? ⟨q, 13, none⟩ = some (.slice none 0 0)) ∧ (w'.cell? ⟨g, 0, none⟩ = some (.int .i64 2) ∧ w'.cell? ⟨g, 1, none⟩ = some (.int .i64 a) ∧ w'.cell? ⟨g, 2, none⟩ = some (.int .i64 v) ∧ w'.cell? ⟨g, 3, none⟩ = some (.int .i64 bk) ∧ w'.cell? ⟨g, 4, none⟩ = some (.int .i64 0) ∧ w'.cell? ⟨g, 5, none⟩ = some (.int .i64 0) ∧ w'.cell? ⟨g, 6, none⟩ = some (.int .i64 0) ∧ w'.cell? ⟨g, 7, none⟩ = some (.int .i64 0) ∧ w'.cell? ⟨g, 8, none⟩ = some (.int .i64 0) ∧ w'.cell? ⟨g, 9, none⟩ = some (.string ⟨#[]⟩) ∧ w'.cell? ⟨g, 10, none⟩ = some (.int .i64 0) ∧ w'.cell? ⟨g, 11, none⟩ = some (.int .i64 0) ∧ w'.cell? ⟨g, 12, none⟩ = some (.string ⟨#[]⟩) ∧ w'.cell? ⟨g, 13, none⟩ = some (.slice none 0 0)) from fun w' hb => ⟨msg_cells (H1.out.below hb), msg_cells (H3.out.below hb)⟩)
      have HK1 := Lib.hid (show ∀ w', Below wr.heap.size wr w' → (w'.cell? ⟨q, 0, none⟩ = some (.int .i64 2) ∧ w'.cell? ⟨q, 1, none⟩ = some (.int .i64 a) ∧ w'.cell? ⟨q, 2, none⟩ = some (.int .i64 v) ∧ w'.cell? ⟨q, 3, none⟩ = some (.int .i64 bal) ∧ w'.cell? ⟨q, 4, none⟩ = some (.int .i64 0) ∧ w'.cell? ⟨q, 5, none⟩ = some (.int .i64 0) ∧ w'.cell? ⟨q, 6, none⟩ = some (.int .i64 0) ∧ w'.cell? ⟨q, 7, none⟩ = some (.int .i64 0) ∧ w'.cell? ⟨q, 8, none⟩ = some (.int .i64 0) ∧ w'.cell? ⟨q, 9, none⟩ = some (.string ⟨#[]⟩) ∧ w'.cell? ⟨q, 10, none⟩ = some (.int .i64 0) ∧ w'.cell? ⟨q, 11, none⟩ = some (.int .i64 0) ∧ w'.cell? ⟨q, 12, none⟩ = some (.string ⟨#[]⟩) ∧ w'.cell? ⟨q, 13, none⟩ = some (.slice none 0 0)) from fun w' hb => msg_cells (H1.out.below hb))
      have HKS := Lib.hid (show ∀ ws, Below wr.heap.size wr ws → (((((((((((((((ws.setCell ⟨g, 0, none⟩ (.int .i64 2)).setCell ⟨g, 1, none⟩ (.int .i64 a)).setCell ⟨g, 2, none⟩ (.int .i64 v)).setCell ⟨g, 3, none⟩ (.int .i64 bal)).setCell ⟨g, 4, none⟩ (.int .i64 0)).setCell ⟨g, 5, none⟩ (.int .i64 0)).setCell ⟨g, 6, none⟩ (.int .i64 0)).setCell ⟨g, 7, none⟩ (.int .i64 0)).setCell ⟨g, 8, none⟩ (.int .i64 0)).setCell ⟨g, 9, none⟩ (.string ⟨#[]⟩)).setCell ⟨g, 10, none⟩ (.int .i64 0)).setCell ⟨g, 11, none⟩ (.int .i64 0)).setCell ⟨g, 12, none⟩ (.string ⟨#[]⟩)).setCell ⟨g, 13, none⟩ (.slice none 0 0)).cell? ⟨q, 0, none⟩ = some (.int .i64 2) ∧ ((((((((((((((ws.setCell ⟨g, 0, none⟩ (.int .i64 2)).setCell ⟨g, 1, none⟩ (.int .i64 a)).setCell ⟨g, 2, none⟩ (.int .i64 v)).setCell ⟨g, 3, none⟩ (.int .i64 bal)).setCell ⟨g, 4, none⟩ (.int .i64 0)).setCell ⟨g, 5, none⟩ (.int .i64 0)).setCell ⟨g, 6, none⟩ (.int .i64 0)).setCell ⟨g, 7, none⟩ (.int .i64 0)).setCell ⟨g, 8, none⟩ (.int .i64 0)).setCell ⟨g, 9, none⟩ (.string ⟨#[]⟩)).setCell ⟨g, 10, none⟩ (.int .i64 0)).setCell ⟨g, 11, none⟩ (.int .i64 0)).setCell ⟨g, 12, none⟩ (.string ⟨#[]⟩)).setCell ⟨g, 13, none⟩ (.slice none 0 0)).cell? ⟨q, 1, none⟩ = some (.int .i64 a) ∧ ((((((((((((((ws.setCell ⟨g, 0, none⟩ (.int .i64 2)).setCell ⟨g, 1, none⟩ (.int .i64 a)).setCell ⟨g, 2, none⟩ (.int .i64 v)).setCell ⟨g, 3, none⟩ (.int .i64 bal)).setCell ⟨g, 4, none⟩ (.int .i64 0)).setCell ⟨g, 5, none⟩ (.int .i64 0)).setCell ⟨g, 6, none⟩ (.int .i64 0)).setCell ⟨g, 7, none⟩ (.int .i64 0)).setCell ⟨g, 8, none⟩ (.int .i64 0)).setCell ⟨g, 9, none⟩ (.string ⟨#[]⟩)).setCell ⟨g, 10, none⟩ (.int .i64 0)).setCell ⟨g, 11, none⟩ (.int .i64 0)).setCell ⟨g, 12, none⟩ (.string ⟨#[]⟩)).setCell ⟨g, 13, none⟩ (.slice none 0 0)).cell? ⟨q, 2, none⟩ = some (.int .i64 v) ∧ ((((((((((((((ws.setCell ⟨g, 0, none⟩ (.int .i64 2)).setCell ⟨g, 1, none⟩ (.int .i64 a)).setCell ⟨g, 2, none⟩ (.int .i64 v)).setCell ⟨g, 3, none⟩ (.int .i64 bal)).setCell ⟨g, 4, none⟩ (.int .i64 0)).setCell ⟨g, 5, none⟩ (.int .i64 0)).setCell ⟨g, 6, none⟩ (.int .i64 0)).setCell ⟨g, 7, none⟩ (.int .i64 0)).setCell ⟨g, 8, none⟩ (.int .i64 0)).setCell ⟨g, 9, none⟩ (.string ⟨#[]⟩)).setCell ⟨g, 10, none⟩ (.int .i64 0)).setCell ⟨g, 11, none⟩ (.int .i64 0)).setCell ⟨g, 12, none⟩ (.string ⟨#[]⟩)).setCell ⟨g, 13, none⟩ (.slice none 0 0)).cell? ⟨q, 3, none⟩ = some (.int .i64 bal) ∧ ((((((((((((((ws.setCell ⟨g, 0, none⟩ (.int .i64 2)).setCell ⟨g, 1, none⟩ (.int .i64 a)).setCell ⟨g, 2, none⟩ (.int .i64 v)).setCell ⟨g, 3, none⟩ (.int .i64 bal)).setCell ⟨g, 4, none⟩ (.int .i64 0)).setCell ⟨g, 5, none⟩ (.int .i64 0)).setCell ⟨g, 6, none⟩ (.int .i64 0)).setCell ⟨g, 7, none⟩ (.int .i64 0)).setCell ⟨g, 8, none⟩ (.int .i64 0)).setCell ⟨g, 9, none⟩ (.string ⟨#[]⟩)).setCell ⟨g, 10, none⟩ (.int .i64 0)).setCell ⟨g, 11, none⟩ (.int .i64 0)).setCell ⟨g, 12, none⟩ (.string ⟨#[]⟩)).setCell ⟨g, 13, none⟩ (.slice none 0 0)).cell? ⟨q, 4, none⟩ = some (.int .i64 0) ∧ ((((((((((((((ws.setCell ⟨g, 0, none⟩ (.int .i64 2)).setCell ⟨g, 1, none⟩ (.int .i64 a)).setCell ⟨g, 2, none⟩ (.int .i64 v)).setCell ⟨g, 3, none⟩ (.int .i64 bal)).setCell ⟨g, 4, none⟩ (.int .i64 0)).setCell ⟨g, 5, none⟩ (.int .i64 0)).setCell ⟨g, 6, none⟩ (.int .i64 0)).setCell ⟨g, 7, none⟩ (.int .i64 0)).setCell ⟨g, 8, none⟩ (.int .i64 0)).setCell ⟨g, 9, none⟩ (.string ⟨#[]⟩)).setCell ⟨g, 10, none⟩ (.int .i64 0)).setCell ⟨g, 11, none⟩ (.int .i64 0)).setCell ⟨g, 12, none⟩ (.string ⟨#[]⟩)).setCell ⟨g, 13, none⟩ (.slice none 0 0)).cell? ⟨q, 5, none⟩ = some (.int .i64 0) ∧ ((((((((((((((ws.setCell ⟨g, 0, none⟩ (.int .i64 2)).setCell ⟨g, 1, none⟩ (.int .i64 a)).setCell ⟨g, 2, none⟩ (.int .i64 v)).setCell ⟨g, 3, none⟩ (.int .i64 bal)).setCell ⟨g, 4, none⟩ (.int .i64 0)).setCell ⟨g, 5, none⟩ (.int .i64 0)).setCell ⟨g, 6, none⟩ (.int .i64 0)).setCell ⟨g, 7, none⟩ (.int .i64 0)).setCell ⟨g, 8, none⟩ (.int .i64 0)).setCell ⟨g, 9, none⟩ (.string ⟨#[]⟩)).setCell ⟨g, 10, none⟩ (.int .i64 0)).setCell ⟨g, 11, none⟩ (.int .i64 0)).setCell ⟨g, 12, none⟩ (.string ⟨#[]⟩)).setCell ⟨g, 13, none⟩ (.slice none 0 0)).cell? ⟨q, 6, none⟩ = some (.int .i64 0) ∧ ((((((((((((((ws.setCell ⟨g, 0, none⟩ (.int .i64 2)).setCell ⟨g, 1, none⟩ (.int .i64 a)).setCell ⟨g, 2, none⟩ (.int .i64 v)).setCell ⟨g, 3, none⟩ (.int .i64 bal)).setCell ⟨g, 4, none⟩ (.int .i64 0)).setCell ⟨g, 5, none⟩ (.int .i64 0)).setCell ⟨g, 6, none⟩ (.int .i64 0)).setCell ⟨g, 7, none⟩ (.int .i64 0)).setCell ⟨g, 8, none⟩ (.int .i64 0)).setCell ⟨g, 9, none⟩ (.string ⟨#[]⟩)).setCell ⟨g, 10, none⟩ (.int .i64 0)).setCell ⟨g, 11, none⟩ (.int .i64 0)).setCell ⟨g, 12, none⟩ (.string ⟨#[]⟩)).setCell ⟨g, 13, none⟩ (.slice none 0 0)).cell? ⟨q, 7, none⟩ = some (.int .i64 0) ∧ ((((((((((((((ws.setCell ⟨g, 0, none⟩ (.int .i64 2)).setCell ⟨g, 1, none⟩ (.int .i64 a)).setCell ⟨g, 2, none⟩ (.int .i64 v)).setCell ⟨g, 3, none⟩ (.int .i64 bal)).setCell ⟨g, 4, none⟩ (.int .i64 0)).setCell ⟨g, 5, none⟩ (.int .i64 0)).setCell ⟨g, 6, none⟩ (.int .i64 0)).setCell ⟨g, 7, none⟩ (.int .i64 0)).setCell ⟨g, 8, none⟩ (.int .i64 0)).setCell ⟨g, 9, none⟩ (.string ⟨#[]⟩)).setCell ⟨g, 10, none⟩ (.int .i64 0)).setCell ⟨g, 11, none⟩ (.int .i64 0)).setCell ⟨g, 12, none⟩ (.string ⟨#[]⟩)).setCell ⟨g, 13, none⟩ (.slice none 0 0)).cell? ⟨q, 8, none⟩ = some (.int .i64 0) ∧ ((((((((((((((ws.setCell ⟨g, 0, none⟩ (.int .i64 2)).setCell ⟨g, 1, none⟩ (.int .i64 a)).setCell ⟨g, 2, none⟩ (.int .i64 v)).setCell ⟨g, 3, none⟩ (.int .i64 bal)).setCell ⟨g, 4, none⟩ (.int .i64 0)).setCell ⟨g, 5, none⟩ (.int .i64 0)).setCell ⟨g, 6, none⟩ (.int .i64 0)).setCell ⟨g, 7, none⟩ (.int .i64 0)).setCell ⟨g, 8, none⟩ (.int .i64 0)).setCell ⟨g, 9, none⟩ (.string ⟨#[]⟩)).setCell ⟨g, 10, none⟩ (.int .i64 0)).setCell ⟨g, 11, none⟩ (.int .i64 0)).setCell ⟨g, 12, none⟩ (.string ⟨#[]⟩)).setCell ⟨g, 13, none⟩ (.slice none 0 0)).cell? ⟨q, 9, none⟩ = some (.string ⟨#[]⟩) ∧ ((((((((((((((ws.setCell ⟨g, 0, none⟩ (.int .i64 2)).setCell ⟨g, 1, none⟩ (.int .i64 a)).setCell ⟨g, 2, none⟩ (.int .i64 v)).setCell ⟨g, 3, none⟩ (.int .i64 bal)).setCell ⟨g, 4, none⟩ (.int .i64 0)).setCell ⟨g, 5, none⟩ (.int .i64 0)).setCell ⟨g, 6, none⟩ (.int .i64 0)).setCell ⟨g, 7, none⟩ (.int .i64 0)).setCell ⟨g, 8, none⟩ (.int .i64 0)).setCell ⟨g, 9, none⟩ (.string ⟨#[]⟩)).setCell ⟨g, 10, none⟩ (.int .i64 0)).setCell ⟨g, 11, none⟩ (.int .i64 0)).setCell ⟨g, 12, none⟩ (.string ⟨#[]⟩)).setCell ⟨g, 13, none⟩ (.slice none 0 0)).cell? ⟨q, 10, none⟩ = some (.int .i64 0) ∧ ((((((((((((((ws.setCell ⟨g, 0, none⟩ (.int .i64 2)).setCell ⟨g, 1, none⟩ (.int .i64 a)).setCell ⟨g, 2, none⟩ (.int .i64 v)).setCell ⟨g, 3, none⟩ (.int .i64 bal)).setCell ⟨g, 4, none⟩ (.int .i64 0)).setCell ⟨g, 5, none⟩ (.int .i64 0)).setCell ⟨g, 6, none⟩ (.int .i64 0)).setCell ⟨g, 7, none⟩ (.int .i64 0)).setCell ⟨g, 8, none⟩ (.int .i64 0)).setCell ⟨g, 9, none⟩ (.string ⟨#[]⟩)).setCell ⟨g, 10, none⟩ (.int .i64 0)).setCell ⟨g, 11, none⟩ (.int .i64 0)).setCell ⟨g, 12, none⟩ (.string ⟨#[]⟩)).setCell ⟨g, 13, none⟩ (.slice none 0 0)).cell? ⟨q, 11, none⟩ = some (.int .i64 0) ∧ ((((((((((((((ws.setCell ⟨g, 0, none⟩ (.int .i64 2)).setCell ⟨g, 1, none⟩ (.int .i64 a)).setCell ⟨g, 2, none⟩ (.int .i64 v)).setCell ⟨g, 3, none⟩ (.int .i64 bal)).setCell ⟨g, 4, none⟩ (.int .i64 0)).setCell ⟨g, 5, none⟩ (.int .i64 0)).setCell ⟨g, 6, none⟩ (.int .i64 0)).setCell ⟨g, 7, none⟩ (.int .i64 0)).setCell ⟨g, 8, none⟩ (.int .i64 0)).setCell ⟨g, 9, none⟩ (.string ⟨#[]⟩)).setCell ⟨g, 10, none⟩ (.int .i64 0)).setCell ⟨g, 11, none⟩ (.int .i64 0)).setCell ⟨g, 12, none⟩ (.string ⟨#[]⟩)).setCell ⟨g, 13, none⟩ (.slice none 0 0)).cell? ⟨q, 12, none⟩ = some (.string ⟨#[]⟩) ∧ ((((((((((((((ws.setCell ⟨g, 0, none⟩ (.int .i64 2)).setCell ⟨g, 1, none⟩ (.int .i64 a)).setCell ⟨g, 2, none⟩ (.int .i64 v)).setCell ⟨g, 3, none⟩ (.int .i64 bal)).setCell ⟨g, 4, none⟩ (.int .i64 0)).setCell ⟨g, 5, none⟩ (.int .i64 0)).setCell ⟨g, 6, none⟩ (.int .i64 0)).setCell ⟨g, 7, none⟩ (.int .i64 0)).setCell ⟨g, 8, none⟩ (.int .i64 0)).setCell ⟨g, 9, none⟩ (.string ⟨#[]⟩)).setCell ⟨g, 10, none⟩ (.int .i64 0)).setCell ⟨g, 11, none⟩ (.int .i64 0)).setCell ⟨g, 12, none⟩ (.string ⟨#[]⟩)).setCell ⟨g, 13, none⟩ (.slice none 0 0)).cell? ⟨q, 13, none⟩ = some (.slice none 0 0)) from fun ws hb => msg_cells (((((((((((((((H1.out.below hb).set_other (a := ⟨g, 0, none⟩) (Ne.symm hne) (.int .i64 2)).set_other (a := ⟨g, 1, none⟩) (Ne.symm hne) (.int .i64 a)).set_other (a := ⟨g, 2, none⟩) (Ne.symm hne) (.int .i64 v)).set_other (a := ⟨g, 3, none⟩) (Ne.symm hne) (.int .i64 bal)).set_other (a := ⟨g, 4, none⟩) (Ne.symm hne) (.int .i64 0)).set_other (a := ⟨g, 5, none⟩) (Ne.symm hne) (.int .i64 0)).set_other (a := ⟨g, 6, none⟩) (Ne.symm hne) (.int .i64 0)).set_other (a := ⟨g, 7, none⟩) (Ne.symm hne) (.int .i64 0)).set_other (a := ⟨g, 8, none⟩) (Ne.symm hne) (.int .i64 0)).set_other (a := ⟨g, 9, none⟩) (Ne.symm hne) (.string ⟨#[]⟩)).set_other (a := ⟨g, 10, none⟩) (Ne.symm hne) (.int .i64 0)).set_other (a := ⟨g, 11, none⟩) (Ne.symm hne) (.int .i64 0)).set_other (a := ⟨g, 12, none⟩) (Ne.symm hne) (.string ⟨#[]⟩)).set_other (a := ⟨g, 13, none⟩) (Ne.symm hne) (.slice none 0 0)))
      have hk0 := HK.out wr.drew (Below.refl _ _).drew
      have f3 : ∀ w', Below wr.heap.size wr w' → ∀ j, w'.frozen? ⟨g, j, none⟩ = false := fun w' hb j => (H3.out.below hb).free j
      have HF3 := Lib.hid f3
      clear f3
      obtain ⟨hc1, d0, d1, d2, d3, d4, d5, d6, d7, d8, d9, d10, d11, d12, d13⟩ := hk0
      go_upto_region 7 with fail
      refine wp_region_noPanic ?_
      refine wp_region_held_drew (S := (fun w' => w'.cell? ⟨q, 0, none⟩ = some (.int .i64 2) ∧ w'.cell? ⟨q, 1, none⟩ = some (.int .i64 a) ∧ w'.cell? ⟨q, 2, none⟩ = some (.int .i64 v) ∧ w'.cell? ⟨q, 3, none⟩ = some (.int .i64 bal) ∧ w'.cell? ⟨q, 4, none⟩ = some (.int .i64 0) ∧ w'.cell? ⟨q, 5, none⟩ = some (.int .i64 0) ∧ w'.cell? ⟨q, 6, none⟩ = some (.int .i64 0) ∧ w'.cell? ⟨q, 7, none⟩ = some (.int .i64 0) ∧ w'.cell? ⟨q, 8, none⟩ = some (.int .i64 0) ∧ w'.cell? ⟨q, 9, none⟩ = some (.string ⟨#[]⟩) ∧ w'.cell? ⟨q, 10, none⟩ = some (.int .i64 0) ∧ w'.cell? ⟨q, 11, none⟩ = some (.int .i64 0) ∧ w'.cell? ⟨q, 12, none⟩ = some (.string ⟨#[]⟩) ∧ w'.cell? ⟨q, 13, none⟩ = some (.slice none 0 0))) (by kernel_rfl) ?_ (fun hHeld => ?_)
      · ((try dsimp only); (first | with_reducible exact hc1 | with_reducible exact HK1.out _ (by assumption) | with_reducible exact HKS.out _ (by assumption) | go_keep))
      refine held_take (i := 1) (v := ?_) rfl (by kernel_rfl) (by kernel_rfl) (by kernel_rfl) (fun _ _ _ h => h) (by rfl) (fun w hSw => ?_) (by assumption) ?_
      rotate_left
      · ((try dsimp only at hSw); go_simp; (try with_reducible rfl))
      (try simp only [Act.put, List.setIfInBounds_toArray, List.set_cons_zero, List.set_cons_succ])
      refine held_take (i := 2) (v := ?_) rfl (by kernel_rfl) (by kernel_rfl) (by kernel_rfl) (fun _ _ _ h => h) (by rfl) (fun w hSw => ?_) (by assumption) ?_
      rotate_left
      · ((try dsimp only at hSw); go_simp; (try with_reducible rfl))
      (try simp only [Act.put, List.setIfInBounds_toArray, List.set_cons_zero, List.set_cons_succ])
      refine held_take (i := 4) (v := ?_) rfl (by kernel_rfl) (by kernel_rfl) (by kernel_rfl) (fun _ _ _ h => h) (by rfl) (fun w hSw => ?_) (by assumption) ?_
      rotate_left
      · ((try dsimp only at hSw); go_simp; (try with_reducible rfl))
      (try simp only [Act.put, List.setIfInBounds_toArray, List.set_cons_zero, List.set_cons_succ])
      refine held_take (i := 5) (v := ?_) rfl (by kernel_rfl) (by kernel_rfl) (by kernel_rfl) (fun _ _ _ h => h) (by rfl) (fun w hSw => ?_) (by assumption) ?_
      rotate_left
      · ((try dsimp only at hSw); go_simp; (try with_reducible rfl))
      (try simp only [Act.put, List.setIfInBounds_toArray, List.set_cons_zero, List.set_cons_succ])
      refine held_take (i := 6) (v := ?_) rfl (by kernel_rfl) (by kernel_rfl) (by kernel_rfl) (fun _ _ _ h => h) (by rfl) (fun w hSw => ?_) (by assumption) ?_
      rotate_left
      · ((try dsimp only at hSw); go_simp; (try with_reducible rfl))
      (try simp only [Act.put, List.setIfInBounds_toArray, List.set_cons_zero, List.set_cons_succ])
      refine wpAnyH_ready (rs := [0, 3, 7]) (by kernel_rfl) (by simp) ?_
      refine held_cons rfl (fun K hK => ?_) (held_cons rfl (fun K hK => ?_) (held_cons rfl (fun K hK => ?_) (AllReadyH.nil)))
      focus
        go_simp
        refine hK.out _ _ ?_ (fun hHeld => ?_)
        · ((try dsimp only); (first | with_reducible exact hc1 | with_reducible exact HK1.out _ (by assumption) | with_reducible exact HKS.out _ (by assumption) | go_keep))
        clear hK K
        (try simp only [Act.put, List.setIfInBounds_toArray, List.set_cons_zero, List.set_cons_succ])
        refine wpAnyH_ready (rs := [3, 7]) (by kernel_rfl) (by simp) ?_
        refine held_cons rfl (fun K hK => ?_) (held_cons rfl (fun K hK => ?_) (AllReadyH.nil))
        focus
          go_simp
          refine hK.out _ _ ?_ (fun hHeld => ?_)
          · ((try dsimp only); (first | with_reducible exact hc1 | with_reducible exact HK1.out _ (by assumption) | with_reducible exact HKS.out _ (by assumption) | go_keep))
          clear hK K
          (try simp only [Act.put, List.setIfInBounds_toArray, List.set_cons_zero, List.set_cons_succ])
          refine wpAnyH_ready (rs := [7]) (by kernel_rfl) (by simp) ?_
          refine held_cons rfl (fun K hK => ?_) (AllReadyH.nil)
          go_simp
          refine hK.out _ _ ?_ (fun hHeld => ?_)
          · ((try dsimp only); (first | with_reducible exact hc1 | with_reducible exact HK1.out _ (by assumption) | with_reducible exact HKS.out _ (by assumption) | go_keep))
          clear hK K
          (try simp only [Act.put, List.setIfInBounds_toArray, List.set_cons_zero, List.set_cons_succ])
          refine wpAnyH_ready (rs := [8]) (by kernel_rfl) (by simp) ?_
          refine held_cons rfl (fun K hK => ?_) (AllReadyH.nil)
          go_simp
          ((first | (go_at_call 93; refine (HN.out _).mono ?_; rintro e wn ⟨rfl, hbn⟩; have hbn2 := below_step ((Below.refl wr.heap.size wr).drew) hbn; obtain ⟨_, n0, n1, n2, n3, n4, n5, n6, n7, n8, n9, n10, n11, n12, n13⟩ := HK.out wn hbn2; clear hbn) | (go_at_call 92; refine (HS.out _).mono ?_; rintro e ws ⟨rfl, hbs⟩; have hbs2 := below_step hbn2 hbs; clear n0 n1 n2 n3 n4 n5 n6 n7 n8 n9 n10 n11 n12 n13 d0 d1 d2 d3 d4 d5 d6 d7 d8 d9 d10 d11 d12 d13 hc1 e77 e80 e76; obtain ⟨_, s0, s1, s2, s3, s4, s5, s6, s7, s8, s9, s10, s11, s12, s13⟩ := HK.out ws hbs2; have g0 := HF3.out ws hbs2 0; have g1 := HF3.out ws hbs2 1; have g2 := HF3.out ws hbs2 2; have g3 := HF3.out ws hbs2 3; have g4 := HF3.out ws hbs2 4; have g5 := HF3.out ws hbs2 5; have g6 := HF3.out ws hbs2 6; have g7 := HF3.out ws hbs2 7; have g8 := HF3.out ws hbs2 8; have g9 := HF3.out ws hbs2 9; have g10 := HF3.out ws hbs2 10; have g11 := HF3.out ws hbs2 11; have g12 := HF3.out ws hbs2 12; have g13 := HF3.out ws hbs2 13)))
          go_wp2_with fail
          refine hK.out _ _ ?_ (fun hHeld => ?_)
          · ((try dsimp only); (first | with_reducible exact hc1 | with_reducible exact HK1.out _ (by assumption) | with_reducible exact HKS.out _ (by assumption) | go_keep))
          clear hK K
          (try simp only [Act.put, List.setIfInBounds_toArray, List.set_cons_zero, List.set_cons_succ])
          refine wpAnyH_ready (rs := [9]) (by kernel_rfl) (by simp) ?_
          refine held_cons rfl (fun K hK => ?_) (AllReadyH.nil)
          go_simp
          ((first | (go_at_call 93; refine (HN.out _).mono ?_; rintro e wn ⟨rfl, hbn⟩; have hbn2 := below_step ((Below.refl wr.heap.size wr).drew) hbn; obtain ⟨_, n0, n1, n2, n3, n4, n5, n6, n7, n8, n9, n10, n11, n12, n13⟩ := HK.out wn hbn2; clear hbn) | (go_at_call 92; refine (HS.out _).mono ?_; rintro e ws ⟨rfl, hbs⟩; have hbs2 := below_step hbn2 hbs; clear n0 n1 n2 n3 n4 n5 n6 n7 n8 n9 n10 n11 n12 n13 d0 d1 d2 d3 d4 d5 d6 d7 d8 d9 d10 d11 d12 d13 hc1 e77 e80 e76; obtain ⟨_, s0, s1, s2, s3, s4, s5, s6, s7, s8, s9, s10, s11, s12, s13⟩ := HK.out ws hbs2; have g0 := HF3.out ws hbs2 0; have g1 := HF3.out ws hbs2 1; have g2 := HF3.out ws hbs2 2; have g3 := HF3.out ws hbs2 3; have g4 := HF3.out ws hbs2 4; have g5 := HF3.out ws hbs2 5; have g6 := HF3.out ws hbs2 6; have g7 := HF3.out ws hbs2 7; have g8 := HF3.out ws hbs2 8; have g9 := HF3.out ws hbs2 9; have g10 := HF3.out ws hbs2 10; have g11 := HF3.out ws hbs2 11; have g12 := HF3.out ws hbs2 12; have g13 := HF3.out ws hbs2 13)))
          go_wp2_with fail
          refine hK.out _ _ ?_ (fun hHeld => ?_)
          · ((try dsimp only); (first | with_reducible exact hc1 | with_reducible exact HK1.out _ (by assumption) | with_reducible exact HKS.out _ (by assumption) | go_keep))
          clear hK K
          (try simp only [Act.put, List.setIfInBounds_toArray, List.set_cons_zero, List.set_cons_succ])
          refine wpAnyH_ready (rs := [10]) (by kernel_rfl) (by simp) ?_
          refine held_cons rfl (fun K hK => ?_) (AllReadyH.nil)
          go_simp
          refine hK.out _ _ ?_ (fun hHeld => ?_)
          · ((try dsimp only); (first | with_reducible exact hc1 | with_reducible exact HK1.out _ (by assumption) | with_reducible exact HKS.out _ (by assumption) | go_keep))
          clear hK K
          (try simp only [Act.put, List.setIfInBounds_toArray, List.set_cons_zero, List.set_cons_succ])
          refine wpAnyH_done (by kernel_rfl) ?_ _
        rotate_left 1
        focus
          go_simp
          refine hK.out _ _ ?_ (fun hHeld => ?_)
          · ((try dsimp only); (first | with_reducible exact hc1 | with_reducible exact HK1.out _ (by assumption) | with_reducible exact HKS.out _ (by assumption) | go_keep))
          clear hK K
          (try simp only [Act.put, List.setIfInBounds_toArray, List.set_cons_zero, List.set_cons_succ])
          refine wpAnyH_ready (rs := [3, 8]) (by kernel_rfl) (by simp) ?_
          refine held_cons rfl (fun K hK => ?_) (held_cons rfl (fun K hK => ?_) (AllReadyH.nil))
          focus
            go_simp
            refine hK.out _ _ ?_ (fun hHeld => ?_)
            · ((try dsimp only); (first | with_reducible exact hc1 | with_reducible exact HK1.out _ (by assumption) | with_reducible exact HKS.out _ (by assumption) | go_keep))
            clear hK K
            (try simp only [Act.put, List.setIfInBounds_toArray, List.set_cons_zero, List.set_cons_succ])
            refine wpAnyH_ready (rs := [8]) (by kernel_rfl) (by simp) ?_
            refine held_cons rfl (fun K hK => ?_) (AllReadyH.nil)
            go_simp
            ((first | (go_at_call 93; refine (HN.out _).mono ?_; rintro e wn ⟨rfl, hbn⟩; have hbn2 := below_step ((Below.refl wr.heap.size wr).drew) hbn; obtain ⟨_, n0, n1, n2, n3, n4, n5, n6, n7, n8, n9, n10, n11, n12, n13⟩ := HK.out wn hbn2; clear hbn) | (go_at_call 92; refine (HS.out _).mono ?_; rintro e ws ⟨rfl, hbs⟩; have hbs2 := below_step hbn2 hbs; clear n0 n1 n2 n3 n4 n5 n6 n7 n8 n9 n10 n11 n12 n13 d0 d1 d2 d3 d4 d5 d6 d7 d8 d9 d10 d11 d12 d13 hc1 e77 e80 e76; obtain ⟨_, s0, s1, s2, s3, s4, s5, s6, s7, s8, s9, s10, s11, s12, s13⟩ := HK.out ws hbs2; have g0 := HF3.out ws hbs2 0; have g1 := HF3.out ws hbs2 1; have g2 := HF3.out ws hbs2 2; have g3 := HF3.out ws hbs2 3; have g4 := HF3.out ws hbs2 4; have g5 := HF3.out ws hbs2 5; have g6 := HF3.out ws hbs2 6; have g7 := HF3.out ws hbs2 7; have g8 := HF3.out ws hbs2 8; have g9 := HF3.out ws hbs2 9; have g10 := HF3.out ws hbs2 10; have g11 := HF3.out ws hbs2 11; have g12 := HF3.out ws hbs2 12; have g13 := HF3.out ws hbs2 13)))
            go_wp2_with fail
            refine hK.out _ _ ?_ (fun hHeld => ?_)
            · ((try dsimp only); (first | with_reducible exact hc1 | with_reducible exact HK1.out _ (by assumption) | with_reducible exact HKS.out _ (by assumption) | go_keep))
            clear hK K
            (try simp only [Act.put, List.setIfInBounds_toArray, List.set_cons_zero, List.set_cons_succ])
            refine wpAnyH_ready (rs := [9]) (by kernel_rfl) (by simp) ?_
            refine held_cons rfl (fun K hK => ?_) (AllReadyH.nil)
            go_simp
            ((first | (go_at_call 93; refine (HN.out _).mono ?_; rintro e wn ⟨rfl, hbn⟩; have hbn2 := below_step ((Below.refl wr.heap.size wr).drew) hbn; obtain ⟨_, n0, n1, n2, n3, n4, n5, n6, n7, n8, n9, n10, n11, n12, n13⟩ := HK.out wn hbn2; clear hbn) | (go_at_call 92; refine (HS.out _).mono ?_; rintro e ws ⟨rfl, hbs⟩; have hbs2 := below_step hbn2 hbs; clear n0 n1 n2 n3 n4 n5 n6 n7 n8 n9 n10 n11 n12 n13 d0 d1 d2 d3 d4 d5 d6 d7 d8 d9 d10 d11 d12 d13 hc1 e77 e80 e76; obtain ⟨_, s0, s1, s2, s3, s4, s5, s6, s7, s8, s9, s10, s11, s12, s13⟩ := HK.out ws hbs2; have g0 := HF3.out ws hbs2 0; have g1 := HF3.out ws hbs2 1; have g2 := HF3.out ws hbs2 2; have g3 := HF3.out ws hbs2 3; have g4 := HF3.out ws hbs2 4; have g5 := HF3.out ws hbs2 5; have g6 := HF3.out ws hbs2 6; have g7 := HF3.out ws hbs2 7; have g8 := HF3.out ws hbs2 8; have g9 := HF3.out ws hbs2 9; have g10 := HF3.out ws hbs2 10; have g11 := HF3.out ws hbs2 11; have g12 := HF3.out ws hbs2 12; have g13 := HF3.out ws hbs2 13)))
            go_wp2_with fail
            refine hK.out _ _ ?_ (fun hHeld => ?_)
            · ((try dsimp only); (first | with_reducible exact hc1 | with_reducible exact HK1.out _ (by assumption) | with_reducible exact HKS.out _ (by assumption) | go_keep))
            clear hK K
            (try simp only [Act.put, List.setIfInBounds_toArray, List.set_cons_zero, List.set_cons_succ])
            refine wpAnyH_ready (rs := [10]) (by kernel_rfl) (by simp) ?_
            refine held_cons rfl (fun K hK => ?_) (AllReadyH.nil)
            go_simp
            refine hK.out _ _ ?_ (fun hHeld => ?_)
            · ((try dsimp only); (first | with_reducible exact hc1 | with_reducible exact HK1.out _ (by assumption) | with_reducible exact HKS.out _ (by assumption) | go_keep))
            clear hK K
            (try simp only [Act.put, List.setIfInBounds_toArray, List.set_cons_zero, List.set_cons_succ])
            refine wpAnyH_done (by kernel_rfl) ?_ _
          rotate_left 1
          focus
            go_simp
            ((first | (go_at_call 93; refine (HN.out _).mono ?_; rintro e wn ⟨rfl, hbn⟩; have hbn2 := below_step ((Below.refl wr.heap.size wr).drew) hbn; obtain ⟨_, n0, n1, n2, n3, n4, n5, n6, n7, n8, n9, n10, n11, n12, n13⟩ := HK.out wn hbn2; clear hbn) | (go_at_call 92; refine (HS.out _).mono ?_; rintro e ws ⟨rfl, hbs⟩; have hbs2 := below_step hbn2 hbs; clear n0 n1 n2 n3 n4 n5 n6 n7 n8 n9 n10 n11 n12 n13 d0 d1 d2 d3 d4 d5 d6 d7 d8 d9 d10 d11 d12 d13 hc1 e77 e80 e76; obtain ⟨_, s0, s1, s2, s3, s4, s5, s6, s7, s8, s9, s10, s11, s12, s13⟩ := HK.out ws hbs2; have g0 := HF3.out ws hbs2 0; have g1 := HF3.out ws hbs2 1; have g2 := HF3.out ws hbs2 2; have g3 := HF3.out ws hbs2 3; have g4 := HF3.out ws hbs2 4; have g5 := HF3.out ws hbs2 5; have g6 := HF3.out ws hbs2 6; have g7 := HF3.out ws hbs2 7; have g8 := HF3.out ws hbs2 8; have g9 := HF3.out ws hbs2 9; have g10 := HF3.out ws hbs2 10; have g11 := HF3.out ws hbs2 11; have g12 := HF3.out ws hbs2 12; have g13 := HF3.out ws hbs2 13)))
            go_wp2_with fail
            refine hK.out _ _ ?_ (fun hHeld => ?_)
            · ((try dsimp only); (first | with_reducible exact hc1 | with_reducible exact HK1.out _ (by assumption) | with_reducible exact HKS.out _ (by assumption) | go_keep))
            clear hK K
            (try simp only [Act.put, List.setIfInBounds_toArray, List.set_cons_zero, List.set_cons_succ])
            refine wpAnyH_ready (rs := [3]) (by kernel_rfl) (by simp) ?_
            refine held_cons rfl (fun K hK => ?_) (AllReadyH.nil)
            go_simp
            refine hK.out _ _ ?_ (fun hHeld => ?_)
            · ((try dsimp only); (first | with_reducible exact hc1 | with_reducible exact HK1.out _ (by assumption) | with_reducible exact HKS.out _ (by assumption) | go_keep))
            clear hK K
            (try simp only [Act.put, List.setIfInBounds_toArray, List.set_cons_zero, List.set_cons_succ])
            refine wpAnyH_ready (rs := [9]) (by kernel_rfl) (by simp) ?_
            refine held_cons rfl (fun K hK => ?_) (AllReadyH.nil)
            go_simp
            ((first | (go_at_call 93; refine (HN.out _).mono ?_; rintro e wn ⟨rfl, hbn⟩; have hbn2 := below_step ((Below.refl wr.heap.size wr).drew) hbn; obtain ⟨_, n0, n1, n2, n3, n4, n5, n6, n7, n8, n9, n10, n11, n12, n13⟩ := HK.out wn hbn2; clear hbn) | (go_at_call 92; refine (HS.out _).mono ?_; rintro e ws ⟨rfl, hbs⟩; have hbs2 := below_step hbn2 hbs; clear n0 n1 n2 n3 n4 n5 n6 n7 n8 n9 n10 n11 n12 n13 d0 d1 d2 d3 d4 d5 d6 d7 d8 d9 d10 d11 d12 d13 hc1 e77 e80 e76; obtain ⟨_, s0, s1, s2, s3, s4, s5, s6, s7, s8, s9, s10, s11, s12, s13⟩ := HK.out ws hbs2; have g0 := HF3.out ws hbs2 0; have g1 := HF3.out ws hbs2 1; have g2 := HF3.out ws hbs2 2; have g3 := HF3.out ws hbs2 3; have g4 := HF3.out ws hbs2 4; have g5 := HF3.out ws hbs2 5; have g6 := HF3.out ws hbs2 6; have g7 := HF3.out ws hbs2 7; have g8 := HF3.out ws hbs2 8; have g9 := HF3.out ws hbs2 9; have g10 := HF3.out ws hbs2 10; have g11 := HF3.out ws hbs2 11; have g12 := HF3.out ws hbs2 12; have g13 := HF3.out ws hbs2 13)))
            go_wp2_with fail
            refine hK.out _ _ ?_ (fun hHeld => ?_)
            · ((try dsimp only); (first | with_reducible exact hc1 | with_reducible exact HK1.out _ (by assumption) | with_reducible exact HKS.out _ (by assumption) | go_keep))
            clear hK K
            (try simp only [Act.put, List.setIfInBounds_toArray, List.set_cons_zero, List.set_cons_succ])
            refine wpAnyH_ready (rs := [10]) (by kernel_rfl) (by simp) ?_
            refine held_cons rfl (fun K hK => ?_) (AllReadyH.nil)
            go_simp
            refine hK.out _ _ ?_ (fun hHeld => ?_)
            · ((try dsimp only); (first | with_reducible exact hc1 | with_reducible exact HK1.out _ (by assumption) | with_reducible exact HKS.out _ (by assumption) | go_keep))
            clear hK K
            (try simp only [Act.put, List.setIfInBounds_toArray, List.set_cons_zero, List.set_cons_succ])
            refine wpAnyH_done (by kernel_rfl) ?_ _
      rotate_left 3
      focus
        go_simp
        refine hK.out _ _ ?_ (fun hHeld => ?_)
        · ((try dsimp only); (first | with_reducible exact hc1 | with_reducible exact HK1.out _ (by assumption) | with_reducible exact HKS.out _ (by assumption) | go_keep))
        clear hK K
        (try simp only [Act.put, List.setIfInBounds_toArray, List.set_cons_zero, List.set_cons_succ])
        refine wpAnyH_ready (rs := [0, 7]) (by kernel_rfl) (by simp) ?_
        refine held_cons rfl (fun K hK => ?_) (held_cons rfl (fun K hK => ?_) (AllReadyH.nil))
        focus
          go_simp
          refine hK.out _ _ ?_ (fun hHeld => ?_)
          · ((try dsimp only); (first | with_reducible exact hc1 | with_reducible exact HK1.out _ (by assumption) | with_reducible exact HKS.out _ (by assumption) | go_keep))
          clear hK K
          (try simp only [Act.put, List.setIfInBounds_toArray, List.set_cons_zero, List.set_cons_succ])
          refine wpAnyH_ready (rs := [7]) (by kernel_rfl) (by simp) ?_
          refine held_cons rfl (fun K hK => ?_) (AllReadyH.nil)
          go_simp
          refine hK.out _ _ ?_ (fun hHeld => ?_)
          · ((try dsimp only); (first | with_reducible exact hc1 | with_reducible exact HK1.out _ (by assumption) | with_reducible exact HKS.out _ (by assumption) | go_keep))
          clear hK K
          (try simp only [Act.put, List.setIfInBounds_toArray, List.set_cons_zero, List.set_cons_succ])
          refine wpAnyH_ready (rs := [8]) (by kernel_rfl) (by simp) ?_
          refine held_cons rfl (fun K hK => ?_) (AllReadyH.nil)
          go_simp
          ((first | (go_at_call 93; refine (HN.out _).mono ?_; rintro e wn ⟨rfl, hbn⟩; have hbn2 := below_step ((Below.refl wr.heap.size wr).drew) hbn; obtain ⟨_, n0, n1, n2, n3, n4, n5, n6, n7, n8, n9, n10, n11, n12, n13⟩ := HK.out wn hbn2; clear hbn) | (go_at_call 92; refine (HS.out _).mono ?_; rintro e ws ⟨rfl, hbs⟩; have hbs2 := below_step hbn2 hbs; clear n0 n1 n2 n3 n4 n5 n6 n7 n8 n9 n10 n11 n12 n13 d0 d1 d2 d3 d4 d5 d6 d7 d8 d9 d10 d11 d12 d13 hc1 e77 e80 e76; obtain ⟨_, s0, s1, s2, s3, s4, s5, s6, s7, s8, s9, s10, s11, s12, s13⟩ := HK.out ws hbs2; have g0 := HF3.out ws hbs2 0; have g1 := HF3.out ws hbs2 1; have g2 := HF3.out ws hbs2 2; have g3 := HF3.out ws hbs2 3; have g4 := HF3.out ws hbs2 4; have g5 := HF3.out ws hbs2 5; have g6 := HF3.out ws hbs2 6; have g7 := HF3.out ws hbs2 7; have g8 := HF3.out ws hbs2 8; have g9 := HF3.out ws hbs2 9; have g10 := HF3.out ws hbs2 10; have g11 := HF3.out ws hbs2 11; have g12 := HF3.out ws hbs2 12; have g13 := HF3.out ws hbs2 13)))
          go_wp2_with fail
          refine hK.out _ _ ?_ (fun hHeld => ?_)
          · ((try dsimp only); (first | with_reducible exact hc1 | with_reducible exact HK1.out _ (by assumption) | with_reducible exact HKS.out _ (by assumption) | go_keep))
          clear hK K
          (try simp only [Act.put, List.setIfInBounds_toArray, List.set_cons_zero, List.set_cons_succ])
          refine wpAnyH_ready (rs := [9]) (by kernel_rfl) (by simp) ?_
          refine held_cons rfl (fun K hK => ?_) (AllReadyH.nil)
          go_simp
          ((first | (go_at_call 93; refine (HN.out _).mono ?_; rintro e wn ⟨rfl, hbn⟩; have hbn2 := below_step ((Below.refl wr.heap.size wr).drew) hbn; obtain ⟨_, n0, n1, n2, n3, n4, n5, n6, n7, n8, n9, n10, n11, n12, n13⟩ := HK.out wn hbn2; clear hbn) | (go_at_call 92; refine (HS.out _).mono ?_; rintro e ws ⟨rfl, hbs⟩; have hbs2 := below_step hbn2 hbs; clear n0 n1 n2 n3 n4 n5 n6 n7 n8 n9 n10 n11 n12 n13 d0 d1 d2 d3 d4 d5 d6 d7 d8 d9 d10 d11 d12 d13 hc1 e77 e80 e76; obtain ⟨_, s0, s1, s2, s3, s4, s5, s6, s7, s8, s9, s10, s11, s12, s13⟩ := HK.out ws hbs2; have g0 := HF3.out ws hbs2 0; have g1 := HF3.out ws hbs2 1; have g2 := HF3.out ws hbs2 2; have g3 := HF3.out ws hbs2 3; have g4 := HF3.out ws hbs2 4; have g5 := HF3.out ws hbs2 5; have g6 := HF3.out ws hbs2 6; have g7 := HF3.out ws hbs2 7; have g8 := HF3.out ws hbs2 8; have g9 := HF3.out ws hbs2 9; have g10 := HF3.out ws hbs2 10; have g11 := HF3.out ws hbs2 11; have g12 := HF3.out ws hbs2 12; have g13 := HF3.out ws hbs2 13)))
          go_wp2_with fail
          refine hK.out _ _ ?_ (fun hHeld => ?_)
          · ((try dsimp only); (first | with_reducible exact hc1 | with_reducible exact HK1.out _ (by assumption) | with_reducible exact HKS.out _ (by assumption) | go_keep))
          clear hK K
          (try simp only [Act.put, List.setIfInBounds_toArray, List.set_cons_zero, List.set_cons_succ])
          refine wpAnyH_ready (rs := [10]) (by kernel_rfl) (by simp) ?_
          refine held_cons rfl (fun K hK => ?_) (AllReadyH.nil)
          go_simp
          refine hK.out _ _ ?_ (fun hHeld => ?_)
          · ((try dsimp only); (first | with_reducible exact hc1 | with_reducible exact HK1.out _ (by assumption) | with_reducible exact HKS.out _ (by assumption) | go_keep))
          clear hK K
          (try simp only [Act.put, List.setIfInBounds_toArray, List.set_cons_zero, List.set_cons_succ])
          refine wpAnyH_done (by kernel_rfl) ?_ _
        rotate_left 1
        focus
          go_simp
          refine hK.out _ _ ?_ (fun hHeld => ?_)
          · ((try dsimp only); (first | with_reducible exact hc1 | with_reducible exact HK1.out _ (by assumption) | with_reducible exact HKS.out _ (by assumption) | go_keep))
          clear hK K
          (try simp only [Act.put, List.setIfInBounds_toArray, List.set_cons_zero, List.set_cons_succ])
          refine wpAnyH_ready (rs := [0, 8]) (by kernel_rfl) (by simp) ?_
          refine held_cons rfl (fun K hK => ?_) (held_cons rfl (fun K hK => ?_) (AllReadyH.nil))
          focus
            go_simp
            refine hK.out _ _ ?_ (fun hHeld => ?_)
            · ((try dsimp only); (first | with_reducible exact hc1 | with_reducible exact HK1.out _ (by assumption) | with_reducible exact HKS.out _ (by assumption) | go_keep))
            clear hK K
            (try simp only [Act.put, List.setIfInBounds_toArray, List.set_cons_zero, List.set_cons_succ])
            refine wpAnyH_ready (rs := [8]) (by kernel_rfl) (by simp) ?_
            refine held_cons rfl (fun K hK => ?_) (AllReadyH.nil)
            go_simp
            ((first | (go_at_call 93; refine (HN.out _).mono ?_; rintro e wn ⟨rfl, hbn⟩; have hbn2 := below_step ((Below.refl wr.heap.size wr).drew) hbn; obtain ⟨_, n0, n1, n2, n3, n4, n5, n6, n7, n8, n9, n10, n11, n12, n13⟩ := HK.out wn hbn2; clear hbn) | (go_at_call 92; refine (HS.out _).mono ?_; rintro e ws ⟨rfl, hbs⟩; have hbs2 := below_step hbn2 hbs; clear n0 n1 n2 n3 n4 n5 n6 n7 n8 n9 n10 n11 n12 n13 d0 d1 d2 d3 d4 d5 d6 d7 d8 d9 d10 d11 d12 d13 hc1 e77 e80 e76; obtain ⟨_, s0, s1, s2, s3, s4, s5, s6, s7, s8, s9, s10, s11, s12, s13⟩ := HK.out ws hbs2; have g0 := HF3.out ws hbs2 0; have g1 := HF3.out ws hbs2 1; have g2 := HF3.out ws hbs2 2; have g3 := HF3.out ws hbs2 3; have g4 := HF3.out ws hbs2 4; have g5 := HF3.out ws hbs2 5; have g6 := HF3.out ws hbs2 6; have g7 := HF3.out ws hbs2 7; have g8 := HF3.out ws hbs2 8; have g9 := HF3.out ws hbs2 9; have g10 := HF3.out ws hbs2 10; have g11 := HF3.out ws hbs2 11; have g12 := HF3.out ws hbs2 12; have g13 := HF3.out ws hbs2 13)))
            go_wp2_with fail
            refine hK.out _ _ ?_ (fun hHeld => ?_)
            · ((try dsimp only); (first | with_reducible exact hc1 | with_reducible exact HK1.out _ (by assumption) | with_reducible exact HKS.out _ (by assumption) | go_keep))
            clear hK K
            (try simp only [Act.put, List.setIfInBounds_toArray, List.set_cons_zero, List.set_cons_succ])
            refine wpAnyH_ready (rs := [9]) (by kernel_rfl) (by simp) ?_
            refine held_cons rfl (fun K hK => ?_) (AllReadyH.nil)
            go_simp
            ((first | (go_at_call 93; refine (HN.out _).mono ?_; rintro e wn ⟨rfl, hbn⟩; have hbn2 := below_step ((Below.refl wr.heap.size wr).drew) hbn; obtain ⟨_, n0, n1, n2, n3, n4, n5, n6, n7, n8, n9, n10, n11, n12, n13⟩ := HK.out wn hbn2; clear hbn) | (go_at_call 92; refine (HS.out _).mono ?_; rintro e ws ⟨rfl, hbs⟩; have hbs2 := below_step hbn2 hbs; clear n0 n1 n2 n3 n4 n5 n6 n7 n8 n9 n10 n11 n12 n13 d0 d1 d2 d3 d4 d5 d6 d7 d8 d9 d10 d11 d12 d13 hc1 e77 e80 e76; obtain ⟨_, s0, s1, s2, s3, s4, s5, s6, s7, s8, s9, s10, s11, s12, s13⟩ := HK.out ws hbs2; have g0 := HF3.out ws hbs2 0; have g1 := HF3.out ws hbs2 1; have g2 := HF3.out ws hbs2 2; have g3 := HF3.out ws hbs2 3; have g4 := HF3.out ws hbs2 4; have g5 := HF3.out ws hbs2 5; have g6 := HF3.out ws hbs2 6; have g7 := HF3.out ws hbs2 7; have g8 := HF3.out ws hbs2 8; have g9 := HF3.out ws hbs2 9; have g10 := HF3.out ws hbs2 10; have g11 := HF3.out ws hbs2 11; have g12 := HF3.out ws hbs2 12; have g13 := HF3.out ws hbs2 13)))
            go_wp2_with fail
            refine hK.out _ _ ?_ (fun hHeld => ?_)
            · ((try dsimp only); (first | with_reducible exact hc1 | with_reducible exact HK1.out _ (by assumption) | with_reducible exact HKS.out _ (by assumption) | go_keep))
            clear hK K
            (try simp only [Act.put, List.setIfInBounds_toArray, List.set_cons_zero, List.set_cons_succ])
            refine wpAnyH_ready (rs := [10]) (by kernel_rfl) (by simp) ?_
            refine held_cons rfl (fun K hK => ?_) (AllReadyH.nil)
            go_simp
            refine hK.out _ _ ?_ (fun hHeld => ?_)
            · ((try dsimp only); (first | with_reducible exact hc1 | with_reducible exact HK1.out _ (by assumption) | with_reducible exact HKS.out _ (by assumption) | go_keep))
            clear hK K
            (try simp only [Act.put, List.setIfInBounds_toArray, List.set_cons_zero, List.set_cons_succ])
            refine wpAnyH_done (by kernel_rfl) ?_ _
          rotate_left 1
          focus
            go_simp
            ((first | (go_at_call 93; refine (HN.out _).mono ?_; rintro e wn ⟨rfl, hbn⟩; have hbn2 := below_step ((Below.refl wr.heap.size wr).drew) hbn; obtain ⟨_, n0, n1, n2, n3, n4, n5, n6, n7, n8, n9, n10, n11, n12, n13⟩ := HK.out wn hbn2; clear hbn) | (go_at_call 92; refine (HS.out _).mono ?_; rintro e ws ⟨rfl, hbs⟩; have hbs2 := below_step hbn2 hbs; clear n0 n1 n2 n3 n4 n5 n6 n7 n8 n9 n10 n11 n12 n13 d0 d1 d2 d3 d4 d5 d6 d7 d8 d9 d10 d11 d12 d13 hc1 e77 e80 e76; obtain ⟨_, s0, s1, s2, s3, s4, s5, s6, s7, s8, s9, s10, s11, s12, s13⟩ := HK.out ws hbs2; have g0 := HF3.out ws hbs2 0; have g1 := HF3.out ws hbs2 1; have g2 := HF3.out ws hbs2 2; have g3 := HF3.out ws hbs2 3; have g4 := HF3.out ws hbs2 4; have g5 := HF3.out ws hbs2 5; have g6 := HF3.out ws hbs2 6; have g7 := HF3.out ws hbs2 7; have g8 := HF3.out ws hbs2 8; have g9 := HF3.out ws hbs2 9; have g10 := HF3.out ws hbs2 10; have g11 := HF3.out ws hbs2 11; have g12 := HF3.out ws hbs2 12; have g13 := HF3.out ws hbs2 13)))
            go_wp2_with fail
            refine hK.out _ _ ?_ (fun hHeld => ?_)
            · ((try dsimp only); (first | with_reducible exact hc1 | with_reducible exact HK1.out _ (by assumption) | with_reducible exact HKS.out _ (by assumption) | go_keep))
            clear hK K
            (try simp only [Act.put, List.setIfInBounds_toArray, List.set_cons_zero, List.set_cons_succ])
            refine wpAnyH_ready (rs := [0]) (by kernel_rfl) (by simp) ?_
            refine held_cons rfl (fun K hK => ?_) (AllReadyH.nil)
            go_simp
            refine hK.out _ _ ?_ (fun hHeld => ?_)
            · ((try dsimp only); (first | with_reducible exact hc1 | with_reducible exact HK1.out _ (by assumption) | with_reducible exact HKS.out _ (by assumption) | go_keep))
            clear hK K
            (try simp only [Act.put, List.setIfInBounds_toArray, List.set_cons_zero, List.set_cons_succ])
            refine wpAnyH_ready (rs := [9]) (by kernel_rfl) (by simp) ?_
            refine held_cons rfl (fun K hK => ?_) (AllReadyH.nil)
            go_simp
            ((first | (go_at_call 93; refine (HN.out _).mono ?_; rintro e wn ⟨rfl, hbn⟩; have hbn2 := below_step ((Below.refl wr.heap.size wr).drew) hbn; obtain ⟨_, n0, n1, n2, n3, n4, n5, n6, n7, n8, n9, n10, n11, n12, n13⟩ := HK.out wn hbn2; clear hbn) | (go_at_call 92; refine (HS.out _).mono ?_; rintro e ws ⟨rfl, hbs⟩; have hbs2 := below_step hbn2 hbs; clear n0 n1 n2 n3 n4 n5 n6 n7 n8 n9 n10 n11 n12 n13 d0 d1 d2 d3 d4 d5 d6 d7 d8 d9 d10 d11 d12 d13 hc1 e77 e80 e76; obtain ⟨_, s0, s1, s2, s3, s4, s5, s6, s7, s8, s9, s10, s11, s12, s13⟩ := HK.out ws hbs2; have g0 := HF3.out ws hbs2 0; have g1 := HF3.out ws hbs2 1; have g2 := HF3.out ws hbs2 2; have g3 := HF3.out ws hbs2 3; have g4 := HF3.out ws hbs2 4; have g5 := HF3.out ws hbs2 5; have g6 := HF3.out ws hbs2 6; have g7 := HF3.out ws hbs2 7; have g8 := HF3.out ws hbs2 8; have g9 := HF3.out ws hbs2 9; have g10 := HF3.out ws hbs2 10; have g11 := HF3.out ws hbs2 11; have g12 := HF3.out ws hbs2 12; have g13 := HF3.out ws hbs2 13)))
            go_wp2_with fail
            refine hK.out _ _ ?_ (fun hHeld => ?_)
            · ((try dsimp only); (first | with_reducible exact hc1 | with_reducible exact HK1.out _ (by assumption) | with_reducible exact HKS.out _ (by assumption) | go_keep))
            clear hK K
            (try simp only [Act.put, List.setIfInBounds_toArray, List.set_cons_zero, List.set_cons_succ])
            refine wpAnyH_ready (rs := [10]) (by kernel_rfl) (by simp) ?_
            refine held_cons rfl (fun K hK => ?_) (AllReadyH.nil)
            go_simp
            refine hK.out _ _ ?_ (fun hHeld => ?_)
            · ((try dsimp only); (first | with_reducible exact hc1 | with_reducible exact HK1.out _ (by assumption) | with_reducible exact HKS.out _ (by assumption) | go_keep))
            clear hK K
            (try simp only [Act.put, List.setIfInBounds_toArray, List.set_cons_zero, List.set_cons_succ])
            refine wpAnyH_done (by kernel_rfl) ?_ _
      rotate_left 3
      focus
        go_simp
        refine hK.out _ _ ?_ (fun hHeld => ?_)
        · ((try dsimp only); (first | with_reducible exact hc1 | with_reducible exact HK1.out _ (by assumption) | with_reducible exact HKS.out _ (by assumption) | go_keep))
        clear hK K
        (try simp only [Act.put, List.setIfInBounds_toArray, List.set_cons_zero, List.set_cons_succ])
        refine wpAnyH_ready (rs := [0, 3, 8]) (by kernel_rfl) (by simp) ?_
        refine held_cons rfl (fun K hK => ?_) (held_cons rfl (fun K hK => ?_) (held_cons rfl (fun K hK => ?_) (AllReadyH.nil)))
        focus
          go_simp
          refine hK.out _ _ ?_ (fun hHeld => ?_)
          · ((try dsimp only); (first | with_reducible exact hc1 | with_reducible exact HK1.out _ (by assumption) | with_reducible exact HKS.out _ (by assumption) | go_keep))
          clear hK K
          (try simp only [Act.put, List.setIfInBounds_toArray, List.set_cons_zero, List.set_cons_succ])
          refine wpAnyH_ready (rs := [3, 8]) (by kernel_rfl) (by simp) ?_
          refine held_cons rfl (fun K hK => ?_) (held_cons rfl (fun K hK => ?_) (AllReadyH.nil))
          focus
            go_simp
            refine hK.out _ _ ?_ (fun hHeld => ?_)
            · ((try dsimp only); (first | with_reducible exact hc1 | with_reducible exact HK1.out _ (by assumption) | with_reducible exact HKS.out _ (by assumption) | go_keep))
            clear hK K
            (try simp only [Act.put, List.setIfInBounds_toArray, List.set_cons_zero, List.set_cons_succ])
            refine wpAnyH_ready (rs := [8]) (by kernel_rfl) (by simp) ?_
            refine held_cons rfl (fun K hK => ?_) (AllReadyH.nil)
            go_simp
            ((first | (go_at_call 93; refine (HN.out _).mono ?_; rintro e wn ⟨rfl, hbn⟩; have hbn2 := below_step ((Below.refl wr.heap.size wr).drew) hbn; obtain ⟨_, n0, n1, n2, n3, n4, n5, n6, n7, n8, n9, n10, n11, n12, n13⟩ := HK.out wn hbn2; clear hbn) | (go_at_call 92; refine (HS.out _).mono ?_; rintro e ws ⟨rfl, hbs⟩; have hbs2 := below_step hbn2 hbs; clear n0 n1 n2 n3 n4 n5 n6 n7 n8 n9 n10 n11 n12 n13 d0 d1 d2 d3 d4 d5 d6 d7 d8 d9 d10 d11 d12 d13 hc1 e77 e80 e76; obtain ⟨_, s0, s1, s2, s3, s4, s5, s6, s7, s8, s9, s10, s11, s12, s13⟩ := HK.out ws hbs2; have g0 := HF3.out ws hbs2 0; have g1 := HF3.out ws hbs2 1; have g2 := HF3.out ws hbs2 2; have g3 := HF3.out ws hbs2 3; have g4 := HF3.out ws hbs2 4; have g5 := HF3.out ws hbs2 5; have g6 := HF3.out ws hbs2 6; have g7 := HF3.out ws hbs2 7; have g8 := HF3.out ws hbs2 8; have g9 := HF3.out ws hbs2 9; have g10 := HF3.out ws hbs2 10; have g11 := HF3.out ws hbs2 11; have g12 := HF3.out ws hbs2 12; have g13 := HF3.out ws hbs2 13)))
            go_wp2_with fail
            refine hK.out _ _ ?_ (fun hHeld => ?_)
            · ((try dsimp only); (first | with_reducible exact hc1 | with_reducible exact HK1.out _ (by assumption) | with_reducible exact HKS.out _ (by assumption) | go_keep))
            clear hK K
            (try simp only [Act.put, List.setIfInBounds_toArray, List.set_cons_zero, List.set_cons_succ])
            refine wpAnyH_ready (rs := [9]) (by kernel_rfl) (by simp) ?_
            refine held_cons rfl (fun K hK => ?_) (AllReadyH.nil)
            go_simp
            ((first | (go_at_call 93; refine (HN.out _).mono ?_; rintro e wn ⟨rfl, hbn⟩; have hbn2 := below_step ((Below.refl wr.heap.size wr).drew) hbn; obtain ⟨_, n0, n1, n2, n3, n4, n5, n6, n7, n8, n9, n10, n11, n12, n13⟩ := HK.out wn hbn2; clear hbn) | (go_at_call 92; refine (HS.out _).mono ?_; rintro e ws ⟨rfl, hbs⟩; have hbs2 := below_step hbn2 hbs; clear n0 n1 n2 n3 n4 n5 n6 n7 n8 n9 n10 n11 n12 n13 d0 d1 d2 d3 d4 d5 d6 d7 d8 d9 d10 d11 d12 d13 hc1 e77 e80 e76; obtain ⟨_, s0, s1, s2, s3, s4, s5, s6, s7, s8, s9, s10, s11, s12, s13⟩ := HK.out ws hbs2; have g0 := HF3.out ws hbs2 0; have g1 := HF3.out ws hbs2 1; have g2 := HF3.out ws hbs2 2; have g3 := HF3.out ws hbs2 3; have g4 := HF3.out ws hbs2 4; have g5 := HF3.out ws hbs2 5; have g6 := HF3.out ws hbs2 6; have g7 := HF3.out ws hbs2 7; have g8 := HF3.out ws hbs2 8; have g9 := HF3.out ws hbs2 9; have g10 := HF3.out ws hbs2 10; have g11 := HF3.out ws hbs2 11; have g12 := HF3.out ws hbs2 12; have g13 := HF3.out ws hbs2 13)))
            go_wp2_with fail
            refine hK.out _ _ ?_ (fun hHeld => ?_)
            · ((try dsimp only); (first | with_reducible exact hc1 | with_reducible exact HK1.out _ (by assumption) | with_reducible exact HKS.out _ (by assumption) | go_keep))
            clear hK K
            (try simp only [Act.put, List.setIfInBounds_toArray, List.set_cons_zero, List.set_cons_succ])
            refine wpAnyH_ready (rs := [10]) (by kernel_rfl) (by simp) ?_
            refine held_cons rfl (fun K hK => ?_) (AllReadyH.nil)
            go_simp
            refine hK.out _ _ ?_ (fun hHeld => ?_)
            · ((try dsimp only); (first | with_reducible exact hc1 | with_reducible exact HK1.out _ (by assumption) | with_reducible exact HKS.out _ (by assumption) | go_keep))
            clear hK K
            (try simp only [Act.put, List.setIfInBounds_toArray, List.set_cons_zero, List.set_cons_succ])
            refine wpAnyH_done (by kernel_rfl) ?_ _
          rotate_left 1
          focus
            go_simp
            ((first | (go_at_call 93; refine (HN.out _).mono ?_; rintro e wn ⟨rfl, hbn⟩; have hbn2 := below_step ((Below.refl wr.heap.size wr).drew) hbn; obtain ⟨_, n0, n1, n2, n3, n4, n5, n6, n7, n8, n9, n10, n11, n12, n13⟩ := HK.out wn hbn2; clear hbn) | (go_at_call 92; refine (HS.out _).mono ?_; rintro e ws ⟨rfl, hbs⟩; have hbs2 := below_step hbn2 hbs; clear n0 n1 n2 n3 n4 n5 n6 n7 n8 n9 n10 n11 n12 n13 d0 d1 d2 d3 d4 d5 d6 d7 d8 d9 d10 d11 d12 d13 hc1 e77 e80 e76; obtain ⟨_, s0, s1, s2, s3, s4, s5, s6, s7, s8, s9, s10, s11, s12, s13⟩ := HK.out ws hbs2; have g0 := HF3.out ws hbs2 0; have g1 := HF3.out ws hbs2 1; have g2 := HF3.out ws hbs2 2; have g3 := HF3.out ws hbs2 3; have g4 := HF3.out ws hbs2 4; have g5 := HF3.out ws hbs2 5; have g6 := HF3.out ws hbs2 6; have g7 := HF3.out ws hbs2 7; have g8 := HF3.out ws hbs2 8; have g9 := HF3.out ws hbs2 9; have g10 := HF3.out ws hbs2 10; have g11 := HF3.out ws hbs2 11; have g12 := HF3.out ws hbs2 12; have g13 := HF3.out ws hbs2 13)))
            go_wp2_with fail
            refine hK.out _ _ ?_ (fun hHeld => ?_)
            · ((try dsimp only); (first | with_reducible exact hc1 | with_reducible exact HK1.out _ (by assumption) | with_reducible exact HKS.out _ (by assumption) | go_keep))
            clear hK K
            (try simp only [Act.put, List.setIfInBounds_toArray, List.set_cons_zero, List.set_cons_succ])
            refine wpAnyH_ready (rs := [3]) (by kernel_rfl) (by simp) ?_
            refine held_cons rfl (fun K hK => ?_) (AllReadyH.nil)
            go_simp
            refine hK.out _ _ ?_ (fun hHeld => ?_)
            · ((try dsimp only); (first | with_reducible exact hc1 | with_reducible exact HK1.out _ (by assumption) | with_reducible exact HKS.out _ (by assumption) | go_keep))
            clear hK K
            (try simp only [Act.put, List.setIfInBounds_toArray, List.set_cons_zero, List.set_cons_succ])
            refine wpAnyH_ready (rs := [9]) (by kernel_rfl) (by simp) ?_
            refine held_cons rfl (fun K hK => ?_) (AllReadyH.nil)
            go_simp
            ((first | (go_at_call 93; refine (HN.out _).mono ?_; rintro e wn ⟨rfl, hbn⟩; have hbn2 := below_step ((Below.refl wr.heap.size wr).drew) hbn; obtain ⟨_, n0, n1, n2, n3, n4, n5, n6, n7, n8, n9, n10, n11, n12, n13⟩ := HK.out wn hbn2; clear hbn) | (go_at_call 92; refine (HS.out _).mono ?_; rintro e ws ⟨rfl, hbs⟩; have hbs2 := below_step hbn2 hbs; clear n0 n1 n2 n3 n4 n5 n6 n7 n8 n9 n10 n11 n12 n13 d0 d1 d2 d3 d4 d5 d6 d7 d8 d9 d10 d11 d12 d13 hc1 e77 e80 e76; obtain ⟨_, s0, s1, s2, s3, s4, s5, s6, s7, s8, s9, s10, s11, s12, s13⟩ := HK.out ws hbs2; have g0 := HF3.out ws hbs2 0; have g1 := HF3.out ws hbs2 1; have g2 := HF3.out ws hbs2 2; have g3 := HF3.out ws hbs2 3; have g4 := HF3.out ws hbs2 4; have g5 := HF3.out ws hbs2 5; have g6 := HF3.out ws hbs2 6; have g7 := HF3.out ws hbs2 7; have g8 := HF3.out ws hbs2 8; have g9 := HF3.out ws hbs2 9; have g10 := HF3.out ws hbs2 10; have g11 := HF3.out ws hbs2 11; have g12 := HF3.out ws hbs2 12; have g13 := HF3.out ws hbs2 13)))
            go_wp2_with fail
            refine hK.out _ _ ?_ (fun hHeld => ?_)
            · ((try dsimp only); (first | with_reducible exact hc1 | with_reducible exact HK1.out _ (by assumption) | with_reducible exact HKS.out _ (by assumption) | go_keep))
            clear hK K
            (try simp only [Act.put, List.setIfInBounds_toArray, List.set_cons_zero, List.set_cons_succ])
            refine wpAnyH_ready (rs := [10]) (by kernel_rfl) (by simp) ?_
            refine held_cons rfl (fun K hK => ?_) (AllReadyH.nil)
            go_simp
            refine hK.out _ _ ?_ (fun hHeld => ?_)
            · ((try dsimp only); (first | with_reducible exact hc1 | with_reducible exact HK1.out _ (by assumption) | with_reducible exact HKS.out _ (by assumption) | go_keep))
            clear hK K
            (try simp only [Act.put, List.setIfInBounds_toArray, List.set_cons_zero, List.set_cons_succ])
            refine wpAnyH_done (by kernel_rfl) ?_ _
        rotate_left 2
        focus
          go_simp
          refine hK.out _ _ ?_ (fun hHeld => ?_)
          · ((try dsimp only); (first | with_reducible exact hc1 | with_reducible exact HK1.out _ (by assumption) | with_reducible exact HKS.out _ (by assumption) | go_keep))
          clear hK K
          (try simp only [Act.put, List.setIfInBounds_toArray, List.set_cons_zero, List.set_cons_succ])
          refine wpAnyH_ready (rs := [0, 8]) (by kernel_rfl) (by simp) ?_
          refine held_cons rfl (fun K hK => ?_) (held_cons rfl (fun K hK => ?_) (AllReadyH.nil))
          focus
            go_simp
            refine hK.out _ _ ?_ (fun hHeld => ?_)
            · ((try dsimp only); (first | with_reducible exact hc1 | with_reducible exact HK1.out _ (by assumption) | with_reducible exact HKS.out _ (by assumption) | go_keep))
            clear hK K
            (try simp only [Act.put, List.setIfInBounds_toArray, List.set_cons_zero, List.set_cons_succ])
            refine wpAnyH_ready (rs := [8]) (by kernel_rfl) (by simp) ?_
            refine held_cons rfl (fun K hK => ?_) (AllReadyH.nil)
            go_simp
            ((first | (go_at_call 93; refine (HN.out _).mono ?_; rintro e wn ⟨rfl, hbn⟩; have hbn2 := below_step ((Below.refl wr.heap.size wr).drew) hbn; obtain ⟨_, n0, n1, n2, n3, n4, n5, n6, n7, n8, n9, n10, n11, n12, n13⟩ := HK.out wn hbn2; clear hbn) | (go_at_call 92; refine (HS.out _).mono ?_; rintro e ws ⟨rfl, hbs⟩; have hbs2 := below_step hbn2 hbs; clear n0 n1 n2 n3 n4 n5 n6 n7 n8 n9 n10 n11 n12 n13 d0 d1 d2 d3 d4 d5 d6 d7 d8 d9 d10 d11 d12 d13 hc1 e77 e80 e76; obtain ⟨_, s0, s1, s2, s3, s4, s5, s6, s7, s8, s9, s10, s11, s12, s13⟩ := HK.out ws hbs2; have g0 := HF3.out ws hbs2 0; have g1 := HF3.out ws hbs2 1; have g2 := HF3.out ws hbs2 2; have g3 := HF3.out ws hbs2 3; have g4 := HF3.out ws hbs2 4; have g5 := HF3.out ws hbs2 5; have g6 := HF3.out ws hbs2 6; have g7 := HF3.out ws hbs2 7; have g8 := HF3.out ws hbs2 8; have g9 := HF3.out ws hbs2 9; have g10 := HF3.out ws hbs2 10; have g11 := HF3.out ws hbs2 11; have g12 := HF3.out ws hbs2 12; have g13 := HF3.out ws hbs2 13)))
            go_wp2_with fail
            refine hK.out _ _ ?_ (fun hHeld => ?_)
            · ((try dsimp only); (first | with_reducible exact hc1 | with_reducible exact HK1.out _ (by assumption) | with_reducible exact HKS.out _ (by assumption) | go_keep))
            clear hK K
            (try simp only [Act.put, List.setIfInBounds_toArray, List.set_cons_zero, List.set_cons_succ])
            refine wpAnyH_ready (rs := [9]) (by kernel_rfl) (by simp) ?_
            refine held_cons rfl (fun K hK => ?_) (AllReadyH.nil)
            go_simp
            ((first | (go_at_call 93; refine (HN.out _).mono ?_; rintro e wn ⟨rfl, hbn⟩; have hbn2 := below_step ((Below.refl wr.heap.size wr).drew) hbn; obtain ⟨_, n0, n1, n2, n3, n4, n5, n6, n7, n8, n9, n10, n11, n12, n13⟩ := HK.out wn hbn2; clear hbn) | (go_at_call 92; refine (HS.out _).mono ?_; rintro e ws ⟨rfl, hbs⟩; have hbs2 := below_step hbn2 hbs; clear n0 n1 n2 n3 n4 n5 n6 n7 n8 n9 n10 n11 n12 n13 d0 d1 d2 d3 d4 d5 d6 d7 d8 d9 d10 d11 d12 d13 hc1 e77 e80 e76; obtain ⟨_, s0, s1, s2, s3, s4, s5, s6, s7, s8, s9, s10, s11, s12, s13⟩ := HK.out ws hbs2; have g0 := HF3.out ws hbs2 0; have g1 := HF3.out ws hbs2 1; have g2 := HF3.out ws hbs2 2; have g3 := HF3.out ws hbs2 3; have g4 := HF3.out ws hbs2 4; have g5 := HF3.out ws hbs2 5; have g6 := HF3.out ws hbs2 6; have g7 := HF3.out ws hbs2 7; have g8 := HF3.out ws hbs2 8; have g9 := HF3.out ws hbs2 9; have g10 := HF3.out ws hbs2 10; have g11 := HF3.out ws hbs2 11; have g12 := HF3.out ws hbs2 12; have g13 := HF3.out ws hbs2 13)))
            go_wp2_with fail
            refine hK.out _ _ ?_ (fun hHeld => ?_)
            · ((try dsimp only); (first | with_reducible exact hc1 | with_reducible exact HK1.out _ (by assumption) | with_reducible exact HKS.out _ (by assumption) | go_keep))
            clear hK K
            (try simp only [Act.put, List.setIfInBounds_toArray, List.set_cons_zero, List.set_cons_succ])
            refine wpAnyH_ready (rs := [10]) (by kernel_rfl) (by simp) ?_
            refine held_cons rfl (fun K hK => ?_) (AllReadyH.nil)
            go_simp
            refine hK.out _ _ ?_ (fun hHeld => ?_)
            · ((try dsimp only); (first | with_reducible exact hc1 | with_reducible exact HK1.out _ (by assumption) | with_reducible exact HKS.out _ (by assumption) | go_keep))
            clear hK K
            (try simp only [Act.put, List.setIfInBounds_toArray, List.set_cons_zero, List.set_cons_succ])
            refine wpAnyH_done (by kernel_rfl) ?_ _
          rotate_left 1
          focus
            go_simp
            ((first | (go_at_call 93; refine (HN.out _).mono ?_; rintro e wn ⟨rfl, hbn⟩; have hbn2 := below_step ((Below.refl wr.heap.size wr).drew) hbn; obtain ⟨_, n0, n1, n2, n3, n4, n5, n6, n7, n8, n9, n10, n11, n12, n13⟩ := HK.out wn hbn2; clear hbn) | (go_at_call 92; refine (HS.out _).mono ?_; rintro e ws ⟨rfl, hbs⟩; have hbs2 := below_step hbn2 hbs; clear n0 n1 n2 n3 n4 n5 n6 n7 n8 n9 n10 n11 n12 n13 d0 d1 d2 d3 d4 d5 d6 d7 d8 d9 d10 d11 d12 d13 hc1 e77 e80 e76; obtain ⟨_, s0, s1, s2, s3, s4, s5, s6, s7, s8, s9, s10, s11, s12, s13⟩ := HK.out ws hbs2; have g0 := HF3.out ws hbs2 0; have g1 := HF3.out ws hbs2 1; have g2 := HF3.out ws hbs2 2; have g3 := HF3.out ws hbs2 3; have g4 := HF3.out ws hbs2 4; have g5 := HF3.out ws hbs2 5; have g6 := HF3.out ws hbs2 6; have g7 := HF3.out ws hbs2 7; have g8 := HF3.out ws hbs2 8; have g9 := HF3.out ws hbs2 9; have g10 := HF3.out ws hbs2 10; have g11 := HF3.out ws hbs2 11; have g12 := HF3.out ws hbs2 12; have g13 := HF3.out ws hbs2 13)))
            go_wp2_with fail
            refine hK.out _ _ ?_ (fun hHeld => ?_)
            · ((try dsimp only); (first | with_reducible exact hc1 | with_reducible exact HK1.out _ (by assumption) | with_reducible exact HKS.out _ (by assumption) | go_keep))
            clear hK K
            (try simp only [Act.put, List.setIfInBounds_toArray, List.set_cons_zero, List.set_cons_succ])
            refine wpAnyH_ready (rs := [0]) (by kernel_rfl) (by simp) ?_
            refine held_cons rfl (fun K hK => ?_) (AllReadyH.nil)
            go_simp
            refine hK.out _ _ ?_ (fun hHeld => ?_)
            · ((try dsimp only); (first | with_reducible exact hc1 | with_reducible exact HK1.out _ (by assumption) | with_reducible exact HKS.out _ (by assumption) | go_keep))
            clear hK K
            (try simp only [Act.put, List.setIfInBounds_toArray, List.set_cons_zero, List.set_cons_succ])
            refine wpAnyH_ready (rs := [9]) (by kernel_rfl) (by simp) ?_
            refine held_cons rfl (fun K hK => ?_) (AllReadyH.nil)
            go_simp
            ((first | (go_at_call 93; refine (HN.out _).mono ?_; rintro e wn ⟨rfl, hbn⟩; have hbn2 := below_step ((Below.refl wr.heap.size wr).drew) hbn; obtain ⟨_, n0, n1, n2, n3, n4, n5, n6, n7, n8, n9, n10, n11, n12, n13⟩ := HK.out wn hbn2; clear hbn) | (go_at_call 92; refine (HS.out _).mono ?_; rintro e ws ⟨rfl, hbs⟩; have hbs2 := below_step hbn2 hbs; clear n0 n1 n2 n3 n4 n5 n6 n7 n8 n9 n10 n11 n12 n13 d0 d1 d2 d3 d4 d5 d6 d7 d8 d9 d10 d11 d12 d13 hc1 e77 e80 e76; obtain ⟨_, s0, s1, s2, s3, s4, s5, s6, s7, s8, s9, s10, s11, s12, s13⟩ := HK.out ws hbs2; have g0 := HF3.out ws hbs2 0; have g1 := HF3.out ws hbs2 1; have g2 := HF3.out ws hbs2 2; have g3 := HF3.out ws hbs2 3; have g4 := HF3.out ws hbs2 4; have g5 := HF3.out ws hbs2 5; have g6 := HF3.out ws hbs2 6; have g7 := HF3.out ws hbs2 7; have g8 := HF3.out ws hbs2 8; have g9 := HF3.out ws hbs2 9; have g10 := HF3.out ws hbs2 10; have g11 := HF3.out ws hbs2 11; have g12 := HF3.out ws hbs2 12; have g13 := HF3.out ws hbs2 13)))
            go_wp2_with fail
            refine hK.out _ _ ?_ (fun hHeld => ?_)
            · ((try dsimp only); (first | with_reducible exact hc1 | with_reducible exact HK1.out _ (by assumption) | with_reducible exact HKS.out _ (by assumption) | go_keep))
            clear hK K
            (try simp only [Act.put, List.setIfInBounds_toArray, List.set_cons_zero, List.set_cons_succ])
            refine wpAnyH_ready (rs := [10]) (by kernel_rfl) (by simp) ?_
            refine held_cons rfl (fun K hK => ?_) (AllReadyH.nil)
            go_simp
            refine hK.out _ _ ?_ (fun hHeld => ?_)
            · ((try dsimp only); (first | with_reducible exact hc1 | with_reducible exact HK1.out _ (by assumption) | with_reducible exact HKS.out _ (by assumption) | go_keep))
            clear hK K
            (try simp only [Act.put, List.setIfInBounds_toArray, List.set_cons_zero, List.set_cons_succ])
            refine wpAnyH_done (by kernel_rfl) ?_ _
        rotate_left 2
        focus
          go_simp
          ((first | (go_at_call 93; refine (HN.out _).mono ?_; rintro e wn ⟨rfl, hbn⟩; have hbn2 := below_step ((Below.refl wr.heap.size wr).drew) hbn; obtain ⟨_, n0, n1, n2, n3, n4, n5, n6, n7, n8, n9, n10, n11, n12, n13⟩ := HK.out wn hbn2; clear hbn) | (go_at_call 92; refine (HS.out _).mono ?_; rintro e ws ⟨rfl, hbs⟩; have hbs2 := below_step hbn2 hbs; clear n0 n1 n2 n3 n4 n5 n6 n7 n8 n9 n10 n11 n12 n13 d0 d1 d2 d3 d4 d5 d6 d7 d8 d9 d10 d11 d12 d13 hc1 e77 e80 e76; obtain ⟨_, s0, s1, s2, s3, s4, s5, s6, s7, s8, s9, s10, s11, s12, s13⟩ := HK.out ws hbs2; have g0 := HF3.out ws hbs2 0; have g1 := HF3.out ws hbs2 1; have g2 := HF3.out ws hbs2 2; have g3 := HF3.out ws hbs2 3; have g4 := HF3.out ws hbs2 4; have g5 := HF3.out ws hbs2 5; have g6 := HF3.out ws hbs2 6; have g7 := HF3.out ws hbs2 7; have g8 := HF3.out ws hbs2 8; have g9 := HF3.out ws hbs2 9; have g10 := HF3.out ws hbs2 10; have g11 := HF3.out ws hbs2 11; have g12 := HF3.out ws hbs2 12; have g13 := HF3.out ws hbs2 13)))
          go_wp2_with fail
          refine hK.out _ _ ?_ (fun hHeld => ?_)
          · ((try dsimp only); (first | with_reducible exact hc1 | with_reducible exact HK1.out _ (by assumption) | with_reducible exact HKS.out _ (by assumption) | go_keep))
          clear hK K
          (try simp only [Act.put, List.setIfInBounds_toArray, List.set_cons_zero, List.set_cons_succ])
          refine wpAnyH_ready (rs := [0, 3]) (by kernel_rfl) (by simp) ?_
          refine held_cons rfl (fun K hK => ?_) (held_cons rfl (fun K hK => ?_) (AllReadyH.nil))
          focus
            go_simp
            refine hK.out _ _ ?_ (fun hHeld => ?_)
            · ((try dsimp only); (first | with_reducible exact hc1 | with_reducible exact HK1.out _ (by assumption) | with_reducible exact HKS.out _ (by assumption) | go_keep))
            clear hK K
            (try simp only [Act.put, List.setIfInBounds_toArray, List.set_cons_zero, List.set_cons_succ])
            refine wpAnyH_ready (rs := [3]) (by kernel_rfl) (by simp) ?_
            refine held_cons rfl (fun K hK => ?_) (AllReadyH.nil)
            go_simp
            refine hK.out _ _ ?_ (fun hHeld => ?_)
            · ((try dsimp only); (first | with_reducible exact hc1 | with_reducible exact HK1.out _ (by assumption) | with_reducible exact HKS.out _ (by assumption) | go_keep))
            clear hK K
            (try simp only [Act.put, List.setIfInBounds_toArray, List.set_cons_zero, List.set_cons_succ])
            refine wpAnyH_ready (rs := [9]) (by kernel_rfl) (by simp) ?_
            refine held_cons rfl (fun K hK => ?_) (AllReadyH.nil)
            go_simp
            ((first | (go_at_call 93; refine (HN.out _).mono ?_; rintro e wn ⟨rfl, hbn⟩; have hbn2 := below_step ((Below.refl wr.heap.size wr).drew) hbn; obtain ⟨_, n0, n1, n2, n3, n4, n5, n6, n7, n8, n9, n10, n11, n12, n13⟩ := HK.out wn hbn2; clear hbn) | (go_at_call 92; refine (HS.out _).mono ?_; rintro e ws ⟨rfl, hbs⟩; have hbs2 := below_step hbn2 hbs; clear n0 n1 n2 n3 n4 n5 n6 n7 n8 n9 n10 n11 n12 n13 d0 d1 d2 d3 d4 d5 d6 d7 d8 d9 d10 d11 d12 d13 hc1 e77 e80 e76; obtain ⟨_, s0, s1, s2, s3, s4, s5, s6, s7, s8, s9, s10, s11, s12, s13⟩ := HK.out ws hbs2; have g0 := HF3.out ws hbs2 0; have g1 := HF3.out ws hbs2 1; have g2 := HF3.out ws hbs2 2; have g3 := HF3.out ws hbs2 3; have g4 := HF3.out ws hbs2 4; have g5 := HF3.out ws hbs2 5; have g6 := HF3.out ws hbs2 6; have g7 := HF3.out ws hbs2 7; have g8 := HF3.out ws hbs2 8; have g9 := HF3.out ws hbs2 9; have g10 := HF3.out ws hbs2 10; have g11 := HF3.out ws hbs2 11; have g12 := HF3.out ws hbs2 12; have g13 := HF3.out ws hbs2 13)))
            go_wp2_with fail
            refine hK.out _ _ ?_ (fun hHeld => ?_)
            · ((try dsimp only); (first | with_reducible exact hc1 | with_reducible exact HK1.out _ (by assumption) | with_reducible exact HKS.out _ (by assumption) | go_keep))
            clear hK K
            (try simp only [Act.put, List.setIfInBounds_toArray, List.set_cons_zero, List.set_cons_succ])
            refine wpAnyH_ready (rs := [10]) (by kernel_rfl) (by simp) ?_
            refine held_cons rfl (fun K hK => ?_) (AllReadyH.nil)
            go_simp
            refine hK.out _ _ ?_ (fun hHeld => ?_)
            · ((try dsimp only); (first | with_reducible exact hc1 | with_reducible exact HK1.out _ (by assumption) | with_reducible exact HKS.out _ (by assumption) | go_keep))
            clear hK K
            (try simp only [Act.put, List.setIfInBounds_toArray, List.set_cons_zero, List.set_cons_succ])
            refine wpAnyH_done (by kernel_rfl) ?_ _
          rotate_left 1
          focus
            go_simp
            refine hK.out _ _ ?_ (fun hHeld => ?_)
            · ((try dsimp only); (first | with_reducible exact hc1 | with_reducible exact HK1.out _ (by assumption) | with_reducible exact HKS.out _ (by assumption) | go_keep))
            clear hK K
            (try simp only [Act.put, List.setIfInBounds_toArray, List.set_cons_zero, List.set_cons_succ])
            refine wpAnyH_ready (rs := [0]) (by kernel_rfl) (by simp) ?_
            refine held_cons rfl (fun K hK => ?_) (AllReadyH.nil)
            go_simp
            refine hK.out _ _ ?_ (fun hHeld => ?_)
            · ((try dsimp only); (first | with_reducible exact hc1 | with_reducible exact HK1.out _ (by assumption) | with_reducible exact HKS.out _ (by assumption) | go_keep))
            clear hK K
            (try simp only [Act.put, List.setIfInBounds_toArray, List.set_cons_zero, List.set_cons_succ])
            refine wpAnyH_ready (rs := [9]) (by kernel_rfl) (by simp) ?_
            refine held_cons rfl (fun K hK => ?_) (AllReadyH.nil)
            go_simp
            ((first | (go_at_call 93; refine (HN.out _).mono ?_; rintro e wn ⟨rfl, hbn⟩; have hbn2 := below_step ((Below.refl wr.heap.size wr).drew) hbn; obtain ⟨_, n0, n1, n2, n3, n4, n5, n6, n7, n8, n9, n10, n11, n12, n13⟩ := HK.out wn hbn2; clear hbn) | (go_at_call 92; refine (HS.out _).mono ?_; rintro e ws ⟨rfl, hbs⟩; have hbs2 := below_step hbn2 hbs; clear n0 n1 n2 n3 n4 n5 n6 n7 n8 n9 n10 n11 n12 n13 d0 d1 d2 d3 d4 d5 d6 d7 d8 d9 d10 d11 d12 d13 hc1 e77 e80 e76; obtain ⟨_, s0, s1, s2, s3, s4, s5, s6, s7, s8, s9, s10, s11, s12, s13⟩ := HK.out ws hbs2; have g0 := HF3.out ws hbs2 0; have g1 := HF3.out ws hbs2 1; have g2 := HF3.out ws hbs2 2; have g3 := HF3.out ws hbs2 3; have g4 := HF3.out ws hbs2 4; have g5 := HF3.out ws hbs2 5; have g6 := HF3.out ws hbs2 6; have g7 := HF3.out ws hbs2 7; have g8 := HF3.out ws hbs2 8; have g9 := HF3.out ws hbs2 9; have g10 := HF3.out ws hbs2 10; have g11 := HF3.out ws hbs2 11; have g12 := HF3.out ws hbs2 12; have g13 := HF3.out ws hbs2 13)))
            go_wp2_with fail
            refine hK.out _ _ ?_ (fun hHeld => ?_)
            · ((try dsimp only); (first | with_reducible exact hc1 | with_reducible exact HK1.out _ (by assumption) | with_reducible exact HKS.out _ (by assumption) | go_keep))
            clear hK K
            (try simp only [Act.put, List.setIfInBounds_toArray, List.set_cons_zero, List.set_cons_succ])
            refine wpAnyH_ready (rs := [10]) (by kernel_rfl) (by simp) ?_
            refine held_cons rfl (fun K hK => ?_) (AllReadyH.nil)
            go_simp
            refine hK.out _ _ ?_ (fun hHeld => ?_)
            · ((try dsimp only); (first | with_reducible exact hc1 | with_reducible exact HK1.out _ (by assumption) | with_reducible exact HKS.out _ (by assumption) | go_keep))
            clear hK K
            (try simp only [Act.put, List.setIfInBounds_toArray, List.set_cons_zero, List.set_cons_succ])
            refine wpAnyH_done (by kernel_rfl) ?_ _
      all_goals (refine NoPanic.normal ?_)
      all_goals
        have H1n := Lib.hid (show Blk ((((((((((((((ws.setCell ⟨g, 0, none⟩ (.int .i64 2)).setCell ⟨g, 1, none⟩ (.int .i64 a)).setCell ⟨g, 2, none⟩ (.int .i64 v)).setCell ⟨g, 3, none⟩ (.int .i64 bal)).setCell ⟨g, 4, none⟩ (.int .i64 0)).setCell ⟨g, 5, none⟩ (.int .i64 0)).setCell ⟨g, 6, none⟩ (.int .i64 0)).setCell ⟨g, 7, none⟩ (.int .i64 0)).setCell ⟨g, 8, none⟩ (.int .i64 0)).setCell ⟨g, 9, none⟩ (.string ⟨#[]⟩)).setCell ⟨g, 10, none⟩ (.int .i64 0)).setCell ⟨g, 11, none⟩ (.int .i64 0)).setCell ⟨g, 12, none⟩ (.string ⟨#[]⟩)).setCell ⟨g, 13, none⟩ (.slice none 0 0)) q (msgVals 2 a v bal) 61 from (((((((((((((((H1.out.below hbs2).set_other (a := ⟨g, 0, none⟩) (Ne.symm hne) (.int .i64 2)).set_other (a := ⟨g, 1, none⟩) (Ne.symm hne) (.int .i64 a)).set_other (a := ⟨g, 2, none⟩) (Ne.symm hne) (.int .i64 v)).set_other (a := ⟨g, 3, none⟩) (Ne.symm hne) (.int .i64 bal)).set_other (a := ⟨g, 4, none⟩) (Ne.symm hne) (.int .i64 0)).set_other (a := ⟨g, 5, none⟩) (Ne.symm hne) (.int .i64 0)).set_other (a := ⟨g, 6, none⟩) (Ne.symm hne) (.int .i64 0)).set_other (a := ⟨g, 7, none⟩) (Ne.symm hne) (.int .i64 0)).set_other (a := ⟨g, 8, none⟩) (Ne.symm hne) (.int .i64 0)).set_other (a := ⟨g, 9, none⟩) (Ne.symm hne) (.string ⟨#[]⟩)).set_other (a := ⟨g, 10, none⟩) (Ne.symm hne) (.int .i64 0)).set_other (a := ⟨g, 11, none⟩) (Ne.symm hne) (.int .i64 0)).set_other (a := ⟨g, 12, none⟩) (Ne.symm hne) (.string ⟨#[]⟩)).set_other (a := ⟨g, 13, none⟩) (Ne.symm hne) (.slice none 0 0)))
        have H2n := Lib.hid (show Blk ((((((((((((((ws.setCell ⟨g, 0, none⟩ (.int .i64 2)).setCell ⟨g, 1, none⟩ (.int .i64 a)).setCell ⟨g, 2, none⟩ (.int .i64 v)).setCell ⟨g, 3, none⟩ (.int .i64 bal)).setCell ⟨g, 4, none⟩ (.int .i64 0)).setCell ⟨g, 5, none⟩ (.int .i64 0)).setCell ⟨g, 6, none⟩ (.int .i64 0)).setCell ⟨g, 7, none⟩ (.int .i64 0)).setCell ⟨g, 8, none⟩ (.int .i64 0)).setCell ⟨g, 9, none⟩ (.string ⟨#[]⟩)).setCell ⟨g, 10, none⟩ (.int .i64 0)).setCell ⟨g, 11, none⟩ (.int .i64 0)).setCell ⟨g, 12, none⟩ (.string ⟨#[]⟩)).setCell ⟨g, 13, none⟩ (.slice none 0 0)) (q + 1) (msgVals 0 0 0 0) 61 from (((((((((((((((H2.out.below hbs2).set_other (a := ⟨g, 0, none⟩) (Ne.symm hne2) (.int .i64 2)).set_other (a := ⟨g, 1, none⟩) (Ne.symm hne2) (.int .i64 a)).set_other (a := ⟨g, 2, none⟩) (Ne.symm hne2) (.int .i64 v)).set_other (a := ⟨g, 3, none⟩) (Ne.symm hne2) (.int .i64 bal)).set_other (a := ⟨g, 4, none⟩) (Ne.symm hne2) (.int .i64 0)).set_other (a := ⟨g, 5, none⟩) (Ne.symm hne2) (.int .i64 0)).set_other (a := ⟨g, 6, none⟩) (Ne.symm hne2) (.int .i64 0)).set_other (a := ⟨g, 7, none⟩) (Ne.symm hne2) (.int .i64 0)).set_other (a := ⟨g, 8, none⟩) (Ne.symm hne2) (.int .i64 0)).set_other (a := ⟨g, 9, none⟩) (Ne.symm hne2) (.string ⟨#[]⟩)).set_other (a := ⟨g, 10, none⟩) (Ne.symm hne2) (.int .i64 0)).set_other (a := ⟨g, 11, none⟩) (Ne.symm hne2) (.int .i64 0)).set_other (a := ⟨g, 12, none⟩) (Ne.symm hne2) (.string ⟨#[]⟩)).set_other (a := ⟨g, 13, none⟩) (Ne.symm hne2) (.slice none 0 0)))
        have H3n := Lib.hid (show Blk ((((((((((((((ws.setCell ⟨g, 0, none⟩ (.int .i64 2)).setCell ⟨g, 1, none⟩ (.int .i64 a)).setCell ⟨g, 2, none⟩ (.int .i64 v)).setCell ⟨g, 3, none⟩ (.int .i64 bal)).setCell ⟨g, 4, none⟩ (.int .i64 0)).setCell ⟨g, 5, none⟩ (.int .i64 0)).setCell ⟨g, 6, none⟩ (.int .i64 0)).setCell ⟨g, 7, none⟩ (.int .i64 0)).setCell ⟨g, 8, none⟩ (.int .i64 0)).setCell ⟨g, 9, none⟩ (.string ⟨#[]⟩)).setCell ⟨g, 10, none⟩ (.int .i64 0)).setCell ⟨g, 11, none⟩ (.int .i64 0)).setCell ⟨g, 12, none⟩ (.string ⟨#[]⟩)).setCell ⟨g, 13, none⟩ (.slice none 0 0)) g (msgVals 2 a v (if k + 1 = 0 then 0 else bal)) 61 by rw [if_neg (Nat.succ_ne_zero k)]; exact (((((((((((((((H3.out.below hbs2).set 0 (.int .i64 2)).set 1 (.int .i64 a)).set 2 (.int .i64 v)).set 3 (.int .i64 bal)).set 4 (.int .i64 0)).set 5 (.int .i64 0)).set 6 (.int .i64 0)).set 7 (.int .i64 0)).set 8 (.int .i64 0)).set 9 (.string ⟨#[]⟩)).set 10 (.int .i64 0)).set 11 (.int .i64 0)).set 12 (.string ⟨#[]⟩)).set 13 (.slice none 0 0)))
        have hbn := (((((((((((((((hbr.trans (hbs2.mono hbr.size)).setCell (p := ⟨g, 0, none⟩) hqw (.int .i64 2)).setCell (p := ⟨g, 1, none⟩) hqw (.int .i64 a)).setCell (p := ⟨g, 2, none⟩) hqw (.int .i64 v)).setCell (p := ⟨g, 3, none⟩) hqw (.int .i64 bal)).setCell (p := ⟨g, 4, none⟩) hqw (.int .i64 0)).setCell (p := ⟨g, 5, none⟩) hqw (.int .i64 0)).setCell (p := ⟨g, 6, none⟩) hqw (.int .i64 0)).setCell (p := ⟨g, 7, none⟩) hqw (.int .i64 0)).setCell (p := ⟨g, 8, none⟩) hqw (.int .i64 0)).setCell (p := ⟨g, 9, none⟩) hqw (.string ⟨#[]⟩)).setCell (p := ⟨g, 10, none⟩) hqw (.int .i64 0)).setCell (p := ⟨g, 11, none⟩) hqw (.int .i64 0)).setCell (p := ⟨g, 12, none⟩) hqw (.string ⟨#[]⟩)).setCell (p := ⟨g, 13, none⟩) hqw (.slice none 0 0))
        clear H1 H2 H3 HK HK1 HKS HF3 HN HS hbs hbs2 hbr s0 s1 s2 s3 s4 s5 s6 s7 s8 s9 s10 s11 s12 s13 g0 g1 g2 g3 g4 g5 g6 g7 g8 g9 g10 g11 g12 g13
        go_wp2_with fail
        go_roundw
        case rel => exact ⟨k + 1, by go_num, by omega, H1n, H2n, H3n, hbn⟩
        case measure => simp [intOf]; omega
    · have hk0 : ¬ k = 0 := by omega
      rw [if_neg hk0] at H3
      by_cases h4 : k = 3
      · subst h4
        have fl : wr.frozen? ⟨g, 13, none⟩ = false := H3.out.free 13
        have dl : wr.cell? ⟨g, 13, none⟩ = some (.slice none 0 0) := H3.out.cell 13
        have ql : wr.cell? ⟨q, 13, none⟩ = some (.slice none 0 0) := H1.out.cell 13
        have H1n := Lib.hid (show Blk (wr.setCell ⟨g, 13, none⟩ (.slice none 0 0)) q (msgVals 2 a v bal) 61 from H1.out.set_other (a := ⟨g, 13, none⟩) (Ne.symm hne) _)
        have H2n := Lib.hid (show Blk (wr.setCell ⟨g, 13, none⟩ (.slice none 0 0)) (q + 1) (msgVals 0 0 0 0) 61 from H2.out.set_other (a := ⟨g, 13, none⟩) (Ne.symm hne2) _)
        have H3n := Lib.hid (show Blk (wr.setCell ⟨g, 13, none⟩ (.slice none 0 0)) g (msgVals 2 a v (if 3 + 1 = 0 then 0 else bal)) 61 from H3.out.set 13 (.slice none 0 0))
        have hbn := hbr.setCell (p := ⟨g, 13, none⟩) hqw (.slice none 0 0)
        clear H1 H2 H3 hbr
        go_wp2_with fail
        go_roundw
        case rel => exact ⟨4, by go_num, by omega, H1n, H2n, H3n, hbn⟩
        case measure => simp [intOf]
      · obtain rfl : k = 4 := by omega
        have HHd := H3.out
        have HHy := H2.out
        have d0 : wr.cell? ⟨g, 0, none⟩ = some (.int .i64 2) := HHd.cell 0
        have d1 : wr.cell? ⟨g, 1, none⟩ = some (.int .i64 a) := HHd.cell 1
        have d2 : wr.cell? ⟨g, 2, none⟩ = some (.int .i64 v) := HHd.cell 2
        have d3 : wr.cell? ⟨g, 3, none⟩ = some (.int .i64 bal) := HHd.cell 3
        have d4 : wr.cell? ⟨g, 4, none⟩ = some (.int .i64 0) := HHd.cell 4
        have d5 : wr.cell? ⟨g, 5, none⟩ = some (.int .i64 0) := HHd.cell 5
        have d6 : wr.cell? ⟨g, 6, none⟩ = some (.int .i64 0) := HHd.cell 6
        have d7 : wr.cell? ⟨g, 7, none⟩ = some (.int .i64 0) := HHd.cell 7
        have d8 : wr.cell? ⟨g, 8, none⟩ = some (.int .i64 0) := HHd.cell 8
        have d9 : wr.cell? ⟨g, 9, none⟩ = some (.string ⟨#[]⟩) := HHd.cell 9
        have d10 : wr.cell? ⟨g, 10, none⟩ = some (.int .i64 0) := HHd.cell 10
        have d11 : wr.cell? ⟨g, 11, none⟩ = some (.int .i64 0) := HHd.cell 11
        have d12 : wr.cell? ⟨g, 12, none⟩ = some (.string ⟨#[]⟩) := HHd.cell 12
        have d13 : wr.cell? ⟨g, 13, none⟩ = some (.slice none 0 0) := HHd.cell 13
        have y0 : wr.cell? ⟨q + 1, 0, none⟩ = some (.int .i64 0) := HHy.cell 0
        have y1 : wr.cell? ⟨q + 1, 1, none⟩ = some (.int .i64 0) := HHy.cell 1
        have y2 : wr.cell? ⟨q + 1, 2, none⟩ = some (.int .i64 0) := HHy.cell 2
        have y3 : wr.cell? ⟨q + 1, 3, none⟩ = some (.int .i64 0) := HHy.cell 3
        have y4 : wr.cell? ⟨q + 1, 4, none⟩ = some (.int .i64 0) := HHy.cell 4
        have y5 : wr.cell? ⟨q + 1, 5, none⟩ = some (.int .i64 0) := HHy.cell 5
        have y6 : wr.cell? ⟨q + 1, 6, none⟩ = some (.int .i64 0) := HHy.cell 6
        have y7 : wr.cell? ⟨q + 1, 7, none⟩ = some (.int .i64 0) := HHy.cell 7
        have y8 : wr.cell? ⟨q + 1, 8, none⟩ = some (.int .i64 0) := HHy.cell 8
        have y9 : wr.cell? ⟨q + 1, 9, none⟩ = some (.string ⟨#[]⟩) := HHy.cell 9
        have y10 : wr.cell? ⟨q + 1, 10, none⟩ = some (.int .i64 0) := HHy.cell 10
        have y11 : wr.cell? ⟨q + 1, 11, none⟩ = some (.int .i64 0) := HHy.cell 11
        have y12 : wr.cell? ⟨q + 1, 12, none⟩ = some (.string ⟨#[]⟩) := HHy.cell 12
        have y13 : wr.cell? ⟨q + 1, 13, none⟩ = some (.slice none 0 0) := HHy.cell 13
        have fy : ∀ j, wr.frozen? ⟨q + 1, j, none⟩ = false := fun j => HHy.free j
        have hqw1 : w.heap.size ≤ q + 1 := by have := Hq.out; omega
        have HB := Lib.hid ((((((((((((((hbr.setCell (p := ⟨q + 1, 0, none⟩) hqw1 (.int .i64 2)).setCell (p := ⟨q + 1, 1, none⟩) hqw1 (.int .i64 a)).setCell (p := ⟨q + 1, 2, none⟩) hqw1 (.int .i64 v)).setCell (p := ⟨q + 1, 3, none⟩) hqw1 (.int .i64 bal)).setCell (p := ⟨q + 1, 4, none⟩) hqw1 (.int .i64 0)).setCell (p := ⟨q + 1, 5, none⟩) hqw1 (.int .i64 0)).setCell (p := ⟨q + 1, 6, none⟩) hqw1 (.int .i64 0)).setCell (p := ⟨q + 1, 7, none⟩) hqw1 (.int .i64 0)).setCell (p := ⟨q + 1, 8, none⟩) hqw1 (.int .i64 0)).setCell (p := ⟨q + 1, 9, none⟩) hqw1 (.string ⟨#[]⟩)).setCell (p := ⟨q + 1, 10, none⟩) hqw1 (.int .i64 0)).setCell (p := ⟨q + 1, 11, none⟩) hqw1 (.int .i64 0)).setCell (p := ⟨q + 1, 12, none⟩) hqw1 (.string ⟨#[]⟩)).setCell (p := ⟨q + 1, 13, none⟩) hqw1 (.slice none 0 0))
        clear H1 H2 H3 hbr HHd HHy
        go_wp2_with fail
        refine bodyPost_ret (v := .agg #[.int .i64 2, .int .i64 a, .int .i64 v, .int .i64 bal, .int .i64 0, .int .i64 0, .int .i64 0, .int .i64 0, .int .i64 0, .string ⟨#[]⟩, .int .i64 0, .int .i64 0, .string ⟨#[]⟩, .slice none 0 0]) ?_ rfl ⟨rfl, HB.out⟩
        simp [results, Tryz.results59, go_sem, y0, y1, y2, y3, y4, y5, y6, y7, y8, y9, y10, y11, y12, y13]
end Go.Proofs.YtmmnaieikfekfaaGreatDoor
