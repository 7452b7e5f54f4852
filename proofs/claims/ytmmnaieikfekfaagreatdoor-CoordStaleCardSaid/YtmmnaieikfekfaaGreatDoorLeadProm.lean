/- The walks of prunedBy and Handle at a promise while the coordinator leads and knows nothing. No condition. -/
import Derived.Test.YtmmnaieikfekfaaGreatDoorFlat3
namespace Go.Proofs.YtmmnaieikfekfaaGreatDoor
open Go Go.RowKit
set_option linter.unusedVariables false

set_option maxRecDepth 100000 in
set_option maxHeartbeats 2000000 in
theorem prunedBy_prom (c : Nat) (v id bal : Int) (w : World) :
    Calls Tryz.prog 48 #[.pointer (some ⟨c, 0, none⟩), .agg #[.int .i64 2, .int .i64 v, .int .i64 id, .int .i64 bal, .int .i64 0, .int .i64 0, .int .i64 0, .int .i64 0, .int .i64 0, .string ⟨#[]⟩, .int .i64 0, .int .i64 0, .string ⟨#[]⟩, .slice none 0 0]] w fun e w' => e = .returned (.tuple #[]) ∧ Below w.heap.size w w' := by
  have HB := Lib.hid ((Below.refl w.heap.size w).alloc (Nat.le_refl _) (.cells #[.int .i64 2, .int .i64 v, .int .i64 id, .int .i64 bal, .int .i64 0, .int .i64 0, .int .i64 0, .int .i64 0, .int .i64 0, .string ⟨#[]⟩, .int .i64 0, .int .i64 0, .string ⟨#[]⟩, .slice none 0 0] 61))
  go_enter Tryz.func48, Tryz.ntmps48
  go_wp2
  go_quiet (fail)
  go_wp2
  refine bodyPost_ret (results_none rfl _ _ _) rfl ?_
  exact ⟨rfl, below_drewN HB.out _⟩
set_option maxRecDepth 100000 in
set_option maxHeartbeats 4000000 in
theorem handle_lead (c v : Nat) (S : CSt) (qs : List Peer) (w : World) (h : CoordAt w c S) (hL : LeadS S qs) (hv : v < 3) :
    Calls Tryz.prog 25 #[.pointer (some ⟨c, 0, none⟩), .agg #[.int .i64 2, .int .i64 (v : Int), .int .i64 S.id, .int .i64 S.ballot, .int .i64 0, .int .i64 0, .int .i64 0, .int .i64 0, .int .i64 0, .string ⟨#[]⟩, .int .i64 0, .int .i64 0, .string ⟨#[]⟩, .slice none 0 0]] w fun e w' => e = .returned (.tuple #[]) ∧ (∃ S' qs', CoordAt w' c S' ∧ LeadS S' qs' ∧ S'.id = S.id ∧ S'.ballot = S.ballot ∧ S'.answer = S.answer) ∧ Touch (fun k => k = c) w w' := by
  have hbl := h.1.lt
  have c0 : w.cell? ⟨c, 0, none⟩ = some (.int .i64 S.id) := h.hd 0 (by omega)
  have c1 : w.cell? ⟨c, 1, none⟩ = some (.int .i64 3) := by rw [← hL.n]; exact h.hd 1 (by omega)
  have c3 : w.cell? ⟨c, 3, none⟩ = some (.int .i64 S.ballot) := h.hd 3 (by omega)
  have c4 : w.cell? ⟨c, 4, none⟩ = some (.int .i64 2) := by rw [← hL.phase]; exact h.hd 4 (by omega)
  have hvq : v < qs.length := by rw [hL.len]; omega
  have HL := Lib.hid hL
  have Hn := Lib.hid (show 1 ≤ S.n by rw [hL.n]; omega)
  have Hat1 := Lib.hid (h.alloc (.cells #[.int .i64 2, .int .i64 (v : Int), .int .i64 S.id, .int .i64 S.ballot, .int .i64 0, .int .i64 0, .int .i64 0, .int .i64 0, .int .i64 0, .string ⟨#[]⟩, .int .i64 0, .int .i64 0, .string ⟨#[]⟩, .slice none 0 0] 61))
  have HM := Lib.hid (Blk.new w [.int .i64 2, .int .i64 (v : Int), .int .i64 S.id, .int .i64 S.ballot, .int .i64 0, .int .i64 0, .int .i64 0, .int .i64 0, .int .i64 0, .string ⟨#[]⟩, .int .i64 0, .int .i64 0, .string ⟨#[]⟩, .slice none 0 0] 61)
  have HB := Lib.hid ((Below.refl w.heap.size w).alloc (Nat.le_refl _) (.cells #[.int .i64 2, .int .i64 (v : Int), .int .i64 S.id, .int .i64 S.ballot, .int .i64 0, .int .i64 0, .int .i64 0, .int .i64 0, .int .i64 0, .string ⟨#[]⟩, .int .i64 0, .int .i64 0, .string ⟨#[]⟩, .slice none 0 0] 61))
  have e1 : (S.id != S.id) = false := by simp
  have e2 : (S.ballot != S.ballot) = false := by simp
  have hv0 : ¬ (v : Int) < 0 := by omega
  have hv3 : (v : Int) < 3 := by omega
  have hFar := Lib.hid (show ∀ w1, CoordAt w1 c S → Calls Tryz.prog 47 #[.pointer (some ⟨c, 0, none⟩), .agg #[.int .i64 2, .int .i64 (v : Int), .int .i64 S.id, .int .i64 S.ballot, .int .i64 0, .int .i64 0, .int .i64 0, .int .i64 0, .int .i64 0, .string ⟨#[]⟩, .int .i64 0, .int .i64 0, .string ⟨#[]⟩, .slice none 0 0]] w1 fun e w' => e = .returned (.tuple #[]) ∧ (∃ S' qs', CoordAt w' c S' ∧ LeadS S' qs' ∧ S'.id = S.id ∧ S'.ballot = S.ballot ∧ S'.answer = S.answer) ∧ Touch (fun k => k = c) w1 w' from fun w1 h1 => (far_any c S qs v 2 S.id S.ballot 0 0 0 0 0 0 0 ⟨#[]⟩ ⟨#[]⟩ (.slice none 0 0) w1 h1 hL.peers hL.len (by omega)).mono (fun e w' ⟨he, hC, hT⟩ =>
    ⟨he, ⟨_, _, hC, ⟨hL.n, hL.phase, hL.floor, hL.top, hL.again, hL.job, hL.fetch, hL.call, rfl, by rw [List.length_set]; exact hL.len, flatQ_set hL.flat v _ (farPeer_flat (hL.flat _ (List.getElem_mem hvq)))⟩, rfl, rfl, rfl⟩, hT⟩))
  clear h hL
  go_enter Tryz.func25, Tryz.ntmps25
  go_wp2
  go_quiet ((go_at_call 32; first | exact quiet_left (none_any c S _ (Hat1.out.drewN _) Hn.out) | exact quiet_add_left (none_any c S _ (Hat1.out.drewN _) Hn.out)))
  go_wp2
  go_quiet (fail)
  go_wp2_with fail
  have M1 := HM.out
  have B1 := HB.out
  have A1 := Hat1.out
  generalize hw1 : (w.alloc (.cells #[.int .i64 2, .int .i64 (v : Int), .int .i64 S.id, .int .i64 S.ballot, .int .i64 0, .int .i64 0, .int .i64 0, .int .i64 0, .int .i64 0, .string ⟨#[]⟩, .int .i64 0, .int .i64 0, .string ⟨#[]⟩, .slice none 0 0] 61)) = w0 at M1 B1 A1 ⊢
  generalize hnn : w0.drewN _ = nn
  have HM1 := Lib.hid (show Blk nn w.heap.size [.int .i64 2, .int .i64 (v : Int), .int .i64 S.id, .int .i64 S.ballot, .int .i64 0, .int .i64 0, .int .i64 0, .int .i64 0, .int .i64 0, .string ⟨#[]⟩, .int .i64 0, .int .i64 0, .string ⟨#[]⟩, .slice none 0 0] 61 by rw [← hnn]; exact M1.drewN _)
  have HB1 := Lib.hid (show Below w.heap.size w nn by rw [← hnn]; exact below_drewN B1 _)
  have HA1 := Lib.hid (show CoordAt nn c S by rw [← hnn]; exact A1.drewN _)
  clear hnn hw1 M1 B1 A1 HM HB Hat1
  refine (hFar.out nn HA1.out).mono ?_
  rintro e w2 ⟨rfl, hS, hT⟩
  have HS := Lib.hid hS
  have hcq : c ≠ w.heap.size := by omega
  obtain ⟨q, hq⟩ : ∃ q, q = w.heap.size := ⟨_, rfl⟩
  rw [← hq] at HM1 hcq ⊢
  have HM2 := Lib.hid (HM1.out.touch hT (Ne.symm hcq))
  have HT2 := Lib.hid ((Touch.of_below (S := fun k => k = c) HB1.out).trans hT)
  have y0 : w2.cell? ⟨q, 0, none⟩ = some (.int .i64 2) := HM2.out.cell 0
  have y1 : w2.cell? ⟨q, 1, none⟩ = some (.int .i64 (v : Int)) := HM2.out.cell 1
  have y2 : w2.cell? ⟨q, 2, none⟩ = some (.int .i64 S.id) := HM2.out.cell 2
  have y3 : w2.cell? ⟨q, 3, none⟩ = some (.int .i64 S.ballot) := HM2.out.cell 3
  have y4 : w2.cell? ⟨q, 4, none⟩ = some (.int .i64 0) := HM2.out.cell 4
  have y5 : w2.cell? ⟨q, 5, none⟩ = some (.int .i64 0) := HM2.out.cell 5
  have y6 : w2.cell? ⟨q, 6, none⟩ = some (.int .i64 0) := HM2.out.cell 6
  have y7 : w2.cell? ⟨q, 7, none⟩ = some (.int .i64 0) := HM2.out.cell 7
  have y8 : w2.cell? ⟨q, 8, none⟩ = some (.int .i64 0) := HM2.out.cell 8
  have y9 : w2.cell? ⟨q, 9, none⟩ = some (.string ⟨#[]⟩) := HM2.out.cell 9
  have y10 : w2.cell? ⟨q, 10, none⟩ = some (.int .i64 0) := HM2.out.cell 10
  have y11 : w2.cell? ⟨q, 11, none⟩ = some (.int .i64 0) := HM2.out.cell 11
  have y12 : w2.cell? ⟨q, 12, none⟩ = some (.string ⟨#[]⟩) := HM2.out.cell 12
  have y13 : w2.cell? ⟨q, 13, none⟩ = some (.slice none 0 0) := HM2.out.cell 13
  clear hS hT hFar HM1 HB1 HA1 hq
  go_wp2_with fail
  refine (prunedBy_prom c (v : Int) S.id S.ballot _).mono ?_
  rintro e w3 ⟨rfl, hb3⟩
  have HT3 := Lib.hid (HT2.out.trans (Touch.of_below hb3))
  have HS3 := Lib.hid (show ∃ S' qs', CoordAt w3 c S' ∧ LeadS S' qs' ∧ S'.id = S.id ∧ S'.ballot = S.ballot ∧ S'.answer = S.answer from by
    obtain ⟨S', qs', h1, h2⟩ := HS.out
    exact ⟨S', qs', h1.below hb3, h2⟩)
  go_wp2_with fail
  go_end0
  exact ⟨rfl, HS3.out, HT3.out⟩
end Go.Proofs.YtmmnaieikfekfaaGreatDoor
