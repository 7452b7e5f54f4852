/- The walk of the statement's sends: all that asks for promises is as it must be. Conditions: the coordinator's number and ballot are in range. -/
import Derived.Test.YtmmnaieikfekfaaGreatDoorMsgRight
import Derived.Test.YtmmnaieikfekfaaGreatDoorNack
import Derived.Test.YtmmnaieikfekfaaGreatDoorFlat3
import Derived.Deep.RegionHeld3
namespace Go.Proofs.YtmmnaieikfekfaaGreatDoor
open Go Go.RowKit
set_option linter.unusedVariables false

def worldV' (c bk : Nat) (id n : Int) (sv av : Value) : List Value := [.pointer (some ⟨c, 0, none⟩), .pointer (some ⟨bk, 0, none⟩), .int .i64 id, .int .i64 n, sv, av, .int .i64 0]
set_option maxRecDepth 100000 in
set_option maxHeartbeats 8000000 in
theorem sends_prep (wb c bk B : Nat) (sa : Option Addr) (sc : Nat) (av : Value) (L : List Nat) (S : CSt) (w : World)
    (hW : Blk w wb (worldV' c bk S.id 3 (.slice sa L.length sc) av) 49) (hC : CoordAt w c S) (hn : 1 ≤ S.n) (hid : 0 ≤ S.id ∧ S.id ≤ 255) (hbal : 0 ≤ S.ballot ∧ S.ballot ≤ 4611686018427387903)
    (hS : w.ownsRow B 61 14 (.slice sa L.length sc) L.length (askVals S L)) (hL : ∀ v ∈ L, v < 3) (hl : L.length ≤ 1000) :
    Calls Tryz.prog 57 #[.pointer (some ⟨wb, 0, none⟩)] w fun e w' => e = .returned (.bool true) ∧ Below w.heap.size w w' := by
  have HW := Lib.hid hW
  have HC := Lib.hid hC
  have HS := Lib.hid hS
  have HLv := Lib.hid hL
  clear hW hC hS hL
  go_enter Tryz.func57, Tryz.ntmps57
  go_wp2
  go_loopw [3, 4, 5] (fun i _ _ wr => ∃ k : Nat, i = .int .i64 k ∧ k ≤ L.length ∧ Below w.heap.size w wr) (fun i _ _ _ => L.length - (intOf i).toNat)
  case atStart => exact ⟨0, rfl, Nat.zero_le _, Below.refl _ _⟩
  case round =>
    obtain ⟨k, rfl, hk, hbr⟩ := hrel
    have hW2 := HW.out.below hbr
    have c4 : wr.cell? ⟨wb, 4, none⟩ = some (.slice sa L.length sc) := hW2.cell 4
    by_cases hlt : k < L.length
    · have hrow := ownsRow_below HS.out hbr
      obtain ⟨g, cap, hsv, hg0, hg, _, _, hcell⟩ := row_some hrow (by omega)
      have hsa : sa = some ⟨g, 0, none⟩ := by injection hsv
      subst hsa
      have hv3 := HLv.out _ (List.getElem_mem hlt)
      have hx : ∀ j, j < 14 → wr.cell? ⟨g, k * 14 + j, none⟩ = (msgArr 1 S.id ((L[k] : Nat) : Int) S.ballot).toList[j]? := fun j hj => (hcell (k * 14 + j) (by omega)).trans (askVals_at S L k hlt j hj)
      generalize L[k] = v at hx hv3
      have x0 : wr.cell? ⟨g, k * 14, none⟩ = some (.int .i64 1) := hx 0 (by omega)
      have x1 : wr.cell? ⟨g, k * 14 + 1, none⟩ = some (.int .i64 S.id) := hx 1 (by omega)
      have x2 : wr.cell? ⟨g, k * 14 + 2, none⟩ = some (.int .i64 (v : Int)) := hx 2 (by omega)
      have x3 : wr.cell? ⟨g, k * 14 + 3, none⟩ = some (.int .i64 S.ballot) := hx 3 (by omega)
      have x4 : wr.cell? ⟨g, k * 14 + 4, none⟩ = some (.int .i64 0) := hx 4 (by omega)
      have x5 : wr.cell? ⟨g, k * 14 + 5, none⟩ = some (.int .i64 0) := hx 5 (by omega)
      have x6 : wr.cell? ⟨g, k * 14 + 6, none⟩ = some (.int .i64 0) := hx 6 (by omega)
      have x7 : wr.cell? ⟨g, k * 14 + 7, none⟩ = some (.int .i64 0) := hx 7 (by omega)
      have x8 : wr.cell? ⟨g, k * 14 + 8, none⟩ = some (.int .i64 0) := hx 8 (by omega)
      have x9 : wr.cell? ⟨g, k * 14 + 9, none⟩ = some (.string ⟨#[]⟩) := hx 9 (by omega)
      have x10 : wr.cell? ⟨g, k * 14 + 10, none⟩ = some (.int .i64 0) := hx 10 (by omega)
      have x11 : wr.cell? ⟨g, k * 14 + 11, none⟩ = some (.int .i64 0) := hx 11 (by omega)
      have x12 : wr.cell? ⟨g, k * 14 + 12, none⟩ = some (.string ⟨#[]⟩) := hx 12 (by omega)
      have x13 : wr.cell? ⟨g, k * 14 + 13, none⟩ = some (.slice none 0 0) := hx 13 (by omega)
      clear hx hcell hrow hsv
      have hbA := hbr.alloc hbr.size (.cells #[.int .i64 1, .int .i64 S.id, .int .i64 (v : Int), .int .i64 S.ballot, .int .i64 0, .int .i64 0, .int .i64 0, .int .i64 0, .int .i64 0, .string ⟨#[]⟩, .int .i64 0, .int .i64 0, .string ⟨#[]⟩, .slice none 0 0] 61)
      have QA := Lib.hid (show Blk (wr.alloc (.cells #[.int .i64 1, .int .i64 S.id, .int .i64 (v : Int), .int .i64 S.ballot, .int .i64 0, .int .i64 0, .int .i64 0, .int .i64 0, .int .i64 0, .string ⟨#[]⟩, .int .i64 0, .int .i64 0, .string ⟨#[]⟩, .slice none 0 0] 61)) wr.heap.size (prepVals S.id v S.ballot) 61 from Blk.new wr (prepVals S.id v S.ballot) 61)
      have HWA := Lib.hid (hW2.alloc (.cells #[.int .i64 1, .int .i64 S.id, .int .i64 (v : Int), .int .i64 S.ballot, .int .i64 0, .int .i64 0, .int .i64 0, .int .i64 0, .int .i64 0, .string ⟨#[]⟩, .int .i64 0, .int .i64 0, .string ⟨#[]⟩, .slice none 0 0] 61))
      have HCA := Lib.hid ((HC.out.below hbr).alloc (.cells #[.int .i64 1, .int .i64 S.id, .int .i64 (v : Int), .int .i64 S.ballot, .int .i64 0, .int .i64 0, .int .i64 0, .int .i64 0, .int .i64 0, .string ⟨#[]⟩, .int .i64 0, .int .i64 0, .string ⟨#[]⟩, .slice none 0 0] 61))
      have hgl : g < wr.heap.size := hg
      go_upto_region 6 with fail
      generalize wr.alloc (.cells #[.int .i64 1, .int .i64 S.id, .int .i64 (v : Int), .int .i64 S.ballot, .int .i64 0, .int .i64 0, .int .i64 0, .int .i64 0, .int .i64 0, .string ⟨#[]⟩, .int .i64 0, .int .i64 0, .string ⟨#[]⟩, .slice none 0 0] 61) = wA at hbA QA HWA HCA ⊢
      generalize wr.heap.size = q at QA hgl ⊢
      have HK := Lib.hid (show ∀ w', Below wA.heap.size wA w' → (w'.cell? ⟨q, 0, none⟩ = some (.int .i64 1) ∧ w'.cell? ⟨q, 1, none⟩ = some (.int .i64 S.id) ∧ w'.cell? ⟨q, 2, none⟩ = some (.int .i64 (v : Int)) ∧ w'.cell? ⟨q, 3, none⟩ = some (.int .i64 S.ballot) ∧ w'.cell? ⟨q, 4, none⟩ = some (.int .i64 0) ∧ w'.cell? ⟨q, 5, none⟩ = some (.int .i64 0) ∧ w'.cell? ⟨q, 6, none⟩ = some (.int .i64 0) ∧ w'.cell? ⟨q, 7, none⟩ = some (.int .i64 0) ∧ w'.cell? ⟨q, 8, none⟩ = some (.int .i64 0) ∧ w'.cell? ⟨q, 9, none⟩ = some (.string ⟨#[]⟩) ∧ w'.cell? ⟨q, 10, none⟩ = some (.int .i64 0) ∧ w'.cell? ⟨q, 11, none⟩ = some (.int .i64 0) ∧ w'.cell? ⟨q, 12, none⟩ = some (.string ⟨#[]⟩) ∧ w'.cell? ⟨q, 13, none⟩ = some (.slice none 0 0) ∧ w'.cell? ⟨wb, 0, none⟩ = some (.pointer (some ⟨c, 0, none⟩)) ∧ w'.cell? ⟨wb, 2, none⟩ = some (.int .i64 S.id) ∧ w'.cell? ⟨wb, 3, none⟩ = some (.int .i64 3)) from fun w' hb => ⟨(QA.out.below hb).cell 0, (QA.out.below hb).cell 1, (QA.out.below hb).cell 2, (QA.out.below hb).cell 3, (QA.out.below hb).cell 4, (QA.out.below hb).cell 5, (QA.out.below hb).cell 6, (QA.out.below hb).cell 7, (QA.out.below hb).cell 8, (QA.out.below hb).cell 9, (QA.out.below hb).cell 10, (QA.out.below hb).cell 11, (QA.out.below hb).cell 12, (QA.out.below hb).cell 13, (HWA.out.below hb).cell 0, (HWA.out.below hb).cell 2, (HWA.out.below hb).cell 3⟩)
      have HRt := Lib.hid (fun w1 => right_prep S.id (v : Int) S.ballot w1 hid (by omega) hbal)
      have HBl := Lib.hid (fun w' (hb : Below wA.heap.size wA w') => ballotOf_any c S w' (HCA.out.below hb) hn)
      have hk0 := HK.out wA.drew (Below.refl _ _).drew
      have e1 : (S.id != S.id) = false := by simp
      have e2 : (S.ballot != S.ballot) = false := by simp
      have hv0 : decide ((v : Int) < 0) = false := decide_eq_false (by omega)
      have hv4 : decide ((3 : Int) ≤ (v : Int)) = false := decide_eq_false (by omega)
      clear x0 x1 x2 x3 x4 x5 x6 x7 x8 x9 x10 x11 x12 x13 c4 hW2 hbr hgl QA HWA HCA
      go_region_held3 (fun w' => w'.cell? ⟨q, 0, none⟩ = some (.int .i64 1) ∧ w'.cell? ⟨q, 1, none⟩ = some (.int .i64 S.id) ∧ w'.cell? ⟨q, 2, none⟩ = some (.int .i64 (v : Int)) ∧ w'.cell? ⟨q, 3, none⟩ = some (.int .i64 S.ballot) ∧ w'.cell? ⟨q, 4, none⟩ = some (.int .i64 0) ∧ w'.cell? ⟨q, 5, none⟩ = some (.int .i64 0) ∧ w'.cell? ⟨q, 6, none⟩ = some (.int .i64 0) ∧ w'.cell? ⟨q, 7, none⟩ = some (.int .i64 0) ∧ w'.cell? ⟨q, 8, none⟩ = some (.int .i64 0) ∧ w'.cell? ⟨q, 9, none⟩ = some (.string ⟨#[]⟩) ∧ w'.cell? ⟨q, 10, none⟩ = some (.int .i64 0) ∧ w'.cell? ⟨q, 11, none⟩ = some (.int .i64 0) ∧ w'.cell? ⟨q, 12, none⟩ = some (.string ⟨#[]⟩) ∧ w'.cell? ⟨q, 13, none⟩ = some (.slice none 0 0) ∧ w'.cell? ⟨wb, 0, none⟩ = some (.pointer (some ⟨c, 0, none⟩)) ∧ w'.cell? ⟨wb, 2, none⟩ = some (.int .i64 S.id) ∧ w'.cell? ⟨wb, 3, none⟩ = some (.int .i64 3))
        (first | with_reducible exact hk0 | with_reducible exact HK.out _ (by assumption) | go_keep)
        (first
        | (go_at_call 90; refine (HRt.out _).mono ?_; rintro e wR ⟨rfl, hbR⟩; have hbR2 := below_step ((Below.refl wA.heap.size wA).drew) hbR)
        | (go_at_call 18; refine (HBl.out _ (by assumption)).mono ?_; rintro e wB ⟨rfl, rfl⟩))
      all_goals
        have hbr2 := below_step hbA hbR2
        clear hbA hbR2 hbR hk0 HK HRt HBl
        go_wp2_with fail
        go_roundw
        case rel => exact ⟨k + 1, by go_num, by omega, hbr2⟩
        case measure => simp [intOf]; omega
    · go_wp2_with fail
      go_ret
      exact ⟨rfl, hbr⟩
end Go.Proofs.YtmmnaieikfekfaaGreatDoor
