/- The walks of a coordinator that leads, knows nothing, proposes nothing and has no call: next, serve, goal, asks, fetches, Tick. No condition. -/
import Derived.Test.YtmmnaieikfekfaaGreatDoorFar
import Derived.Test.YtmmnaieikfekfaaGreatDoorAsk
namespace Go.Proofs.YtmmnaieikfekfaaGreatDoor
open Go Go.RowKit
set_option linter.unusedVariables false

/-- a coordinator that leads: nothing is proposed, fetched, asked; all vaults are as far as it is -/
structure LeadS (S : CSt) (qs : List Peer) : Prop where
  n : S.n = 3
  phase : S.phase = 2
  floor : S.floor = 0
  top : S.top = 0
  again : ∃ a c, S.again = .slice a 0 c
  job : S.job = .pointer none
  fetch : S.fetch = .pointer none
  call : S.call = .pointer none
  peers : S.peers = peersVals qs
  len : qs.length = 9
  flat : ∀ q ∈ qs, q.floor = 0 ∧ q.top = 0

set_option maxRecDepth 100000 in
theorem next_lead (b : Nat) (S : CSt) (qs : List Peer) (w : World) (h : CoordAt w b S) (hL : LeadS S qs) :
    Calls Tryz.prog 40 #[.pointer (some ⟨b, 0, none⟩)] w fun e w' => e = .returned (.tuple #[]) ∧ w = w' := by
  obtain ⟨a, c, ha⟩ := hL.again
  have c11 : w.cell? ⟨b, 11, none⟩ = some (.slice a 0 c) := by rw [← ha]; exact h.hd 11 (by omega)
  have c84 : w.cell? ⟨b, 84, none⟩ = some (.pointer none) := by have := h.ft 0; rw [← hL.job]; exact this
  have c86 : w.cell? ⟨b, 86, none⟩ = some (.pointer none) := by have := h.ft 2; rw [← hL.call]; exact this
  clear h hL ha
  go_enter Tryz.func40, Tryz.ntmps40
  go_wp2
  go_end0
  exact ⟨rfl, rfl⟩
set_option maxRecDepth 100000 in
theorem asks_lead (b : Nat) (S : CSt) (qs : List Peer) (w : World) (h : CoordAt w b S) (hL : LeadS S qs) :
    Calls Tryz.prog 42 #[.pointer (some ⟨b, 0, none⟩)] w fun e w' => e = .returned (.slice none 0 0) ∧ w = w' := by
  have c86 : w.cell? ⟨b, 86, none⟩ = some (.pointer none) := by have := h.ft 2; rw [← hL.call]; exact this
  clear h hL
  go_enter Tryz.func42, Tryz.ntmps42
  go_wp2
  go_ret
  exact ⟨rfl, rfl⟩
set_option maxRecDepth 100000 in
theorem fetches_lead (b : Nat) (S : CSt) (qs : List Peer) (w : World) (h : CoordAt w b S) (hL : LeadS S qs) :
    Calls Tryz.prog 43 #[.pointer (some ⟨b, 0, none⟩)] w fun e w' => e = .returned (.slice none 0 0) ∧ w = w' := by
  have c85 : w.cell? ⟨b, 85, none⟩ = some (.pointer none) := by have := h.ft 1; rw [← hL.fetch]; exact this
  clear h hL
  go_enter Tryz.func43, Tryz.ntmps43
  go_wp2
  go_ret
  exact ⟨rfl, rfl⟩
set_option maxRecDepth 100000 in
set_option maxHeartbeats 2000000 in
theorem goal_lead (b : Nat) (S : CSt) (qs : List Peer) (v : Nat) (w : World) (h : CoordAt w b S) (hL : LeadS S qs) (hv : v < 9) :
    Calls Tryz.prog 71 #[.pointer (some ⟨b, 0, none⟩), .int .i64 (v : Int)] w fun e w' => e = .returned (.tuple #[.int .i64 0, .string ⟨#[]⟩, .bool false, .bool false]) ∧ ∃ n, w' = w.drewN n := by
  have hvq : v < qs.length := by rw [hL.len]; exact hv
  have p0 : w.cell? ⟨b, 12 + v * 8, none⟩ = some (.bool qs[v].told) := h.peer hL.peers v hvq 0 (by omega)
  have p2 : w.cell? ⟨b, 12 + v * 8 + 2, none⟩ = some (.int .i64 0) := by have := h.peer hL.peers v hvq 2 (by omega); rw [this]; show some (Value.int .i64 qs[v].top) = _; rw [(hL.flat _ (List.getElem_mem hvq)).2]
  have c6 : w.cell? ⟨b, 6, none⟩ = some (.int .i64 0) := by rw [← hL.top]; exact h.hd 6 (by omega)
  have c84 : w.cell? ⟨b, 84, none⟩ = some (.pointer none) := by have := h.ft 0; rw [← hL.job]; exact this
  generalize qs[v].told = tl at p0
  clear h hL
  cases tl with
  | true =>
    go_enter Tryz.func71, Tryz.ntmps71
    go_wp2
    go_quiet (fail)
    go_wp2
    refine bodyPost_ret (results_tmp4 rfl _ _ _) rfl ⟨rfl, _, rfl⟩
  | false =>
    go_enter Tryz.func71, Tryz.ntmps71
    go_wp2
    go_quiet (fail)
    go_wp2
    refine bodyPost_ret (results_tmp4 rfl _ _ _) rfl ⟨rfl, _, rfl⟩
set_option maxRecDepth 100000 in
set_option maxHeartbeats 2000000 in
theorem serve_lead (b : Nat) (S : CSt) (qs : List Peer) (v : Nat) (w : World) (h : CoordAt w b S) (hL : LeadS S qs) (hv : v < 9) :
    Calls Tryz.prog 41 #[.pointer (some ⟨b, 0, none⟩), .int .i64 (v : Int)] w fun e w' => e = .returned (.slice none 0 0) ∧ ∃ n, w' = w.drewN n := by
  have hvq : v < qs.length := by rw [hL.len]; exact hv
  have p0 : w.cell? ⟨b, 12 + v * 8, none⟩ = some (.bool qs[v].told) := h.peer hL.peers v hvq 0 (by omega)
  have p1 : w.cell? ⟨b, 12 + v * 8 + 1, none⟩ = some (.int .i64 0) := by have := h.peer hL.peers v hvq 1 (by omega); rw [this]; show some (Value.int .i64 qs[v].floor) = _; rw [(hL.flat _ (List.getElem_mem hvq)).1]
  have c5 : w.cell? ⟨b, 5, none⟩ = some (.int .i64 0) := by rw [← hL.floor]; exact h.hd 5 (by omega)
  have HG := Lib.hid (fun n => goal_lead b S qs v (w.drewN n) (h.drewN n) hL hv)
  generalize qs[v].told = tl at p0
  clear h hL
  cases tl with
  | true =>
    go_enter Tryz.func41, Tryz.ntmps41
    go_wp2
    go_quiet (fail)
    go_wp2_with fail
    refine (HG.out _).mono ?_
    rintro e w1 ⟨rfl, n, rfl⟩
    go_wp2
    go_ret
    exact ⟨rfl, _, rfl⟩
  | false =>
    go_enter Tryz.func41, Tryz.ntmps41
    go_wp2
    go_quiet (fail)
    go_wp2_with fail
    refine (HG.out _).mono ?_
    rintro e w1 ⟨rfl, n, rfl⟩
    go_wp2
    go_ret
    exact ⟨rfl, _, rfl⟩
set_option maxRecDepth 100000 in
set_option maxHeartbeats 2000000 in
theorem tick_lead (b : Nat) (S : CSt) (qs : List Peer) (w : World) (h : CoordAt w b S) (hL : LeadS S qs) :
    Calls Tryz.prog 24 #[.pointer (some ⟨b, 0, none⟩)] w fun e w' => e = .returned (.slice none 0 0) ∧ Below w.heap.size w w' := by
  have c1 : w.cell? ⟨b, 1, none⟩ = some (.int .i64 3) := by rw [← hL.n]; exact h.hd 1 (by omega)
  have c4 : w.cell? ⟨b, 4, none⟩ = some (.int .i64 2) := by rw [← hL.phase]; exact h.hd 4 (by omega)
  have c86 : w.cell? ⟨b, 86, none⟩ = some (.pointer none) := by have := h.ft 2; rw [← hL.call]; exact this
  have H := Lib.hid h
  have HL := Lib.hid hL
  clear h hL
  go_enter Tryz.func24, Tryz.ntmps24
  go_wp2_with fail
  refine (none_any b S _ H.out (by have := HL.out.n; omega)).mono ?_
  rintro e wx ⟨rfl, rfl⟩
  go_wp2_with fail
  refine (next_lead b S qs _ H.out HL.out).mono ?_
  rintro e wx ⟨rfl, rfl⟩
  go_wp2_with fail
  go_loopw [3, 4, 47] (fun ov _ i wr => ov = .slice none 0 0 ∧ ∃ k n : Nat, i = .int .i64 k ∧ k ≤ 3 ∧ wr = w.drewN n) (fun _ _ i _ => 3 - (intOf i).toNat)
  case atStart => exact ⟨rfl, 0, 0, rfl, by omega, rfl⟩
  case round =>
    obtain ⟨rfl, k, n, rfl, hk, rfl⟩ := hrel
    by_cases hlt : k < 3
    · go_wp2_with fail
      refine (serve_lead b S qs k _ (H.out.drewN n) HL.out (by omega)).mono ?_
      rintro e w1 ⟨rfl, m, rfl⟩
      go_wp2_with fail
      go_roundw
      case rel => exact ⟨rfl, k + 1, n + m, by go_num, by omega, rfl⟩
      case measure => simp [intOf]; omega
    · go_wp2_with fail
      refine (asks_lead b S qs _ (H.out.drewN n) HL.out).mono ?_
      rintro e w1 ⟨rfl, rfl⟩
      go_wp2_with fail
      refine (fetches_lead b S qs _ (H.out.drewN n) HL.out).mono ?_
      rintro e w1 ⟨rfl, rfl⟩
      go_wp2_with fail
      go_ret
      exact ⟨rfl, below_drewN (Below.refl _ _) n⟩
end Go.Proofs.YtmmnaieikfekfaaGreatDoor
