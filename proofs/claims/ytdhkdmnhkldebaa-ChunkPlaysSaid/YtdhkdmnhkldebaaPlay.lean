/- One step of a play, whatever it is; the boxes of a play made. Conditions: sizes. -/
import Derived.Test.YtdhkdmnhkldebaaStep4
namespace Go.Proofs.Ytdhkdmnhkldebaa
open Go.RowKit
set_option linter.unusedVariables false

theorem places_list : ∀ n : Nat, (List.range (n * 2)).map (fun k => (#[Value.bool false, Value.string ByteArray.empty] : Array Value)[k % 2]!) = (List.replicate n none).flatMap pPlace
  | 0 => rfl
  | n + 1 => by
    rw [show (n + 1) * 2 = n * 2 + 1 + 1 by omega, List.range_succ, List.range_succ, List.map_append, List.map_append, places_list n, List.replicate_succ', List.flatMap_append]
    have e1 : n * 2 % 2 = 0 := by omega
    have e2 : (n * 2 + 1) % 2 = 1 := by omega
    simp [e1, e2, pPlace, pHas, pStr]
theorem places_made (n : Nat) : madeCells #[Value.bool false, Value.string ByteArray.empty] (n * 2) = ((List.replicate n none).flatMap pPlace).toArray := by
  rw [← places_list]
  apply Array.toList_inj.1
  simp [madeCells]
theorem info_place : (Try.prog.info? 64).map (fun i => (i.zero, i.size, i.bytes)) = some (some (.agg #[.bool false, .string ByteArray.empty]), 2, 24) := by kernel_rfl
theorem make_places (n : Nat) (hn : n ≤ 4096) (w : World) :
    (Instr.makeSlice 47 (.int .i64 (n : Int)) (.int .i64 (n : Int))).run Try.prog w = .ok (.slice (some ⟨w.heap.size, 0, none⟩) n n) (w.alloc (.cells ((List.replicate n none).flatMap pPlace).toArray 64)) := by
  obtain ⟨i0, hi, hz0, hz1, hz2⟩ := info_parts info_place
  have h := run_make_rowN (P := Try.prog) 47 64 i0 _ Try.underlying47 hi hz0 .i64 .i64 n n (Nat.le_refl _) (by rw [hz2]; omega) (by omega) w
  have hz : (Value.agg #[.bool false, .string ByteArray.empty]).cells = #[.bool false, .string ByteArray.empty] := by first | rfl | simp [Value.cells]
  rw [hz1, hz, places_made] at h
  exact h

/-- both boxes of a play hold the parts m, in n places -/
structure Play (w : World) (b gp gh q gl n : Nat) (m : List (Option ByteArray)) : Prop where
  box : BoxAt w b gp gh m
  ref : RefAt w q gl m
  len : m.length = n
  size : size m ≤ 524288
theorem Play.below {w w' : World} {b gp gh q gl n : Nat} {m : List (Option ByteArray)} (h : Play w b gp gh q gl n m) (hb : Below w.heap.size w w') : Play w' b gp gh q gl n m :=
  ⟨boxAt_same h.box hb, h.ref.below hb, h.len, h.size⟩
theorem play_step (b gp gh q gl n : Nat) (x : OpR) (m : List (Option ByteArray)) (w : World) (h : Play w b gp gh q gl n m) (h1 : 1 ≤ n) (hn : n ≤ 60) (ht : x.text.size ≤ maxLen) :
    Calls Try.prog 21 #[.pointer (some ⟨b, 0, none⟩), .pointer (some ⟨q, 0, none⟩), .agg #[.int .i64 x.kind, .int .i64 x.n, .int .i64 x.at_, .int .i64 x.of_, .string x.text]] w fun e w' => e = .returned (.bool true) ∧ (∃ m', Hid (Play w' b gp gh q gl n m')) ∧ Touch (InTwo b gp gh gl) w w' := by
  have hl := h.len
  have hs := h.size
  by_cases h0 : x.kind = 0
  · refine (step_put b gp gh q gl x m w h0 h.box h.ref (by omega) hs ht).mono ?_
    rintro e w' ⟨he, hb, hr, htt⟩
    exact ⟨he, ⟨_, ⟨hb, hr, by rw [putOf_length]; exact hl, putOf_size _ _ _ _ hs⟩⟩, htt⟩
  · by_cases h1' : x.kind = 1
    · refine (step_missing b gp gh q gl x m w h1' h.box h.ref (by omega)).mono ?_
      rintro e w' ⟨he, hb, hr, htt⟩
      exact ⟨he, ⟨_, ⟨hb, hr, hl, hs⟩⟩, htt⟩
    · by_cases h2 : x.kind = 2
      · refine (step_text b gp gh q gl x m w h2 h.box h.ref (by omega) (by omega) hs).mono ?_
        rintro e w' ⟨he, hb, hr, htt⟩
        exact ⟨he, ⟨_, ⟨hb, hr, hl, hs⟩⟩, htt⟩
      · refine (step_clear b gp gh q gl x m w h0 h1' h2 h.box h.ref (by omega) (by omega)).mono ?_
        rintro e w' ⟨he, hb, hr, htt⟩
        exact ⟨he, ⟨_, ⟨hb, hr, by unfold noParts; rw [List.length_replicate]; exact hl, by unfold noParts; rw [size_new]; omega⟩⟩, htt⟩
theorem play_lack (b gp gh q gl n : Nat) (m : List (Option ByteArray)) (w : World) (h : Play w b gp gh q gl n m) (hn : n ≤ 60) :
    Calls Try.prog 22 #[.pointer (some ⟨q, 0, none⟩)] w fun e w' => ∃ va vc, e = .returned (.slice va (left m) vc) ∧ Below w.heap.size w w' := by
  have hl := h.len
  refine (refMissing_any q gl m w h.ref (by omega)).mono ?_
  rintro e w' ⟨v, rfl, hown, hb⟩
  rw [lack_left] at hown
  obtain ⟨va, vc, rfl⟩ := row_shape hown
  exact ⟨va, vc, rfl, hb⟩
end Go.Proofs.Ytdhkdmnhkldebaa
