/- Size and Read. Conditions: order, sizes. -/
import Derived.Test.YtaeklleogniimaaGreatDoorGrown
import Derived.Test.YtaeklleogniimaaGreatDoorNils
namespace Go.Proofs.YtaeklleogniimaaGreatDoor
open Go.RowKit

theorem findF_mem {l : List DFile} {s : ByteArray} {f : DFile} (h : findF l s = some f) : f ∈ l ∧ f.name = s := by
  unfold findF at h
  have h1 := List.mem_of_find?_eq_some h
  have h2 := List.find?_some h
  exact ⟨h1, by simpa using h2⟩
def sizeVal (S : DSt) (s : ByteArray) : Value := if S.off then .tuple #[.int .i64 0, .int .i64 14] else match findF S.files s with
  | none => .tuple #[.int .i64 0, .int .i64 8]
  | some f => .tuple #[.int .i64 (f.seen.length : Nat), .int .i64 0]
theorem size_any (b : Nat) (S : DSt) (s : ByteArray) (w : World) (h : DiskAt w b S) (hor : Ordered S.files) (hl : S.files.length ≤ 1000000000) :
    Calls Tryz.prog 146 #[.pointer (some ⟨b, 0, none⟩), .string s] w fun e w' => e = .returned (sizeVal S s) ∧ w = w' := by
  have hr := ready_any b S w h
  cases ho : S.off with
  | true =>
    have e0 : sizeVal S s = .tuple #[.int .i64 0, .int .i64 14] := by unfold sizeVal; rw [if_pos ho]
    rw [e0]
    rw [ho] at hr
    have HR := Lib.hid hr
    clear h hor hr
    go_enter Tryz.func146, Tryz.ntmps146
    go_wp2_with fail
    refine HR.out.mono ?_
    rintro e w' ⟨rfl, rfl⟩
    go_wp2_with fail
    go_ret2
    exact ⟨rfl, rfl⟩
  | false =>
    rw [ho] at hr
    have HR := Lib.hid hr
    have hf := find_any b S s w h hor hl
    have hno : ¬ (S.off = true) := by rw [ho]; decide
    cases hfi : findF S.files s with
    | none =>
      have e0 : sizeVal S s = .tuple #[.int .i64 0, .int .i64 8] := by unfold sizeVal; rw [if_neg hno, hfi]
      rw [e0]
      rw [hfi] at hf
      have HF := Lib.hid hf
      clear h hor hr hf
      go_enter Tryz.func146, Tryz.ntmps146
      go_wp2_with fail
      refine HR.out.mono ?_
      rintro e w' ⟨rfl, rfl⟩
      go_wp2_with fail
      refine HF.out.mono ?_
      rintro e w' ⟨rfl, rfl⟩
      go_wp2_with fail
      go_ret2
      exact ⟨rfl, rfl⟩
    | some f =>
      have e0 : sizeVal S s = .tuple #[.int .i64 (f.seen.length : Nat), .int .i64 0] := by unfold sizeVal; rw [if_neg hno, hfi]
      rw [e0]
      rw [hfi] at hf
      have HF := Lib.hid hf
      have hA := h.fat f (findF_mem hfi).1
      obtain ⟨sa, sc, hsv⟩ := row_shape hA.seen
      have d3 : w.cell? ⟨f.g, 3, none⟩ = some (.slice sa f.seen.length sc) := by rw [← hsv]; exact hA.blk.cell 3
      clear h hor hr hf hA hsv
      go_enter Tryz.func146, Tryz.ntmps146
      go_wp2_with fail
      refine HR.out.mono ?_
      rintro e w' ⟨rfl, rfl⟩
      go_wp2_with fail
      refine HF.out.mono ?_
      rintro e w' ⟨rfl, rfl⟩
      go_wp2_with fail
      go_ret2
      exact ⟨rfl, rfl⟩
end Go.Proofs.YtaeklleogniimaaGreatDoor
