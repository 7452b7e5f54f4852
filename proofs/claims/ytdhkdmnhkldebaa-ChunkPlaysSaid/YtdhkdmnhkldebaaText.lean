/- The walk of Text: all of a box, or that parts lack (chunk). Condition: at most 4096 places, at most 524288 bytes. -/
import Derived.Test.YtdhkdmnhkldebaaBackLaw
namespace Go.Proofs.Ytdhkdmnhkldebaa
open Go.RowKit

set_option maxHeartbeats 400000 in
theorem text_short (b gp gh : Nat) (m : List (Option ByteArray)) (w : World) (h : BoxAt w b gp gh m) (hl : 0 < left m) :
    Calls Try.prog 18 #[.pointer (some ⟨b, 0, none⟩)] w fun e w' => e = .returned (.tuple #[.string ByteArray.empty, .int .i64 3]) ∧ w = w' := by
  have c2 : w.cell? ⟨b, 2, none⟩ = some (.int .i64 (left m : Nat)) := h.1.cell 2
  clear h
  go_enter Try.func18, Try.ntmps18
  go_wp2
  go_ret2
  exact ⟨rfl, rfl⟩

set_option maxHeartbeats 400000 in
theorem text_all (b gp gh : Nat) (m : List (Option ByteArray)) (w : World) (h : BoxAt w b gp gh m) (hl : left m = 0) (hm : m.length ≤ 4096) (h1 : 1 ≤ m.length) (hs : size m ≤ 524288) :
    Calls Try.prog 18 #[.pointer (some ⟨b, 0, none⟩)] w fun e w' => e = .returned (.tuple #[.string ⟨(flat (texts m)).toArray⟩, .int .i64 0]) ∧ Below w.heap.size w w' := by
  have c0 : w.cell? ⟨b, 0, none⟩ = some (.slice (some ⟨gp, 0, none⟩) m.length m.length) := h.1.cell 0
  have c2 : w.cell? ⟨b, 2, none⟩ = some (.int .i64 (left m : Nat)) := h.1.cell 2
  rw [hl] at c2
  have H := Lib.hid h
  clear h hl
  go_enter Try.func18, Try.ntmps18
  go_wp2_with fail
  refine (join_any gp m.length (texts m) m.length _ (by simp [texts]) h1 (by omega) (by rw [texts_total]; omega) H.out.2.1.lt ?_ (Nat.le_refl _) (by omega)).mono ?_
  · intro k hk
    rw [H.out.2.1.cell k, List.getElem?_map]
    have hk2 : k < m.length := by simpa [texts] using hk
    rw [List.getElem?_eq_getElem hk2]
    simp [texts, pStr]
  rintro e w1 ⟨rfl, hb⟩
  go_wp2
  go_ret2
  exact ⟨rfl, hb⟩
end Go.Proofs.Ytdhkdmnhkldebaa
