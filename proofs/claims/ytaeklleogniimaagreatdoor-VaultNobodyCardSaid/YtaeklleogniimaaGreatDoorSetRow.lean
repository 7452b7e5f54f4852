/- A byte stored in an owned row. No condition. -/
import Derived.Test.YtaeklleogniimaaGreatDoorFlat
namespace Go.Proofs.YtaeklleogniimaaGreatDoor
open Go.RowKit
set_option linter.unusedVariables false

theorem bytes_set (l : List UInt8) (k : Nat) (x : UInt8) : (bytesVals l).set k (.int .u8 (x.toNat : Int)) = bytesVals (l.set k x) := by unfold bytesVals; rw [List.map_set]
/-- a byte stored in an owned row -/
theorem row_setCell {w : World} {base g n cap k : Nat} {xs : List Value} (h : w.ownsRow base 5 1 (.slice (some ⟨g, 0, none⟩) n cap) n xs) (hk : k < n) (v : Value) :
    (w.setCell ⟨g, k, none⟩ v).ownsRow base 5 1 (.slice (some ⟨g, 0, none⟩) n cap) n (xs.set k v) := by
  obtain ⟨h1, h2⟩ := h
  refine ⟨by rw [List.length_set]; exact h1, ?_⟩
  rcases h2 with ⟨h2, _⟩ | ⟨g', cap', cur, hv, hg, hb, hnc, hc, hcs, ht⟩
  · cases h2
  · injection hv with hv1 _ hv2
    injection hv1 with hv1
    injection hv1 with hv1
    subst hv1; subst hv2
    refine Or.inr ⟨g, cap, (cur.toList.set k v).toArray, rfl, hg, ?_, hnc, hc, by simpa using hcs, ?_⟩
    · have hB : Blk w g cur.toList 5 := by unfold Blk; simpa using hb
      exact hB.set k v
    · rw [Nat.mul_one] at ht ⊢
      show (cur.toList.set k v).take n = xs.set k v
      rw [List.take_set, ht]
theorem row_free {w : World} {base g n cap : Nat} {xs : List Value} (h : w.ownsRow base 5 1 (.slice (some ⟨g, 0, none⟩) n cap) n xs) (k : Nat) : w.frozen? ⟨g, k, none⟩ = false := by
  rcases h.2 with ⟨h2, _⟩ | ⟨g', cap', cur, hv, hg, hb, _⟩
  · cases h2
  · injection hv with hv1 _ hv2
    injection hv1 with hv1
    injection hv1 with hv1
    subst hv1
    have hB : Blk w g cur.toList 5 := by unfold Blk; simpa using hb
    exact hB.free k
end Go.Proofs.YtaeklleogniimaaGreatDoor
