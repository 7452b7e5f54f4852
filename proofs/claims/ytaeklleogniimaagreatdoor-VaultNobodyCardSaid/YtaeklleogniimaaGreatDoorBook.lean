/- An ideal book of marks in memory: marks.Ideal and Ready. No condition. -/
import Derived.Test.YtaeklleogniimaaGreatDoorHeap
import Derived.Test.YtaeklleogniimaaGreatDoorRows
import Derived.Lib.MinMax
namespace Go.Proofs.YtaeklleogniimaaGreatDoor
open Go.RowKit

/-- the cells of a book that is not real: the mixer's numbers are noughts -/
noncomputable def bookVals (m : Value) : List Value := ((Tryz.zeroCells97.setIfInBounds 74 (.bool true)).setIfInBounds 73 m).toList
def BookAt (w : World) (b : Nat) (m : Nat) : Prop := Blk w b (bookVals (.map (some m))) 97
theorem bookVals_at (m : Value) : (bookVals m)[72]? = some (.bool false) ∧ (bookVals m)[73]? = some m ∧ (bookVals m)[74]? = some (.bool true) := by
  refine ⟨?_, ?_, ?_⟩ <;> kernel_rfl
theorem BookAt.real {w : World} {b m : Nat} (h : BookAt w b m) : w.cell? ⟨b, 72, none⟩ = some (.bool false) := by
  rw [Blk.cell h]; exact (bookVals_at _).1
theorem BookAt.seen {w : World} {b m : Nat} (h : BookAt w b m) : w.cell? ⟨b, 73, none⟩ = some (.map (some m)) := by
  rw [Blk.cell h]; exact (bookVals_at _).2.1
theorem BookAt.ideal {w : World} {b m : Nat} (h : BookAt w b m) : w.cell? ⟨b, 74, none⟩ = some (.bool true) := by
  rw [Blk.cell h]; exact (bookVals_at _).2.2

set_option maxRecDepth 100000 in
set_option maxHeartbeats 1000000 in
theorem ideal_any (w : World) :
    Calls Tryz.prog 11 #[] w fun e w' => ∃ b m, e = .returned (.pointer (some ⟨b, 0, none⟩)) ∧ w.heap.size ≤ b ∧ w.heap.size ≤ m ∧ BookAt w' b m ∧ w'.heap[m]? = some (.map #[] 0) ∧ Below w.heap.size w w' := by
  have hmm := @run_makeMap Tryz.prog
  go_enter Tryz.func11, Tryz.ntmps11
  go_wp2
  go_ret
  have hb := Blk.new (w.alloc (Obj.map #[] 0)) (bookVals (.map (some w.heap.size))) 97
  rw [World.size_alloc] at hb
  refine ⟨w.heap.size + 1, w.heap.size, rfl, by omega, by omega, hb, ?_, ((Below.refl _ _).alloc (Nat.le_refl _) _).alloc (by simp) _⟩
  rw [Below.heap_alloc _ _ _ (by simp)]
  exact heap_alloc_new w _

theorem noBook_any (b m : Nat) (w : World) (h : BookAt w b m) :
    Calls Tryz.prog 73 #[.pointer (some ⟨b, 0, none⟩)] w fun e w' => e = .returned (.bool false) ∧ w = w' := by
  have h1 := h.real
  have h2 := h.ideal
  clear h
  go_enter Tryz.func73, Tryz.ntmps73
  go_wp2
  go_ret
  exact ⟨rfl, rfl⟩
theorem bookReady_any (b m : Nat) (w : World) (h : BookAt w b m) :
    Calls Tryz.prog 137 #[.pointer (some ⟨b, 0, none⟩)] w fun e w' => e = .returned (.bool true) ∧ w = w' := by
  have H := Lib.hid h
  clear h
  go_enter Tryz.func137, Tryz.ntmps137
  go_wp2_with (go_at_call 73; refine (noBook_any b m _ H.out).mono ?_; rintro e w' ⟨rfl, rfl⟩)
  go_ret
  exact ⟨rfl, rfl⟩
theorem bookReady_nil (w : World) :
    Calls Tryz.prog 137 #[.pointer none] w fun e w' => e = .returned (.bool false) ∧ w = w' := by
  go_enter Tryz.func137, Tryz.ntmps137
  go_wp2
  go_ret
  exact ⟨rfl, rfl⟩
end Go.Proofs.YtaeklleogniimaaGreatDoor
