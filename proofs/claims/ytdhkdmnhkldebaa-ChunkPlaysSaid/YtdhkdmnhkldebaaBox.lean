/- The walks of the box (chunk): New, Of, Left. Condition: none beyond the object's own. -/
import Derived.Test.YtdhkdmnhkldebaaHeap
import Derived.Test.YtdhkdmnhkldebaaRows
namespace Go.Proofs.Ytdhkdmnhkldebaa
open Go.RowKit

def pStr (o : Option ByteArray) : Value := .string (o.getD ByteArray.empty)
def pHas (o : Option ByteArray) : Value := .bool o.isSome
def left (m : List (Option ByteArray)) : Nat := m.countP (·.isNone)
def size (m : List (Option ByteArray)) : Nat := (m.map fun o => (o.getD ByteArray.empty).size).sum
/-- a box in block b, its texts in gp, its marks in gh: the places m -/
def BoxAt (w : World) (b gp gh : Nat) (m : List (Option ByteArray)) : Prop :=
  Blk w b [.slice (some ⟨gp, 0, none⟩) m.length m.length, .slice (some ⟨gh, 0, none⟩) m.length m.length, .int .i64 (left m : Nat), .int .i64 (size m : Nat)] 58 ∧
  Blk w gp (m.map pStr) 9 ∧ Blk w gh (m.map pHas) 4

theorem info_str : (Try.prog.info? 9).map (fun i => (i.zero, i.size, i.bytes)) = some (some (.string ByteArray.empty), 1, 16) := by kernel_rfl
theorem info_bool : (Try.prog.info? 4).map (fun i => (i.zero, i.size, i.bytes)) = some (some (.bool false), 1, 1) := by kernel_rfl

def NewSays (n : Nat) (w : World) (e : Ending) (w' : World) : Prop :=
  ∃ b gp gh, e = .returned (.tuple #[.pointer (some ⟨b, 0, none⟩), .int .i64 0]) ∧ BoxAt w' b gp gh (List.replicate n none) ∧ w.heap.size ≤ b ∧ w.heap.size ≤ gp ∧ w.heap.size ≤ gh ∧ Below w.heap.size w w'

theorem left_new (n : Nat) : left (List.replicate n none) = n := by unfold left; rw [List.countP_replicate]; simp
theorem size_new (n : Nat) : size (List.replicate n none) = 0 := by unfold size; rw [List.map_replicate]; simp
def strsObj (n : Nat) : Obj := .cells (Array.replicate n (.string ByteArray.empty)) 9
def boolsObj (n : Nat) : Obj := .cells (Array.replicate n (.bool false)) 4
def boxObj (gp gh n : Nat) : Obj := .cells #[.slice (some ⟨gp, 0, none⟩) n n, .slice (some ⟨gh, 0, none⟩) n n, .int .i64 n, .int .i64 0] 58
theorem boxAt_new {w : World} {b gp gh n : Nat} (h1 : Blk w b [.slice (some ⟨gp, 0, none⟩) n n, .slice (some ⟨gh, 0, none⟩) n n, .int .i64 n, .int .i64 0] 58)
    (h2 : Blk w gp (List.replicate n (.string ByteArray.empty)) 9) (h3 : Blk w gh (List.replicate n (.bool false)) 4) : BoxAt w b gp gh (List.replicate n none) := by
  refine ⟨?_, ?_, ?_⟩
  · rw [left_new, size_new, List.length_replicate]; exact h1
  · rw [List.map_replicate]; exact h2
  · rw [List.map_replicate]; exact h3
theorem newSays_1 (n : Nat) (w : World) : NewSays n w (.returned (.tuple #[.pointer (some ⟨w.heap.size + 1 + 1, 0, none⟩), .int .i64 0])) (((w.alloc (strsObj n)).alloc (boolsObj n)).alloc (boxObj w.heap.size (w.heap.size + 1) n)).drew := by
  refine ⟨_, w.heap.size, w.heap.size + 1, rfl, boxAt_new ?_ ?_ ?_, by omega, by omega, by omega, ?_⟩
  · have h := Blk.new ((w.alloc (strsObj n)).alloc (boolsObj n)) [.slice (some ⟨w.heap.size, 0, none⟩) n n, .slice (some ⟨w.heap.size + 1, 0, none⟩) n n, .int .i64 n, .int .i64 0] 58
    rw [World.size_alloc, World.size_alloc] at h
    exact h
  · exact ((Blk.new w (List.replicate n (.string ByteArray.empty)) 9).alloc _).alloc _
  · have h := Blk.new (w.alloc (strsObj n)) (List.replicate n (.bool false)) 4
    rw [World.size_alloc] at h
    exact h.alloc _
  · exact ((((Below.refl _ _).alloc (Nat.le_refl _) _).alloc (by simp) _).alloc (by simp; omega) _).drew
theorem newSays_2 (n : Nat) (w : World) : NewSays n w (.returned (.tuple #[.pointer (some ⟨w.heap.size + 1 + 1, 0, none⟩), .int .i64 0])) (((w.alloc (boolsObj n)).alloc (strsObj n)).alloc (boxObj (w.heap.size + 1) w.heap.size n)).drew := by
  refine ⟨_, w.heap.size + 1, w.heap.size, rfl, boxAt_new ?_ ?_ ?_, by omega, by omega, by omega, ?_⟩
  · have h := Blk.new ((w.alloc (boolsObj n)).alloc (strsObj n)) [.slice (some ⟨w.heap.size + 1, 0, none⟩) n n, .slice (some ⟨w.heap.size, 0, none⟩) n n, .int .i64 n, .int .i64 0] 58
    rw [World.size_alloc, World.size_alloc] at h
    exact h
  · have h := Blk.new (w.alloc (boolsObj n)) (List.replicate n (.string ByteArray.empty)) 9
    rw [World.size_alloc] at h
    exact h.alloc _
  · exact ((Blk.new w (List.replicate n (.bool false)) 4).alloc _).alloc _
  · exact ((((Below.refl _ _).alloc (Nat.le_refl _) _).alloc (by simp) _).alloc (by simp; omega) _).drew

set_option maxHeartbeats 1000000 in
theorem new_any (n : Nat) (w : World) (h1 : 1 ≤ n) (h2 : n ≤ 4096) :
    Calls Try.prog 14 #[.int .i64 n] w (NewSays n w) := by
  have hmk := fun W => run_make_one (P := Try.prog) 55 9 (.string ByteArray.empty) 16 Try.underlying55 info_str rfl n (by omega) (by omega) W
  have hmk2 := fun W => run_make_one (P := Try.prog) 56 4 (.bool false) 1 Try.underlying56 info_bool rfl n (by omega) (by omega) W
  go_enter Try.func14, Try.ntmps14
  go_wp2
  go_region
  all_goals go_wp2
  all_goals go_ret2
  all_goals first | exact newSays_1 n w | exact newSays_2 n w

set_option maxHeartbeats 400000 in
theorem new_no (n : Int) (w : World) (h : n < 1 ∨ 4096 < n) :
    Calls Try.prog 14 #[.int .i64 n] w fun e w' => e = .returned (.tuple #[.pointer none, .int .i64 1]) ∧ w = w' := by
  have hd : (decide (n < 1) || decide (4096 < n)) = true := by simp only [Bool.or_eq_true, decide_eq_true_eq]; exact h
  clear h
  go_enter Try.func14, Try.ntmps14
  go_wp2
  all_goals (go_ret2; exact ⟨rfl, rfl⟩)

set_option maxHeartbeats 400000 in
theorem leftOf_any (b gp gh : Nat) (m : List (Option ByteArray)) (w : World) (h : BoxAt w b gp gh m) :
    Calls Try.prog 16 #[.pointer (some ⟨b, 0, none⟩)] w fun e w' => e = .returned (.int .i64 (left m : Nat)) ∧ w = w' := by
  have c2 := h.1.cell 2
  simp only [List.getElem?_cons_succ, List.getElem?_cons_zero] at c2
  clear h
  go_enter Try.func16, Try.ntmps16
  go_wp2
  go_ret
  exact ⟨rfl, rfl⟩

set_option maxHeartbeats 400000 in
theorem ofOf_any (b gp gh : Nat) (m : List (Option ByteArray)) (w : World) (h : BoxAt w b gp gh m) :
    Calls Try.prog 20 #[.pointer (some ⟨b, 0, none⟩)] w fun e w' => e = .returned (.int .i64 (m.length : Nat)) ∧ w = w' := by
  have c0 := h.1.cell 0
  simp only [List.getElem?_cons_zero] at c0
  clear h
  go_enter Try.func20, Try.ntmps20
  go_wp2
  go_ret
  exact ⟨rfl, rfl⟩
end Go.Proofs.Ytdhkdmnhkldebaa
