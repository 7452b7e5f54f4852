/- The walk of Missing: the first places that lack, at most so many (chunk). Condition: none beyond the object's own. -/
import Derived.Test.YtdhkdmnhkldebaaPut
namespace Go.Proofs.Ytdhkdmnhkldebaa
open Go.RowKit

theorem info_int : (Try.prog.info? 3).map (fun i => (i.zero, i.size, i.bytes)) = some (some (.int .i64 0), 1, 8) := by kernel_rfl

/-- the places that lack among the first k -/
def lackTo (m : List (Option ByteArray)) : Nat → List Nat
  | 0 => []
  | k + 1 => if (m.getD k none).isNone then lackTo m k ++ [k] else lackTo m k
/-- of them the first n -/
def firstTo (m : List (Option ByteArray)) (n : Int) (k : Nat) : List Nat := (lackTo m k).take n.toNat
theorem lackTo_length (m : List (Option ByteArray)) (k : Nat) : (lackTo m k).length ≤ k := by
  induction k with
  | zero => simp [lackTo]
  | succ k ih =>
    rw [lackTo]
    split
    · rw [List.length_append, List.length_singleton]; omega
    · omega
theorem firstTo_length (m : List (Option ByteArray)) (n : Int) (k : Nat) : (firstTo m n k).length ≤ k := by
  unfold firstTo; rw [List.length_take]; have := lackTo_length m k; omega
theorem firstTo_has {m : List (Option ByteArray)} {n : Int} {k : Nat} (h : (m.getD k none).isNone = false) : firstTo m n (k + 1) = firstTo m n k := by
  unfold firstTo; rw [lackTo, if_neg (by rw [h]; simp)]
theorem firstTo_take {m : List (Option ByteArray)} {n : Int} {k : Nat} (h : (m.getD k none).isNone = true) (hl : ((firstTo m n k).length : Int) < n) : firstTo m n (k + 1) = firstTo m n k ++ [k] := by
  unfold firstTo at hl ⊢
  rw [List.length_take] at hl
  have h1 : (lackTo m k).length < n.toNat := by omega
  rw [lackTo, if_pos h, List.take_append, List.take_of_length_le (by omega)]
  congr 1
  apply List.take_of_length_le
  simp
  omega
theorem firstTo_full {m : List (Option ByteArray)} {n : Int} {k : Nat} (h : (m.getD k none).isNone = true) (hl : ¬ ((firstTo m n k).length : Int) < n) : firstTo m n (k + 1) = firstTo m n k := by
  unfold firstTo at hl ⊢
  rw [List.length_take] at hl
  rw [lackTo, if_pos h, List.take_append]
  have : n.toNat - (lackTo m k).length = 0 := by omega
  rw [this]
  simp

def numCells (l : List Nat) : List Value := l.map fun i => Value.int .i64 (i : Nat)

set_option maxHeartbeats 1000000 in
theorem missing_any (b gp gh : Nat) (m : List (Option ByteArray)) (n : Int) (w : World) (h : BoxAt w b gp gh m) (hm : m.length ≤ 4096) :
    Calls Try.prog 17 #[.pointer (some ⟨b, 0, none⟩), .int .i64 n] w fun e w' => ∃ v, e = .returned v ∧ w'.ownsRow w.heap.size 3 1 v (firstTo m n m.length).length (numCells (firstTo m n m.length)) ∧ Below w.heap.size w w' := by
  have c1 : w.cell? ⟨b, 1, none⟩ = some (.slice (some ⟨gh, 0, none⟩) m.length m.length) := h.1.cell 1
  have hgh := h.2.2.lt
  have H := Lib.hid h
  clear h
  go_enter Try.func17, Try.ntmps17
  go_wp2
  go_loopw [5, 15] (fun v i wr => ∃ k : Nat, k ≤ m.length ∧ i = .int .i64 k ∧ wr.ownsRow w.heap.size 3 1 v (firstTo m n k).length (numCells (firstTo m n k)) ∧ Below w.heap.size w wr) (fun _ i _ => m.length - (intOf i).toNat)
  case atStart => exact ⟨0, by omega, rfl, (by simpa [firstTo, lackTo, numCells] using World.ownsRow_nil _ _ _ _), Below.refl _ _⟩
  case round =>
    obtain ⟨k, hk, rfl, hown, hbel⟩ := hrel
    by_cases hlt : k < m.length
    · obtain ⟨hs, hhs⟩ : ∃ hs, (m.getD k none).isNone = hs := ⟨_, rfl⟩
      have d : wr.cell? ⟨gh, k, none⟩ = some (.bool (!hs)) := by
        rw [hbel.cell (p := ⟨gh, k, none⟩) hgh, H.out.2.2.cell k, List.getElem?_map, List.getElem?_eq_getElem hlt, ← hhs, List.getD, List.getElem?_eq_getElem hlt]
        cases m[k] <;> simp [pHas]
      have Hhs := Lib.hid hhs
      have hfl := firstTo_length m n k
      obtain ⟨ad, cap, rfl⟩ := row_shape hown
      clear hhs
      cases hs with
      | false =>
        have hst := Lib.hid (firstTo_has (n := n) Hhs.out)
        go_wp2
        go_roundw
        case rel => exact ⟨k + 1, by omega, by go_num, by rw [hst.out]; exact hown, hbel⟩
        case measure => simp [intOf]; omega
      | true =>
        obtain ⟨j, hj⟩ : ∃ j, j = (firstTo m n k).length := ⟨_, rfl⟩
        rw [← hj] at hown hfl
        rw [← hj]
        have Hj := Lib.hid hj
        by_cases hjn : (j : Int) < n
        · have hst := Lib.hid (firstTo_take (n := n) Hhs.out (by rw [← hj]; exact hjn))
          clear hj
          go_wp2_with (at_builtin; refine append_one rfl _ _ 39 rfl w.heap.size 3 1 8 Try.underlying39 _ info_int rfl (by decide) _ _ _ rfl hown [.int .i64 (k : Int)] rfl rfl (by simp [Value.oneCell']) ?c1 ?c2 ?c3 ?_)
          case c1 => unfold maxLen; omega
          case c2 => omega
          case c3 => exact hbel.size
          intro v' w1 hown3 hb3
          have hown4 : Hid (w1.ownsRow w.heap.size 3 1 v' (firstTo m n (k + 1)).length (numCells (firstTo m n (k + 1)))) := by
            show w1.ownsRow w.heap.size 3 1 v' _ _
            rw [hst.out, List.length_append, List.length_singleton, ← Hj.out]
            unfold numCells at hown3 ⊢
            rw [List.map_append]
            exact hown3
          clear hown3
          go_wp2
          go_roundw
          case rel => exact ⟨k + 1, by omega, by go_num, hown4.out, hbel.trans hb3⟩
          case measure => simp [intOf]; omega
        · have hst := Lib.hid (firstTo_full (n := n) Hhs.out (by rw [← hj]; exact hjn))
          clear hj
          go_wp2
          go_roundw
          case rel => exact ⟨k + 1, by omega, by go_num, by rw [hst.out, ← Hj.out]; exact hown, hbel⟩
          case measure => simp [intOf]; omega
    · have hkm := Lib.hid (show k = m.length by omega)
      go_wp2
      go_ret
      exact ⟨_, rfl, by rw [← hkm.out]; exact hown, hbel⟩
end Go.Proofs.Ytdhkdmnhkldebaa
