/- The document's box: All, Missing, Put; and the comparison of lists of numbers. Conditions: sizes. -/
import Derived.Test.YtdhkdmnhkldebaaMissing
import Derived.Test.YtdhkdmnhkldebaaClear
namespace Go.Proofs.Ytdhkdmnhkldebaa
open Go.RowKit
set_option linter.unusedVariables false

def pPlace (o : Option ByteArray) : List Value := [pHas o, pStr o]
/-- the document's box in block q, its places in gl -/
def RefAt (w : World) (q gl : Nat) (m : List (Option ByteArray)) : Prop :=
  Blk w q [.slice (some ⟨gl, 0, none⟩) m.length m.length] 49 ∧ Blk w gl (m.flatMap pPlace) 64
theorem flat_len (m : List (Option ByteArray)) : (m.flatMap pPlace).length = m.length * 2 := by
  induction m with
  | nil => rfl
  | cons o r ih => rw [List.flatMap_cons, List.length_append, ih]; simp [pPlace]; omega
theorem flat_at (m : List (Option ByteArray)) (i j : Nat) (hi : i < m.length) (hj : j < 2) : (m.flatMap pPlace)[i * 2 + j]? = (pPlace m[i])[j]? := by
  induction m generalizing i with
  | nil => simp at hi
  | cons o r ih =>
    rw [List.flatMap_cons]
    have hl : (pPlace o).length = 2 := rfl
    cases i with
    | zero => rw [List.getElem?_append_left (by omega)]; simp
    | succ i =>
      rw [List.getElem?_append_right (by omega), hl, show (i + 1) * 2 + j - 2 = i * 2 + j by omega]
      exact ih i (by simpa using hi)
theorem flat_set (m : List (Option ByteArray)) (i : Nat) (o : Option ByteArray) (hi : i < m.length) : ((m.flatMap pPlace).set (i * 2) (pHas o)).set (i * 2 + 1) (pStr o) = (m.set i o).flatMap pPlace := by
  induction m generalizing i with
  | nil => simp at hi
  | cons p r ih =>
    cases i with
    | zero => simp [pPlace]
    | succ i =>
      have := ih i (by simpa using hi)
      rw [List.set_cons_succ, List.flatMap_cons, List.flatMap_cons, ← this]
      have e1 : (i + 1) * 2 = i * 2 + 1 + 1 := by omega
      simp [pPlace, e1, List.set_cons_succ]
theorem RefAt.cells {w : World} {q gl : Nat} {m : List (Option ByteArray)} (h : RefAt w q gl m) (i : Nat) (hi : i < m.length) : w.cell? ⟨gl, i * 2, none⟩ = some (pHas m[i]) ∧ w.cell? ⟨gl, i * 2 + 1, none⟩ = some (pStr m[i]) :=
  ⟨by have := h.2.cell (i * 2 + 0); rw [flat_at m i 0 hi (by omega)] at this; exact this, by have := h.2.cell (i * 2 + 1); rw [flat_at m i 1 hi (by omega)] at this; exact this⟩
theorem RefAt.below {w w' : World} {q gl : Nat} {m : List (Option ByteArray)} (h : RefAt w q gl m) (hb : Below w.heap.size w w') : RefAt w' q gl m := ⟨h.1.below hb, h.2.below hb⟩
/-- the texts ahead of place k, one behind the other -/
def allTo (m : List (Option ByteArray)) (k : Nat) : ByteArray := (m.take k).foldl (fun s o => s ++ o.getD ByteArray.empty) ByteArray.empty
theorem allTo_succ {m : List (Option ByteArray)} {k : Nat} (hk : k < m.length) : allTo m (k + 1) = allTo m k ++ (m[k]).getD ByteArray.empty := by
  unfold allTo
  rw [List.take_succ_eq_append_getElem hk, List.foldl_append]
  rfl
theorem allTo_size {m : List (Option ByteArray)} : ∀ k, k ≤ m.length → (allTo m k).size = size (m.take k)
  | 0, _ => by simp [allTo, size]
  | k + 1, h => by
    rw [allTo_succ (by omega), ByteArray.size_append, allTo_size k (by omega), List.take_succ_eq_append_getElem (show k < m.length by omega)]
    unfold size
    rw [List.map_append, List.sum_append]
    simp
theorem size_take_le (m : List (Option ByteArray)) (k : Nat) : size (m.take k) ≤ size m := by
  unfold size
  conv => rhs; rw [← List.take_append_drop k m, List.map_append, List.sum_append]
  omega

set_option maxRecDepth 100000 in
theorem refAll_any (q gl : Nat) (m : List (Option ByteArray)) (w : World) (h : RefAt w q gl m) (hm : m.length ≤ 4096) (hs : size m ≤ 524288) :
    Calls Try.prog 27 #[.pointer (some ⟨q, 0, none⟩)] w fun e w' => e = .returned (.string (allTo m m.length)) ∧ w = w' := by
  have c0 : w.cell? ⟨q, 0, none⟩ = some (.slice (some ⟨gl, 0, none⟩) m.length m.length) := h.1.cell 0
  have H := Lib.hid h
  clear h
  go_enter Try.func27, Try.ntmps27
  go_wp2_with fail
  go_loop [3, 4] (fun s i => ∃ k : Nat, k ≤ m.length ∧ i = .int .i64 k ∧ s = .string (allTo m k)) (fun _ i => m.length - (intOf i).toNat)
  case atStart => exact ⟨0, Nat.zero_le _, rfl, rfl⟩
  case round =>
    obtain ⟨k, hk, rfl, rfl⟩ := hrel
    by_cases hlt : k < m.length
    · obtain ⟨d1, d2⟩ := H.out.cells k hlt
      have hsz := allTo_size (m := m) k hk
      have hsl := size_take_le m k
      have hsz2 := allTo_size (m := m) (k + 1) hlt
      have hsl2 := size_take_le m (k + 1)
      have hsn := allTo_succ hlt
      have hadd : (allTo m (k + 1)).size = (allTo m k).size + ((m[k]).getD ByteArray.empty).size := by rw [hsn, ByteArray.size_append]
      have hno : ¬ (9223372036854775807 < (allTo m k).size + ((m[k]).getD ByteArray.empty).size) := by omega
      unfold pStr at d2
      generalize (m[k]).getD ByteArray.empty = t at *
      have Hsn := Lib.hid hsn
      clear d1 hsn hsz hsl hsz2 hsl2 hadd
      go_wp2_with fail
      go_round
      case rel => exact ⟨k + 1, hlt, by go_num, by rw [Hsn.out]⟩
      case measure => simp [intOf]; omega
    · obtain rfl : k = m.length := by omega
      go_wp2_with fail
      go_ret
      exact ⟨rfl, rfl⟩
set_option maxRecDepth 100000 in
theorem refMissing_any (q gl : Nat) (m : List (Option ByteArray)) (w : World) (h : RefAt w q gl m) (hm : m.length ≤ 4096) :
    Calls Try.prog 22 #[.pointer (some ⟨q, 0, none⟩)] w fun e w' => ∃ v, e = .returned v ∧ w'.ownsRow w.heap.size 3 1 v (lackTo m m.length).length (numCells (lackTo m m.length)) ∧ Below w.heap.size w w' := by
  have c0 : w.cell? ⟨q, 0, none⟩ = some (.slice (some ⟨gl, 0, none⟩) m.length m.length) := h.1.cell 0
  have hq := h.1.lt
  have hgl := h.2.lt
  have H := Lib.hid h
  clear h
  go_enter Try.func22, Try.ntmps22
  go_wp2_with fail
  go_loopw [3, 4] (fun v i wr => ∃ k : Nat, k ≤ m.length ∧ i = .int .i64 k ∧ Hid (wr.ownsRow w.heap.size 3 1 v (lackTo m k).length (numCells (lackTo m k))) ∧ Hid (Below w.heap.size w wr)) (fun _ i _ => m.length - (intOf i).toNat)
  case atStart => exact ⟨0, Nat.zero_le _, rfl, Lib.hid (by simpa [lackTo, numCells] using World.ownsRow_nil _ _ _ _), Lib.hid (Below.refl _ _)⟩
  case round =>
    obtain ⟨k, hk, rfl, HO, HB⟩ := hrel
    have cq : wr.cell? ⟨q, 0, none⟩ = some (.slice (some ⟨gl, 0, none⟩) m.length m.length) := (HB.out.cell (p := ⟨q, 0, none⟩) hq).trans c0
    clear c0
    by_cases hlt : k < m.length
    · have d1 := (H.out.below HB.out).cells k hlt |>.1
      have hll := lackTo_length m k
      obtain ⟨hs, hhs⟩ : ∃ hs, hs = (m.getD k none).isNone := ⟨_, rfl⟩
      have d1' : wr.cell? ⟨gl, k * 2, none⟩ = some (.bool (!hs)) := by
        rw [d1, hhs, List.getD, List.getElem?_eq_getElem hlt]
        unfold pHas
        cases m[k] <;> rfl
      have hst : lackTo m (k + 1) = if hs then lackTo m k ++ [k] else lackTo m k := by rw [hhs]; rfl
      have Hst := Lib.hid hst
      clear d1 hst hhs
      cases hs with
      | false =>
        have HO2 := Lib.hid (show wr.ownsRow w.heap.size 3 1 _ (lackTo m (k + 1)).length (numCells (lackTo m (k + 1))) by rw [Hst.out]; exact HO.out)
        clear HO
        go_wp2_with fail
        go_roundw
        case rel => exact ⟨k + 1, hlt, by go_num, HO2, HB⟩
        case measure => simp [intOf]; omega
      | true =>
        obtain ⟨ad, cap, hv⟩ := row_shape HO.out
        subst hv
        obtain ⟨j, hj⟩ : ∃ j, j = (lackTo m k).length := ⟨_, rfl⟩
        have hown := HO.out
        rw [← hj] at hown hll ⊢
        have Hj := Lib.hid hj
        clear hj HO
        go_wp2_with (at_builtin; refine append_one rfl _ _ 39 rfl w.heap.size 3 1 8 Try.underlying39 _ info_int rfl (by decide) _ _ _ rfl hown [.int .i64 (k : Int)] rfl rfl (by simp [Value.oneCell']) ?c1 ?c2 ?c3 ?_)
        case c1 => unfold maxLen; omega
        case c2 => omega
        case c3 => exact HB.out.size
        intro v' w1 hown3 hb3
        have HO4 := Lib.hid (show w1.ownsRow w.heap.size 3 1 v' (lackTo m (k + 1)).length (numCells (lackTo m (k + 1))) by
          rw [Hst.out, if_pos trivial, List.length_append, List.length_singleton, ← Hj.out]
          unfold numCells at hown3 ⊢
          rw [List.map_append]
          exact hown3)
        have HB4 := Lib.hid (HB.out.trans hb3)
        clear hown3 hown hb3 cq
        go_wp2_with fail
        go_roundw
        case rel => exact ⟨k + 1, hlt, by go_num, HO4, HB4⟩
        case measure => simp [intOf]; omega
    · obtain rfl : k = m.length := by omega
      go_wp2_with fail
      go_ret
      exact ⟨_, rfl, HO.out, HB.out⟩
end Go.Proofs.Ytdhkdmnhkldebaa
