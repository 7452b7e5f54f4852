/- The walk of strings.Join with an empty separator. Condition: the texts take at most 2^40 bytes together, and are at most 2^20. -/
import Derived.Test.YtdhkdmnhkldebaaBuilder
namespace Go.Proofs.Ytdhkdmnhkldebaa
open Go.RowKit

def flat (ss : List ByteArray) : List UInt8 := ss.flatMap fun s => s.data.toList
def total (ss : List ByteArray) : Nat := (ss.map fun s => s.size).sum
theorem flat_length (ss : List ByteArray) : (flat ss).length = total ss := by
  unfold flat total
  induction ss with
  | nil => rfl
  | cons s ss ih => rw [List.flatMap_cons, List.length_append, ih, List.map_cons, List.sum_cons]; simp
theorem flat_snoc (ss : List ByteArray) (s : ByteArray) : flat (ss ++ [s]) = flat ss ++ s.data.toList := by unfold flat; rw [List.flatMap_append]; simp
theorem total_snoc (ss : List ByteArray) (s : ByteArray) : total (ss ++ [s]) = total ss + s.size := by unfold total; rw [List.map_append, List.sum_append]; simp
theorem total_take (ss : List ByteArray) (k : Nat) : total (ss.take k) ≤ total ss := by
  unfold total
  conv => rhs; rw [← List.take_append_drop k ss, List.map_append, List.sum_append]
  omega

theorem at_same (ss : List ByteArray) (a b : Nat) (h : a = b) (ha : a < ss.length) : ss[a] = ss[b]'(h ▸ ha) := by subst h; rfl

set_option maxRecDepth 100000 in
set_option maxHeartbeats 2000000 in
theorem join_many (g cap : Nat) (ss : List ByteArray) (n : Nat) (w : World) (hn : ss.length = n) (h2 : 2 ≤ n) (hmax : n ≤ 1048576) (ht : total ss ≤ 1099511627776) (hg : g < w.heap.size)
    (hc : ∀ k (hk : k < ss.length), w.cell? ⟨g, k, none⟩ = some (.string ss[k])) (hcap : n ≤ cap) (hcap2 : cap ≤ 9223372036854775807) :
    Calls Try.prog 23 #[.slice (some ⟨g, 0, none⟩) n cap, .string ByteArray.empty] w fun e w' => e = .returned (.string ⟨(flat ss).toArray⟩) ∧ Below w.heap.size w w' := by
  have hse : ByteArray.empty.size = 0 := rfl
  have Hn := Lib.hid hn
  have Hc := Lib.hid hc
  clear hc hn
  go_enter Try.func23, Try.ntmps23
  go_wp2
  go_loop [5, 41] (fun t i => ∃ k : Nat, k ≤ n ∧ i = .int .i64 k ∧ t = .int .i64 (total (ss.take k) : Nat)) (fun _ i => n - (intOf i).toNat)
  case atStart => exact ⟨0, by omega, rfl, rfl⟩
  case round =>
    obtain ⟨k, hk, rfl, rfl⟩ := hrel
    by_cases hlt : k < n
    · have hkl : k < ss.length := by rw [Hn.out]; exact hlt
      have hck := Hc.out k hkl
      have hsn := Lib.hid (show ss.take (k + 1) = ss.take k ++ [ss[k]] by rw [List.take_succ_eq_append_getElem hkl])
      have h1 := total_take ss (k + 1)
      rw [hsn.out, total_snoc] at h1
      have hT : total (ss.take k) + ss[k].size ≤ 1099511627776 := by omega
      have Hkl := Lib.hid hkl
      clear h1
      go_wp2
      go_round
      case rel => exact ⟨k + 1, by omega, by go_num, val_int (by rw [hsn.out, total_snoc]; omega)⟩
      case measure => simp [intOf]; omega
    · have hkn := Lib.hid (show ss.take k = ss from List.take_of_length_le (by rw [Hn.out]; omega))
      have hl0 : 0 < ss.length := by rw [Hn.out]; omega
      have hc0 := Hc.out 0 hl0
      have Hl0 := Lib.hid hl0
      rw [hkn.out]
      go_wp2_with fail
      refine (Try.Builder_Grow_fresh w.heap.size w.heap.size (total ss) _ (Nat.le_refl _) (heap_alloc_new w _) (by simp) (by omega)).mono ?_
      rintro e w1 ⟨rfl, hat1, hb1⟩
      have hb01 : Below w.heap.size w w1 := (((Below.refl w.heap.size w).alloc (Nat.le_refl _) _)).trans hb1
      have hs1 := hb01.size
      have hc01 : w1.cell? ⟨g, 0, none⟩ = some (.string ss[0]) := by rw [hb01.cell (p := ⟨g, 0, none⟩) hg]; exact hc0
      have Hat1 := Lib.hid (show Lib.IsBuilder 67 5 w.heap.size w.heap.size [] w1 from Or.inr hat1)
      have h0t := total_take ss 1
      have e1 : ss.take 1 = [ss[0]] := by
        have := List.take_succ_eq_append_getElem (l := ss) (i := 0) Hl0.out
        exact this
      rw [e1] at h0t
      have h0s : ss[0].size ≤ total ss := by simpa [total] using h0t
      have E1 := Lib.hid e1
      clear hat1 hb1 h0t e1
      go_wp2_with fail
      refine (writeString_any w.heap.size w.heap.size _ _ _ Hat1.out (by simp; omega) (by omega)).mono ?_
      rintro e w2 ⟨rfl, hat2, hb2⟩
      have hb02 := hb01.trans hb2
      have hs2 := hb02.size
      have Hat2 : Hid (Lib.IsBuilder 67 5 w.heap.size w.heap.size (Lib.byteCells (flat (ss.take (0 + 1)))) w2) := by
        refine Or.inr ?_
        rw [E1.out]
        simpa [flat, Lib.byteCells, Lib.strCells] using hat2
      clear hat2 hb2
      have hcap1 : (1 : Int) < (cap : Int) := by omega
      have hn1 : (1 : Int) < (n : Int) := by omega
      go_wp2
      go_loopw [65] (fun i wr => ∃ j : Nat, j ≤ n - 1 ∧ i = .int .i64 j ∧ Hid (Lib.IsBuilder 67 5 w.heap.size w.heap.size (Lib.byteCells (flat (ss.take (j + 1)))) wr) ∧ Below w.heap.size w wr ∧ w.heap.size ≤ wr.heap.size) (fun i _ => n - 1 - (intOf i).toNat)
      case atStart => exact ⟨0, by omega, rfl, Hat2, hb02, hs2⟩
      case round =>
        obtain ⟨j, hj, rfl, hbu, hbel, hsz⟩ := hrel
        by_cases hjl : j < n - 1
        · have hjs : 1 + j < ss.length := by rw [Hn.out]; omega
          have hcj : wr.cell? ⟨g, 1 + j, none⟩ = some (.string ss[1 + j]) := by rw [hbel.cell (p := ⟨g, 1 + j, none⟩) hg]; exact Hc.out (1 + j) hjs
          have hsn := Lib.hid (show ss.take (j + 1 + 1) = ss.take (j + 1) ++ [ss[1 + j]] by
            have h := List.take_succ_eq_append_getElem (l := ss) (i := j + 1) (by omega)
            rw [h]
            congr 2
            exact at_same ss _ _ (by omega) _)
          have h1 := total_take ss (j + 1 + 1)
          rw [hsn.out, total_snoc] at h1
          have hT : total (ss.take (j + 1)) + ss[1 + j].size ≤ 1099511627776 := by omega
          have Hjs := Lib.hid hjs
          clear h1
          go_wp2_with fail
          refine (writeString_any w.heap.size w.heap.size _ _ _ hbu.out (by rw [Lib.byteCells_length, flat_length, hse]; omega) (by omega)).mono ?_
          rintro e w3 ⟨rfl, hat3, hb3⟩
          have hb03 := hbel.trans hb3
          have hs3 := hb03.size
          have Hat3 : Hid (Lib.IsBuilder 67 5 w.heap.size w.heap.size (Lib.byteCells (flat (ss.take (j + 1)))) w3) := by
            refine Or.inr ?_
            have he : Lib.strCells ByteArray.empty = [] := rfl
            rw [he, List.append_nil] at hat3
            exact hat3
          have hcj3 : w3.cell? ⟨g, 1 + j, none⟩ = some (.string ss[1 + j]) := by rw [hb03.cell (p := ⟨g, 1 + j, none⟩) hg]; exact Hc.out (1 + j) Hjs.out
          clear hat3 hb3
          go_wp2_with fail
          refine (writeString_any w.heap.size w.heap.size _ _ _ Hat3.out (by rw [Lib.byteCells_length, flat_length]; omega) (by omega)).mono ?_
          rintro e w4 ⟨rfl, hat4, hb4⟩
          have hb04 := hb03.trans hb4
          have hs4 := hb04.size
          have Hat4 : Hid (Lib.IsBuilder 67 5 w.heap.size w.heap.size (Lib.byteCells (flat (ss.take (j + 1 + 1)))) w4) := by
            refine Or.inr ?_
            rw [hsn.out, flat_snoc]
            simpa [Lib.byteCells, Lib.strCells] using hat4
          clear hat4 hb4
          go_wp2
          go_roundw
          case rel => exact ⟨j + 1, by omega, by go_num, Hat4, hb04, hs4⟩
          case measure => simp [intOf]; omega
        · have hjn := Lib.hid (show ss.take (j + 1) = ss from List.take_of_length_le (by rw [Hn.out]; omega))
          go_wp2_with fail
          refine (Try.Builder_String_any w.heap.size w.heap.size _ _ hbu.out (by omega)).mono ?_
          rintro e w3 ⟨rfl, hb3⟩
          rw [hjn.out]
          go_wp2
          go_ret
          exact ⟨rfl, hbel.trans hb3⟩

set_option maxHeartbeats 400000 in
theorem join_one (g cap : Nat) (s : ByteArray) (w : World) (hc : w.cell? ⟨g, 0, none⟩ = some (.string s)) :
    Calls Try.prog 23 #[.slice (some ⟨g, 0, none⟩) 1 cap, .string ByteArray.empty] w fun e w' => e = .returned (.string s) ∧ w = w' := by
  go_enter Try.func23, Try.ntmps23
  go_wp2
  go_ret
  exact ⟨rfl, rfl⟩

theorem join_any (g cap : Nat) (ss : List ByteArray) (n : Nat) (w : World) (hn : ss.length = n) (h1 : 1 ≤ n) (hmax : n ≤ 1048576) (ht : total ss ≤ 1099511627776) (hg : g < w.heap.size)
    (hc : ∀ k (hk : k < ss.length), w.cell? ⟨g, k, none⟩ = some (.string ss[k])) (hcap : n ≤ cap) (hcap2 : cap ≤ 9223372036854775807) :
    Calls Try.prog 23 #[.slice (some ⟨g, 0, none⟩) n cap, .string ByteArray.empty] w fun e w' => e = .returned (.string ⟨(flat ss).toArray⟩) ∧ Below w.heap.size w w' := by
  by_cases h2 : 2 ≤ n
  · exact join_many g cap ss n w hn h2 hmax ht hg hc hcap hcap2
  · have hn1 : n = 1 := by omega
    subst hn1
    obtain ⟨s, rfl⟩ := List.length_eq_one_iff.1 hn
    refine (join_one g cap s w (hc 0 (by simp))).mono ?_
    rintro e w' ⟨rfl, rfl⟩
    refine ⟨?_, Below.refl _ _⟩
    simp [flat]
end Go.Proofs.Ytdhkdmnhkldebaa
