/- The walks of plan.Majority, plan.Ballot and plan.Reached, and of the laws' examples. No condition. -/
import Derived.Test.YtogobhpnlndcaaaGreatKit
import Derived.Test.YtogobhpnlndcaaaGreatShelf
import Derived.Lib.OwnBridge
namespace Go.Proofs.YtogobhpnlndcaaaGreat
open Go.RowKit

def major (n : Nat) : Nat := n / 2 + 1

theorem majority_any (n : Nat) (w : World) (h : n ≤ 4611686018427387904) :
    Calls Tryz.prog 20 #[.int .i64 (n : Int)] w fun e w' => e = .returned (.int .i64 (major n : Int)) ∧ w = w' := by
  go_enter Tryz.func20, Tryz.ntmps20
  go_wp2_with fail
  go_ret
  refine ⟨ret_int ?_, rfl⟩
  unfold major
  omega

def BalOk (a i : Int) : Prop := 0 ≤ i ∧ i < 4 ∧ 1 ≤ a ∧ a ≤ 1099511627776
theorem ballot_ok (a i : Int) (w : World) (h : BalOk a i) :
    Calls Tryz.prog 19 #[.int .i64 a, .int .i64 i] w fun e w' => e = .returned (.tuple #[.int .i64 (a * 4 + i), .int .i64 0]) ∧ w = w' := by
  obtain ⟨h1, h2, h3, h4⟩ := h
  have hd : (decide (i < 0) || decide (4 ≤ i) || decide (a < 1) || decide (1099511627776 < a)) = false := by simp; omega
  go_enter Tryz.func19, Tryz.ntmps19
  go_wp2_with fail
  go_ret2
  exact ⟨rfl, rfl⟩
theorem ballot_no (a i : Int) (w : World) (h : ¬ BalOk a i) :
    Calls Tryz.prog 19 #[.int .i64 a, .int .i64 i] w fun e w' => e = .returned (.tuple #[.int .i64 0, .int .i64 1]) ∧ w = w' := by
  unfold BalOk at h
  have hd : (decide (i < 0) || decide (4 ≤ i) || decide (a < 1) || decide (1099511627776 < a)) = true := by simp; omega
  clear h
  go_enter Tryz.func19, Tryz.ntmps19
  go_wp2_with fail
  all_goals (go_ret2; exact ⟨rfl, rfl⟩)

def sorted (l : List Int) : List Int := l.mergeSort fun x y => decide (x ≤ y)
theorem sorted_length (l : List Int) : (sorted l).length = l.length := List.length_mergeSort l
def reach (l : List Int) : Int := if l.length = 0 then 0 else (sorted l).getD (l.length - major l.length) 0

theorem reached_any (w : World) (ad : Option Addr) (cap : Nat) (l : List Int) (hl : l.length ≤ 1000000) (h : IntsAt .i64 w ad l) :
    Calls Tryz.prog 21 #[.slice ad l.length cap] w fun e w' => e = .returned (.int .i64 (reach l)) ∧ Below w.heap.size w w' := by
  obtain ⟨n, hn⟩ : ∃ n, n = l.length := ⟨_, rfl⟩
  rw [← hn]
  by_cases h0 : n = 0
  · have hd : ((n : Int) == 0) = true := by rw [h0]; rfl
    have hr : reach l = 0 := by unfold reach; rw [if_pos (by omega)]
    rw [hr]
    clear hr h0 hn hl h
    go_enter Tryz.func21, Tryz.ntmps21
    go_wp2_with fail
    go_ret
    exact ⟨rfl, Below.refl _ _⟩
  · have hd : ((n : Int) == 0) = false := by simp; omega
    obtain ⟨b, off, rfl, hb, hc⟩ : ∃ b off, ad = some ⟨b, off, none⟩ ∧ b < w.heap.size ∧ ∀ i (hi : i < l.length), w.cell? ⟨b, off + i, none⟩ = some (.int .i64 l[i]) := by
      rcases h with h | h
      · subst h; exact absurd hn h0
      · exact h
    clear h
    have hcell : ∀ j, j < l.length → w.cell? ⟨b, off + j, none⟩ = some (.int .i64 (l.getD j 0)) := fun j hj => by
      rw [hc j hj, List.getD, List.getElem?_eq_getElem hj]; rfl
    have Hcell := Lib.hid hcell
    have Hn := Lib.hid hn
    have hn1 : n ≤ 1000000 := by omega
    have hn2 : 1 ≤ n := by omega
    clear hc hcell hn
    go_enter Tryz.func21, Tryz.ntmps21
    go_wp2_with fail
    refine (Tryz.slices_Clone_int b off n cap l w (Nat.le_of_eq Hn.out) (by omega) Hcell.out).mono ?_
    rintro e w1 ⟨v, rfl, hown, hv, hb1⟩
    obtain ⟨g, cap2, rfl, hg1, hg2, hnc, hcm, hlen, hH⟩ := Lib.holds_of_ownsRow hown hv
    rw [List.take_of_length_le (Nat.le_of_eq Hn.out.symm)] at hH hown
    have hsz : g < w1.heap.size := hg2
    clear hv
    have Hown := Lib.hid hown
    have HH := Lib.hid hH
    clear hown hH
    go_wp2_with fail
    have hsort := Tryz.slices_Sort_int g 0 cap2 l w1 HH.out hsz (by have := Hn.out; omega)
    rw [← Hn.out] at hsort
    refine hsort.mono ?_
    rintro e w2 ⟨rfl, q, os, hw2⟩
    have hown2 := Lib.ownsRow_putRow (q := q) (k := n) (ys := sorted l) Hown.out ((sorted_length l).trans Hn.out.symm) (Nat.le_refl _)
    have hb2 : Below w.heap.size w (Go.Sort.putRow (Value.int .i64) (Go.Sort.ahead w1 q) g 0 (sorted l).toArray) := Lib.below_putRow hb1 hg1
    have hcell2 : ∀ k, k < n → w2.cell? ⟨g, k, none⟩ = some (.int .i64 ((sorted l).getD k 0)) := by
      intro k hk
      have hlt : g < (Go.Sort.putRow (Value.int .i64) (Go.Sort.ahead w1 q) g 0 (sorted l).toArray).heap.size := by
        simpa [Go.Sort.putRow, Go.Sort.mapBlock, Go.Sort.ahead] using hsz
      rw [hw2]
      show (Go.Sort.grow (Go.Sort.putRow (Value.int .i64) (Go.Sort.ahead w1 q) g 0 (sorted l).toArray) os).cell? _ = _
      rw [Go.Sort.cell?_grow _ _ _ hlt]
      have hsl : (sorted l).length = n := (sorted_length l).trans Hn.out.symm
      rw [hown2.cellAt (j := k) (by simp; omega), List.take_of_length_le (by omega), List.getElem?_map, List.getD, List.getElem?_eq_getElem (by omega)]
      rfl
    have hb3 : Below w.heap.size w w2 := by
      rw [hw2]
      exact ⟨hb2.os, hb2.tape, hb2.output, Nat.le_trans hb2.size (by rw [Go.Sort.size_grow]; exact Nat.le_add_right _ _), fun k hk => by
        rw [← hb2.block k hk]
        exact Go.Sort.heap_grow_old _ _ (Nat.lt_of_lt_of_le hk hb2.size)⟩
    clear hown2 hb2 hw2 hsort Hown HH hb1
    have hm : major n ≤ n := by unfold major; omega
    obtain ⟨p, hp⟩ : ∃ p, p = n - major n := ⟨_, rfl⟩
    have hm1 : 1 ≤ major n := by unfold major; omega
    have hpi : (n : Int) - (major n : Int) = (p : Int) := by omega
    have hpn : p < n := by omega
    have hc2 := hcell2 p hpn
    have hr : reach l = (sorted l).getD p 0 := by unfold reach; rw [if_neg (by have := Hn.out; omega), hp, Hn.out]
    rw [← hr] at hc2
    clear hr hcell2 hp
    go_wp2_with fail
    refine (majority_any n _ (by omega)).mono ?_
    rintro e wx ⟨rfl, rfl⟩
    go_wp2_with fail
    go_ret
    exact ⟨rfl, hb3⟩

theorem reach_513 : reach [5, 1, 3] = 3 := by
  have hs : sorted [5, 1, 3] = [1, 3, 5] := by simp [sorted, List.mergeSort, List.MergeSort.Internal.splitInTwo]
  simp [reach, hs, major]
theorem awake_any (w : World) : Calls Tryz.prog 10 #[] w fun e w' => e = .returned (.bool true) ∧ Below w.heap.size w w' := by
  go_enter Tryz.func10, Tryz.ntmps10
  go_wp2_with fail
  refine (ballot_ok 1 2 _ (by unfold BalOk; omega)).mono ?_
  rintro e wx ⟨rfl, rfl⟩
  go_wp2_with fail
  refine (majority_any 4 _ (by omega)).mono ?_
  rintro e wx ⟨rfl, rfl⟩
  have hm : (major 4 : Int) = 3 := rfl
  rw [hm]
  have hb := (Below.refl w.heap.size w)
  go_wp2_with fail
  refine (reached_any _ (some ⟨w.heap.size, 0, none⟩) 3 [5, 1, 3] (by decide) (Or.inr ⟨w.heap.size, 0, rfl, by simp, ?_⟩)).mono ?_
  · intro i hi
    rw [Nat.zero_add, World.cell?_alloc_new]
    match i, hi with
    | 0, _ => rfl
    | 1, _ => rfl
    | 2, _ => rfl
  rintro e w1 ⟨rfl, hb1⟩
  rw [reach_513]
  have hb2 := below_step ((Below.refl w.heap.size w).alloc (Nat.le_refl _) _) hb1
  clear hb hb1
  go_wp2_with fail
  go_ret
  exact ⟨rfl, hb2⟩
end Go.Proofs.YtogobhpnlndcaaaGreat
