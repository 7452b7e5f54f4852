/- Plain laws of tallies: who has said it, and how many. No condition. -/
import Derived.Test.YtmmnaieikfekfaaGreatDoorTally
namespace Go.Proofs.YtmmnaieikfekfaaGreatDoor
open Go.RowKit
theorem info_bool : (Tryz.prog.info? 4).map (fun i => (i.zero, i.size, i.bytes)) = some (some (.bool false), 1, 1) := by kernel_rfl

/-- nobody is in it whose place is not below the number -/
def Tidy (m : List Bool) (o : Nat) : Prop := ∀ i, m.getD i false = true → i < o
theorem tidy_add {m : List Bool} {o : Nat} (x : Int) (h : Tidy m o) : Tidy (addTo m x o) o := by
  unfold addTo
  split
  · next hx =>
    intro i hi
    unfold isOne at hx
    simp at hx
    by_cases e : i = x.toNat
    · omega
    · rw [List.getD, List.getElem?_set_ne (fun h => e h.symm)] at hi
      exact h i hi
  · exact h
theorem add_same {m : List Bool} {o : Nat} {x : Int} (hx : isOne x o = true) (h : m.getD x.toNat false = true) : addTo m x o = m := by
  unfold addTo
  rw [if_pos hx]
  apply List.ext_getElem?
  intro i
  by_cases e : i = x.toNat
  · subst e
    rw [List.getD] at h
    rcases hq : m[x.toNat]? with _ | v
    · rw [hq] at h; cases h
    · rw [hq] at h
      have hl : x.toNat < m.length := (List.getElem?_eq_some_iff.1 hq).1
      rw [List.getElem?_set_self hl]
      exact congrArg some (Eq.symm h)
  · rw [List.getElem?_set_ne (fun h => e h.symm)]
theorem add_none {m : List Bool} {o : Nat} {x : Int} (hx : isOne x o = false) : addTo m x o = m := by
  unfold addTo; rw [if_neg (by simp [hx])]
theorem add_has {m : List Bool} {o : Nat} {x : Int} (hm : m.length = 9) (ho : o ≤ 9) : (decide (0 ≤ x) && decide (x < (o : Int)) && (addTo m x o).getD x.toNat false) = isOne x o := by
  have e : (decide (0 ≤ x) && decide (x < (o : Int))) = isOne x o := rfl
  rw [e]
  cases h : isOne x o
  · rfl
  · rw [Bool.true_and]
    unfold addTo
    rw [if_pos h]
    unfold isOne at h
    simp at h
    rw [List.getD, List.getElem?_set_self (by omega)]
    rfl
theorem cntTo_set (m : List Bool) (o j k : Nat) (hj : j < o) (hm : j < m.length) (hv : m.getD j false = false) : cntTo (m.set j true) o k = cntTo m o k + if j < k then 1 else 0 := by
  induction k with
  | zero => simp [cntTo]
  | succ k ih =>
    rw [cntTo_snoc, cntTo_snoc, ih, Int.toNat_natCast]
    by_cases e : j = k
    · subst e
      rw [hv]
      have : (m.set j true).getD j false = true := by rw [List.getD, List.getElem?_set_self hm]; rfl
      rw [this]
      simp [hj]
    · have : (m.set j true).getD k false = m.getD k false := by rw [List.getD, List.getD, List.getElem?_set_ne e]
      rw [this]
      by_cases h1 : j < k
      · rw [if_pos h1, if_pos (show j < k + 1 by omega)]; omega
      · rw [if_neg h1, if_neg (show ¬ j < k + 1 by omega)]; omega
theorem cnt_add {m : List Bool} {o : Nat} {x : Int} (hm : m.length = 9) (ho : o ≤ 9) (hx : isOne x o = true) (h : m.getD x.toNat false = false) : cnt (addTo m x o) o = cnt m o + 1 := by
  unfold addTo cnt
  rw [if_pos hx]
  unfold isOne at hx
  simp at hx
  rw [cntTo_set m o x.toNat 9 (by omega) (by omega) h, if_pos (by omega)]

theorem zero_getD (i : Nat) : (List.replicate 9 false).getD i false = false := by
  rw [List.getD, List.getElem?_replicate]; split <;> rfl
theorem cnt_zero (o : Nat) : cnt (List.replicate 9 false) o = 0 := by
  unfold cnt cntTo
  rw [List.countP_eq_zero]
  intro i _
  rw [zero_getD]
  simp
theorem tidy_zero (o : Nat) : Tidy (List.replicate 9 false) o := by
  intro i hi
  rw [zero_getD] at hi
  cases hi

end Go.Proofs.YtmmnaieikfekfaaGreatDoor
