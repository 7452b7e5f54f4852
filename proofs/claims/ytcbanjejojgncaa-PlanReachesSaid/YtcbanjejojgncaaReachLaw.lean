/- What Reached's number is: one of them, a majority is not below it, and no majority is above it. Plain; no condition. -/
import Derived.Test.YtcbanjejojgncaaPlan
namespace Go.Proofs.Ytcbanjejojgncaa

theorem sorted_perm (l : List Int) : (sorted l).Perm l := List.mergeSort_perm l _
theorem sorted_le (l : List Int) (i j : Nat) (hi : i < (sorted l).length) (hj : j < (sorted l).length) (h : i ≤ j) : (sorted l)[i] ≤ (sorted l)[j] := by
  rcases Nat.eq_or_lt_of_le h with rfl | h
  · exact Int.le_refl _
  · have hp : List.Pairwise (fun a b : Int => decide (a ≤ b) = true) (sorted l) := List.pairwise_mergeSort (by intro a b c; simp; omega) (by intro a b; simp; omega) l
    have hq := List.pairwise_iff_getElem.1 hp i j hi hj h
    simpa using hq

theorem reach_at (l : List Int) (h : l.length ≠ 0) : ∃ hp : l.length - major l.length < (sorted l).length, reach l = (sorted l)[l.length - major l.length] := by
  have hs := sorted_length l
  have hp : l.length - major l.length < (sorted l).length := by unfold major; omega
  refine ⟨hp, ?_⟩
  unfold reach
  rw [if_neg h, List.getD, List.getElem?_eq_getElem hp]
  rfl
theorem reach_mem (l : List Int) (h : l.length ≠ 0) : reach l ∈ l := by
  obtain ⟨hp, hr⟩ := reach_at l h
  rw [hr]
  exact (sorted_perm l).mem_iff.1 (List.getElem_mem hp)
theorem reach_least (l : List Int) (h : l.length ≠ 0) : l.length < 2 * l.countP (fun x => decide (reach l ≤ x)) := by
  obtain ⟨hp, hr⟩ := reach_at l h
  have hs := sorted_length l
  rw [← (sorted_perm l).countP_eq]
  have hc : ((sorted l).drop (l.length - major l.length)).countP (fun x => decide (reach l ≤ x)) = ((sorted l).drop (l.length - major l.length)).length := by
    rw [List.countP_eq_length]
    intro x hx
    obtain ⟨j, hj, rfl⟩ := List.mem_iff_getElem.1 hx
    rw [List.length_drop] at hj
    rw [List.getElem_drop, hr]
    simp only [decide_eq_true_eq]
    exact sorted_le l _ _ _ _ (Nat.le_add_right _ _)
  have e : (sorted l).countP (fun x => decide (reach l ≤ x)) = ((sorted l).take (l.length - major l.length)).countP (fun x => decide (reach l ≤ x)) + ((sorted l).drop (l.length - major l.length)).countP (fun x => decide (reach l ≤ x)) := by
    rw [← List.countP_append, List.take_append_drop]
  rw [e, hc, List.length_drop, hs]
  unfold major
  omega
theorem reach_more (l : List Int) (h : l.length ≠ 0) : 2 * l.countP (fun x => decide (reach l < x)) ≤ l.length := by
  obtain ⟨hp, hr⟩ := reach_at l h
  have hs := sorted_length l
  rw [← (sorted_perm l).countP_eq]
  have hc : ((sorted l).take (l.length - major l.length + 1)).countP (fun x => decide (reach l < x)) = 0 := by
    rw [List.countP_eq_zero]
    intro x hx
    obtain ⟨j, hj, rfl⟩ := List.mem_iff_getElem.1 hx
    rw [List.length_take] at hj
    rw [List.getElem_take, hr]
    simp only [decide_eq_true_eq]
    have := sorted_le l j (l.length - major l.length) (by omega) hp (by omega)
    omega
  have e : (sorted l).countP (fun x => decide (reach l < x)) = ((sorted l).take (l.length - major l.length + 1)).countP (fun x => decide (reach l < x)) + ((sorted l).drop (l.length - major l.length + 1)).countP (fun x => decide (reach l < x)) := by
    rw [← List.countP_append, List.take_append_drop]
  have hd : ((sorted l).drop (l.length - major l.length + 1)).countP (fun x => decide (reach l < x)) ≤ (sorted l).length - (l.length - major l.length + 1) := by
    have := List.countP_le_length (p := fun x => decide (reach l < x)) (l := (sorted l).drop (l.length - major l.length + 1))
    rwa [List.length_drop] at this
  rw [e, hc]
  rw [hs] at hd
  unfold major at hd ⊢
  omega

theorem countP_snoc (p : Int → Bool) (l : List Int) (k : Nat) (hk : k < l.length) : (l.take (k + 1)).countP p = (l.take k).countP p + if p l[k] then 1 else 0 := by
  rw [List.take_succ_eq_append_getElem hk, List.countP_append, List.countP_cons, List.countP_nil, Nat.zero_add]
theorem mem_snoc (r : Int) (l : List Int) (k : Nat) (hk : k < l.length) : decide (r ∈ l.take (k + 1)) = (decide (r ∈ l.take k) || (l[k] == r)) := by
  rw [List.take_succ_eq_append_getElem hk, Bool.eq_iff_iff]
  simp only [List.mem_append, List.mem_singleton, decide_eq_true_eq, Bool.or_eq_true, beq_iff_eq]
  constructor
  · rintro (h | h)
    · exact Or.inl h
    · exact Or.inr h.symm
  · rintro (h | h)
    · exact Or.inl h
    · exact Or.inr h.symm
end Go.Proofs.Ytcbanjejojgncaa
