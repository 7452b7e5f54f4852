/- The plain law of parts coming together: whatever parts of one text are put in, nothing is refused; once none lacks, it is the text. -/
import Derived.Test.YtdhkdmnhkldebaaRefCut
import Derived.Test.YtdhkdmnhkldebaaChunkOther
import Derived.Test.YtdhkdmnhkldebaaMissing
import Derived.Test.YtdhkdmnhkldebaaJoin2
namespace Go.Proofs.Ytdhkdmnhkldebaa
open Go.RowKit

def texts (m : List (Option ByteArray)) : List ByteArray := m.map fun o => o.getD ByteArray.empty
theorem texts_total (m : List (Option ByteArray)) : total (texts m) = size m := by unfold total texts size; rw [List.map_map]; rfl
theorem piece_toL (s : ByteArray) (k j : Nat) : toL (piece s k j) = ((toL s).take ((j + 1) * k)).drop (j * k) := by
  unfold piece
  rw [toL_extract]
  congr 1
  by_cases h : (j + 1) * k ≤ s.size
  · rw [Nat.min_eq_left h]
  · rw [Nat.min_eq_right (by omega), List.take_of_length_le (by rw [toL_length]; omega), List.take_of_length_le (by rw [toL_length]; omega)]
theorem flat_pieces (s : ByteArray) (k j : Nat) : flat (piecesTo s k j) = (toL s).take (j * k) := by
  induction j with
  | zero => simp [piecesTo, flat]
  | succ j ih =>
    rw [piecesTo_succ, flat_snoc, ih]
    show (toL s).take (j * k) ++ toL (piece s k j) = _
    rw [piece_toL]
    have h : (toL s).take (j * k) = ((toL s).take ((j + 1) * k)).take (j * k) := by
      rw [List.take_take, Nat.min_eq_left (Nat.mul_le_mul_right _ (by omega))]
    rw [h, List.take_append_drop]
theorem npieces_cover (S k : Nat) (hk : 1 ≤ k) : S ≤ npieces S k * k := by
  apply Nat.le_of_not_lt
  intro h
  have h1 : 1 ≤ npieces S k := by unfold npieces; omega
  have h2 := more_pieces S k (npieces S k - 1) hk
  rw [Nat.sub_add_cancel h1] at h2
  have := h2.1 h
  omega
theorem flat_all (s : ByteArray) (k : Nat) (hk : 1 ≤ k) : flat (piecesTo s k (npieces s.size k)) = toL s := by
  rw [flat_pieces]
  exact List.take_of_length_le (by rw [toL_length]; exact npieces_cover s.size k hk)

/-- a box that holds parts of s, cut at k, in their places -/
def Fits (s : ByteArray) (k : Nat) (m : List (Option ByteArray)) : Prop :=
  m.length = npieces s.size k ∧ ∀ i, i < m.length → m.getD i none = none ∨ m.getD i none = some (piece s k i)
theorem fits_new (s : ByteArray) (k : Nat) : Fits s k (List.replicate (npieces s.size k) none) := by
  refine ⟨List.length_replicate, fun i hi => Or.inl ?_⟩
  rw [List.length_replicate] at hi
  simp [List.getD, hi]

theorem total_le : ∀ (m : List (Option ByteArray)) (f : Nat → ByteArray), (∀ i, i < m.length → m.getD i none = none ∨ m.getD i none = some (f i)) → size m ≤ total ((List.range m.length).map f) := by
  intro m
  induction m with
  | nil => intro f _; simp [size, total]
  | cons o m ih =>
    intro f h
    have h2 := ih (fun i => f (i + 1)) (fun i hi => by have := h (i + 1) (by simpa using hi); simpa using this)
    have h0 := h 0 (by simp)
    have e : (List.range (o :: m).length).map f = f 0 :: (List.range m.length).map (fun i => f (i + 1)) := by
      rw [List.length_cons, List.range_succ_eq_map, List.map_cons, List.map_map]; rfl
    rw [e]
    unfold size total at h2 ⊢
    rw [List.map_cons, List.sum_cons, List.map_cons, List.sum_cons]
    have h3 : (o.getD ByteArray.empty).size ≤ (f 0).size := by
      have h0' : o = none ∨ o = some (f 0) := by simpa using h0
      rcases h0' with rfl | rfl
      · show ByteArray.empty.size ≤ _; exact Nat.zero_le _
      · exact Nat.le_refl _
    omega
theorem fits_size {s : ByteArray} {k : Nat} {m : List (Option ByteArray)} (hk : 1 ≤ k) (h : Fits s k m) : size m ≤ s.size := by
  have h1 := total_le m (piece s k) h.2
  rw [h.1] at h1
  have h2 : total (piecesTo s k (npieces s.size k)) = s.size := by rw [← flat_length, flat_all s k hk, toL_length]
  unfold piecesTo at h2
  omega
theorem piece_size (s : ByteArray) (k i : Nat) : (piece s k i).size ≤ s.size := by
  rw [← toL_length, piece_toL, List.length_drop, List.length_take, toL_length]; omega

theorem fits_put {s : ByteArray} {k i : Nat} {m : List (Option ByteArray)} (hk : 1 ≤ k) (hs : s.size ≤ 20000) (h : Fits s k m) (hi : i < m.length) :
    ∃ m', putOf m i m.length (piece s k i) = (m', 0) ∧ Fits s k m' ∧ ∀ j, j < m.length → m'.getD j none = none → m.getD j none = none ∧ j ≠ i := by
  have hg : m.getD i none = m[i] := by rw [List.getD, List.getElem?_eq_getElem hi]; rfl
  rcases h.2 i hi with h0 | h0
  · rw [hg] at h0
    refine ⟨m.set i (some (piece s k i)), putOf_new hi h0 _ (by have := fits_size hk h; have := piece_size s k i; omega), ⟨by rw [List.length_set]; exact h.1, ?_⟩, ?_⟩
    · intro j hj
      rw [List.length_set] at hj
      by_cases hij : i = j
      · subst hij; right; simp [List.getD, hj]
      · have := h.2 j hj
        simpa [List.getD, hij] using this
    · intro j hj hn
      by_cases hij : i = j
      · subst hij; simp [List.getD, hj] at hn
      · exact ⟨by simpa [List.getD, hij] using hn, fun e => hij e.symm⟩
  · rw [hg] at h0
    refine ⟨m, by rw [putOf_old hi h0, if_pos rfl], h, fun j hj hn => ⟨hn, ?_⟩⟩
    rintro rfl
    rw [hg, h0] at hn
    exact absurd hn (by simp)

theorem lackTo_mem (m : List (Option ByteArray)) (k j : Nat) : j ∈ lackTo m k ↔ j < k ∧ m.getD j none = none := by
  induction k with
  | zero => simp [lackTo]
  | succ k ih =>
    rw [lackTo]
    split
    · next h =>
      rw [List.mem_append, ih, List.mem_singleton]
      constructor
      · rintro (⟨h1, h2⟩ | rfl)
        · exact ⟨by omega, h2⟩
        · exact ⟨by omega, by simpa using h⟩
      · rintro ⟨h1, h2⟩
        by_cases hjk : j = k
        · exact Or.inr hjk
        · exact Or.inl ⟨by omega, h2⟩
    · next h =>
      rw [ih]
      constructor
      · rintro ⟨h1, h2⟩; exact ⟨by omega, h2⟩
      · rintro ⟨h1, h2⟩
        have hjk : j ≠ k := by rintro rfl; rw [h2] at h; exact h rfl
        exact ⟨by omega, h2⟩
theorem firstTo_all (m : List (Option ByteArray)) (n : Nat) (h : m.length ≤ n) : firstTo m (n : Int) m.length = lackTo m m.length := by
  unfold firstTo
  exact List.take_of_length_le (by have := lackTo_length m m.length; omega)

/-- none lacks: it is the text -/
theorem fits_full {s : ByteArray} {k : Nat} {m : List (Option ByteArray)} (hk : 1 ≤ k) (h : Fits s k m) (hn : ∀ j, j < m.length → m.getD j none ≠ none) :
    (⟨(flat (texts m)).toArray⟩ : ByteArray) = s ∧ left m = 0 ∧ ∀ n : Int, firstTo m n m.length = [] := by
  have ht : texts m = piecesTo s k (npieces s.size k) := by
    unfold texts piecesTo
    apply List.ext_getElem
    · rw [List.length_map, List.length_map, List.length_range]; exact h.1
    · intro i h1 h2
      rw [List.length_map] at h1
      have hg : m.getD i none = m[i] := by rw [List.getD, List.getElem?_eq_getElem h1]; rfl
      have h3 := (h.2 i h1).resolve_left (hn i h1)
      rw [hg] at h3
      rw [List.getElem_map, List.getElem_map, List.getElem_range, h3]
      rfl
  refine ⟨?_, ?_, ?_⟩
  · apply toL_inj
    rw [ht, flat_all s k hk]
    simp [toL]
  · unfold left
    rw [List.countP_eq_zero]
    intro o ho
    obtain ⟨i, hi, rfl⟩ := List.getElem_of_mem ho
    have hg : m.getD i none = m[i] := by rw [List.getD, List.getElem?_eq_getElem hi]; rfl
    have h3 := hn i hi
    rw [hg] at h3
    cases hq : m[i] with
    | none => exact absurd hq h3
    | some u => simp
  · intro n
    have he : lackTo m m.length = [] := by
      apply List.eq_nil_iff_forall_not_mem.2
      intro j hj
      have := (lackTo_mem m m.length j).1 hj
      exact hn j this.1 this.2
    unfold firstTo
    rw [he]
    simp
end Go.Proofs.Ytdhkdmnhkldebaa
