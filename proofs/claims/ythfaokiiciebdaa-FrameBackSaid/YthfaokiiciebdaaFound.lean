/- The plain law of frames: a payload's frame is found again, wherever it stands; a frame that lacks bytes tells so. No program in sight beyond the seat's own names. -/
import Derived.Test.YthfaokiiciebdaaScan
import Derived.Test.YthfaokiiciebdaaAll
namespace Go.Proofs.Ythfaokiiciebdaa
open Go.RowKit

def toL (s : ByteArray) : List UInt8 := s.data.toList
theorem toL_inj {a b : ByteArray} (h : toL a = toL b) : a = b := by
  cases a; cases b
  simp only [toL] at h
  congr
  simpa using h
theorem toL_append (a b : ByteArray) : toL (a ++ b) = toL a ++ toL b := by simp [toL]
theorem toL_extract (s : ByteArray) (a b : Nat) : toL (s.extract a b) = ((toL s).take b).drop a := by simp [toL, List.drop_take]
theorem toL_length (s : ByteArray) : (toL s).length = s.size := by simp [toL]
theorem extract_append (a b c : ByteArray) : (a ++ b ++ c).extract a.size (a.size + b.size) = b := by
  apply toL_inj
  rw [toL_extract, toL_append, toL_append, ← toL_length a, ← toL_length b, ← List.length_append, List.take_left, List.drop_left]
theorem extract_tail (a b : ByteArray) : (a ++ b).extract a.size (a ++ b).size = b := by
  apply toL_inj
  rw [toL_extract, List.take_of_length_le (by rw [toL_length]; omega), toL_append, ← toL_length a, List.drop_left]
theorem append_assoc' (a b c : ByteArray) : a ++ b ++ c = a ++ (b ++ c) := by
  apply toL_inj
  simp only [toL_append, List.append_assoc]

/-- how a text with a frame ahead is made up -/
theorem frm_parts (p r : ByteArray) : frm p ++ r = sign2 ++ four p.size ++ four (csum (four p.size ++ p)) ++ p ++ r := rfl

theorem frm_at (p r : ByteArray) :
    (frm p ++ r).size = 10 + p.size + r.size ∧ (frm p ++ r).data.toList.getD 0 0 = 181 ∧ (frm p ++ r).data.toList.getD 1 0 = 126 ∧
    (frm p ++ r).extract 2 6 = four p.size ∧ (frm p ++ r).extract 6 10 = four (csum (four p.size ++ p)) ∧ (frm p ++ r).extract 10 (10 + p.size) = p := by
  have hl : ∀ t u : List UInt8, ([181, 126] ++ t ++ u).getD 0 0 = 181 ∧ ([181, 126] ++ t ++ u).getD 1 0 = 126 := fun t u => ⟨rfl, rfl⟩
  have hd : (frm p ++ r).data.toList = [181, 126] ++ (toL (four p.size) ++ toL (four (csum (four p.size ++ p))) ++ toL p) ++ toL r := by
    show toL (frm p ++ r) = _
    unfold frm
    simp only [toL_append, List.append_assoc]
    rfl
  refine ⟨by rw [ByteArray.size_append, frm_size], ?_, ?_, ?_, ?_, ?_⟩
  · rw [hd]; exact (hl _ _).1
  · rw [hd]; exact (hl _ _).2
  · have h := extract_append sign2 (four p.size) (four (csum (four p.size ++ p)) ++ (p ++ r))
    rw [four_size] at h
    rw [frm_parts, append_assoc', append_assoc']
    exact h
  · have h := extract_append (sign2 ++ four p.size) (four (csum (four p.size ++ p))) (p ++ r)
    rw [four_size, ByteArray.size_append, four_size] at h
    rw [frm_parts, append_assoc' _ p r]
    exact h
  · have h := extract_append (sign2 ++ four p.size ++ four (csum (four p.size ++ p))) p r
    rw [ByteArray.size_append, ByteArray.size_append, four_size, four_size] at h
    rw [frm_parts]
    exact h

theorem one_found (p r : ByteArray) (hp : p.size ≤ 65536) : one (frm p ++ r) = (p, 10 + p.size, 0) := by
  obtain ⟨h0, h1, h2, h3, h4, h5⟩ := frm_at p r
  have hc : cnum (four p.size) = p.size := cnum_four _ (by omega)
  have hs : cnum (four (csum (four p.size ++ p))) = csum (four p.size ++ p) := cnum_four _ (csum_lt _)
  rw [one, if_neg (by omega), h1, h2, if_neg (by rw [h0]; simp), if_neg (by omega), h3, hc, if_neg (by omega), if_neg (by omega), h5, h4, hs, if_neg (by simp)]

/-- the first bytes of a frame, some of them lacking -/
theorem one_lacks (p : ByteArray) (m : Nat) (hp : p.size ≤ 65536) (hm : 1 ≤ m) (hm2 : m < 10 + p.size) : ∃ q n, one ((frm p).extract 0 m) = (q, n, 3) := by
  obtain ⟨h0, h1, h2, h3, h4, h5⟩ := frm_at p ByteArray.empty
  have he : frm p ++ ByteArray.empty = frm p := by apply toL_inj; rw [toL_append]; simp [toL]
  rw [he] at h0 h1 h2 h3 h4 h5
  have hsz : ((frm p).extract 0 m).size = m := by
    rw [← toL_length, toL_extract, List.drop_zero, List.length_take, toL_length, frm_size]; omega
  have hg : ∀ i, i < m → ((frm p).extract 0 m).data.toList.getD i 0 = (frm p).data.toList.getD i 0 := by
    intro i hi
    show (toL _).getD i 0 = (toL _).getD i 0
    rw [toL_extract, List.drop_zero, List.getD, List.getD, List.getElem?_take_of_lt hi]
  have e0 := hg 0 (by omega)
  rw [h1] at e0
  by_cases hm1 : 1 < m
  · have e1 := hg 1 hm1
    rw [h2] at e1
    by_cases h6 : m < 6
    · exact ⟨_, _, by rw [one, hsz, if_neg (by omega), e0, e1, if_neg (by simp), if_pos h6]⟩
    · have e2 : ((frm p).extract 0 m).extract 2 6 = four p.size := by
        rw [← h3]
        apply toL_inj
        rw [toL_extract, toL_extract, toL_extract, List.drop_zero, List.take_take, Nat.min_eq_left (by omega)]
      have hc : cnum (four p.size) = p.size := cnum_four _ (by omega)
      exact ⟨_, _, by rw [one, hsz, if_neg (by omega), e0, e1, if_neg (by simp), if_neg h6, e2, hc, if_neg (by omega), if_pos (by omega)]⟩
  · exact ⟨_, _, by rw [one, hsz, if_neg (by omega), e0, if_neg (by intro h; rcases h with h | h; exact h (by decide); omega), if_pos (by omega)]⟩

theorem one_noise (s : ByteArray) (h : 0 < s.size) (h2 : (s.data.toList.getD 0 0) ≠ 181) : ∃ q n, one s = (q, n, 5) := by
  have hn : (s.data.toList.getD 0 0).toNat ≠ 181 := fun h3 => h2 (UInt8.toNat_inj.1 h3)
  exact ⟨_, _, by rw [one, if_neg (by omega), if_pos (Or.inl hn)]⟩

/-- bytes ahead of a frame, none of which is its first byte -/
theorem scanF_lost (q p : ByteArray) (hp : p.size ≤ 65536) (hq : ∀ c ∈ toL q, c ≠ 181) : ∀ (d a f : Nat), a + d = q.size → (q ++ frm p).size ≤ a + f → scanF f (q ++ frm p) a = ([p], (q ++ frm p).size, d) := by
  have hsz : (q ++ frm p).size = q.size + (10 + p.size) := by rw [ByteArray.size_append, frm_size]
  intro d
  induction d with
  | zero =>
    intro a f ha hf
    have hE : frm p ++ ByteArray.empty = frm p := by apply toL_inj; rw [toL_append]; simp [toL]
    have h1 := one_found p ByteArray.empty hp
    rw [hE] at h1
    have hx : (q ++ frm p).extract a (q ++ frm p).size = frm p := by
      rw [show a = q.size by omega]
      exact extract_tail q (frm p)
    match f, hf with
    | 0, hf => omega
    | f + 1, hf =>
      have h2 : scanF f (q ++ frm p) (a + (10 + p.size)) = ([], a + (10 + p.size), 0) := by
        cases f with
        | zero => rfl
        | succ f => rw [scanF, if_neg (by omega)]
      rw [scanF, if_pos (by omega), hx, h1, if_neg (by simp), if_pos rfl, h2, hsz, show a = q.size by omega]
  | succ d ih =>
    intro a f ha hf
    match f, hf with
    | 0, hf => omega
    | f + 1, hf =>
      have hx : 0 < ((q ++ frm p).extract a (q ++ frm p).size).size := by
        rw [← toL_length, toL_extract, List.length_drop, List.take_of_length_le (by rw [toL_length]; omega), toL_length]; omega
      have hlt : a < (toL q).length := by rw [toL_length]; omega
      have hb : ((q ++ frm p).extract a (q ++ frm p).size).data.toList.getD 0 0 = (toL q)[a] := by
        show (toL _).getD 0 0 = _
        rw [toL_extract, List.take_of_length_le (by rw [toL_length]; omega), toL_append, List.getD, List.getElem?_drop, Nat.add_zero, List.getElem?_append_left hlt, List.getElem?_eq_getElem hlt]
        rfl
      obtain ⟨x, n, h5⟩ := one_noise _ hx (by rw [hb]; exact hq _ (List.getElem_mem hlt))
      rw [scanF, if_pos (by omega), h5, if_neg (by simp), if_neg (by simp), ih (a + 1) f (by omega) (by omega)]

theorem scan_lost (q p : ByteArray) (hp : p.size ≤ 65536) (hq : ∀ c ∈ toL q, c ≠ 181) : scan (q ++ frm p) = ([p], (q ++ frm p).size, q.size) :=
  scanF_lost q p hp hq q.size 0 _ (by omega) (by omega)

theorem toL_frames (ss : List ByteArray) : toL (frames ss) = framesL ss := by simp [toL, frames]
theorem frames_cons (p : ByteArray) (ss : List ByteArray) : frames (p :: ss) = frm p ++ frames ss := by
  apply toL_inj
  rw [toL_append, toL_frames, toL_frames]
  rfl
theorem frames_snoc (ss : List ByteArray) (p : ByteArray) : frames (ss ++ [p]) = frames ss ++ frm p := by
  apply toL_inj
  rw [toL_append, toL_frames, toL_frames, framesL_snoc]
  rfl

/-- frames one behind the other, ahead of them x, behind them what tells nothing more (nothing, or a frame that lacks bytes) -/
theorem scanF_found (t : ByteArray) (ht : t.size = 0 ∨ ∃ q n, one t = (q, n, 3)) : ∀ (ss : List ByteArray) (x : ByteArray) (f : Nat), (∀ p ∈ ss, p.size ≤ 65536) → (x ++ frames ss ++ t).size ≤ x.size + f →
    scanF f (x ++ frames ss ++ t) x.size = (ss, x.size + (frames ss).size, 0) := by
  intro ss
  induction ss with
  | nil =>
    intro x f _ hf
    have h0 : (frames []).size = 0 := rfl
    have hsz : (x ++ frames [] ++ t).size = x.size + t.size := by rw [ByteArray.size_append, ByteArray.size_append, h0]; omega
    have hx : (x ++ frames [] ++ t).extract x.size (x ++ frames [] ++ t).size = t := by
      have := extract_tail x (frames [] ++ t)
      rw [← append_assoc'] at this
      rw [this]
      apply toL_inj
      rw [toL_append, toL_frames]
      rfl
    cases f with
    | zero => rfl
    | succ f =>
      by_cases h : x.size < (x ++ frames [] ++ t).size
      · rcases ht with ht | ⟨q, n, ht⟩
        · omega
        · rw [scanF, if_pos h, hx, ht, if_pos rfl]; rfl
      · rw [scanF, if_neg h]; rfl
  | cons p ss ih =>
    intro x f hp hf
    have hsz : (x ++ frames (p :: ss) ++ t).size = x.size + (10 + p.size + (frames ss).size) + t.size := by
      rw [ByteArray.size_append, ByteArray.size_append, frames_cons, ByteArray.size_append, frm_size]
    have hx : (x ++ frames (p :: ss) ++ t).extract x.size (x ++ frames (p :: ss) ++ t).size = frm p ++ (frames ss ++ t) := by
      have := extract_tail x (frames (p :: ss) ++ t)
      rw [← append_assoc'] at this
      rw [this, frames_cons, append_assoc']
    match f, hf with
    | 0, hf => omega
    | f + 1, hf =>
      have h2 := ih (x ++ frm p) f (fun q hq => hp q (by simp [hq])) (by
        rw [ByteArray.size_append, ByteArray.size_append, ByteArray.size_append, frm_size]; omega)
      have e : x ++ frm p ++ frames ss ++ t = x ++ frames (p :: ss) ++ t := by rw [frames_cons, append_assoc' x]
      rw [e, ByteArray.size_append, frm_size] at h2
      rw [scanF, if_pos (by omega), hx, one_found p _ (hp p (by simp)), if_neg (by simp), if_pos rfl, h2]
      rw [frames_cons, ByteArray.size_append, frm_size]
      simp
      omega

theorem scan_found (ss : List ByteArray) (h : ∀ p ∈ ss, p.size ≤ 65536) : scan (frames ss) = (ss, (frames ss).size, 0) := by
  have h1 := scanF_found ByteArray.empty (Or.inl rfl) ss ByteArray.empty (frames ss).size h
  have e : ByteArray.empty ++ frames ss ++ ByteArray.empty = frames ss := by apply toL_inj; rw [toL_append, toL_append]; simp [toL]
  rw [e] at h1
  have h2 := h1 (by omega)
  have e0 : ByteArray.empty.size = 0 := rfl
  rw [e0, Nat.zero_add] at h2
  exact h2

/-- the last frame lacks bytes -/
theorem scan_cut (ss : List ByteArray) (p : ByteArray) (m : Nat) (h : ∀ q ∈ ss, q.size ≤ 65536) (hp : p.size ≤ 65536) (hm : m < 10 + p.size) :
    scan ((frames (ss ++ [p])).extract 0 ((frames ss).size + m)) = (ss, (frames ss).size, 0) := by
  have e : (frames (ss ++ [p])).extract 0 ((frames ss).size + m) = ByteArray.empty ++ frames ss ++ (frm p).extract 0 m := by
    apply toL_inj
    rw [toL_extract, toL_append, toL_append, toL_extract, frames_snoc, toL_append, ← toL_length (frames ss), List.drop_zero, List.drop_zero, List.take_append, List.take_of_length_le (by omega)]
    simp [toL]
  have ht : ((frm p).extract 0 m).size = 0 ∨ ∃ q n, one ((frm p).extract 0 m) = (q, n, 3) := by
    by_cases h0 : m = 0
    · subst h0; left; rw [← toL_length, toL_extract]; simp
    · right; exact one_lacks p m hp (by omega) hm
  have h1 := scanF_found ((frm p).extract 0 m) ht ss ByteArray.empty ((frames (ss ++ [p])).extract 0 ((frames ss).size + m)).size h (by rw [← e]; omega)
  rw [← e] at h1
  have e0 : ByteArray.empty.size = 0 := rfl
  rw [e0, Nat.zero_add] at h1
  exact h1
end Go.Proofs.Ythfaokiiciebdaa
