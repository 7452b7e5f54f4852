/- What lasts of one write whose pieces have fates: plain laws. No condition. -/
import Derived.Test.YtlmodbaeoheiiaaDiskFuse
namespace Go.Proofs.Ytlmodbaeoheiiaa
open Go.RowKit
set_option linter.unusedVariables false

def stepL (p : DPiece) (n : Nat) (b : List UInt8) : List UInt8 := if 0 < n then layB b (spot p) (p.text.data.toList.take n) else b
def tornL : List DPiece → List Int → List UInt8 → List UInt8
  | p :: r, x :: xs, b => tornL r xs (stepL p (fateN p x) b)
  | [], _, b => b
  | _ :: _, [], b => b
theorem tornL_nil (ps : List DPiece) (b : List UInt8) : tornL ps [] b = b := by cases ps <;> rfl
theorem lastF_one (p : DPiece) (n : Nat) (nm : ByteArray) (b s : List UInt8) (hp : p.id = 0) : lastF p n ⟨0, nm, b, s⟩ = ⟨0, nm, stepL p n b, s⟩ := by
  unfold lastF stepL
  by_cases h : 0 < n
  · rw [if_pos ⟨hp.symm, h⟩, if_pos h]
  · rw [if_neg (fun hq => h hq.2), if_neg h]
theorem crash_one : ∀ (ps : List DPiece) (l : List Int) (nm : ByteArray) (b s : List UInt8), (∀ p ∈ ps, p.id = 0) → crashF (ps.zip l) [⟨0, nm, b, s⟩] = [⟨0, nm, tornL ps l b, s⟩]
  | [], l, nm, b, s, _ => by cases l <;> rfl
  | p :: r, [], nm, b, s, _ => rfl
  | p :: r, x :: xs, nm, b, s, h => by
    show crashF (r.zip xs) ([⟨0, nm, b, s⟩].map (lastF p (fateN p x))) = _
    rw [List.map_cons, List.map_nil, lastF_one p _ nm b s (h p (List.mem_cons_self ..)), crash_one r xs nm _ s (fun q hq => h q (List.mem_cons_of_mem _ hq))]
    rfl
theorem cutsP_id (id : Int) : ∀ (m a : Nat) (t : ByteArray), ∀ p ∈ cutsP id m a t, p.id = id := by
  intro m
  induction m with
  | zero => intro a t p hp; cases hp
  | succ m ih =>
    intro a t p hp
    unfold cutsP at hp
    split at hp
    · cases hp
    · rcases List.mem_cons.1 hp with rfl | hp
      · rfl
      · exact ih _ _ p hp
/-- how many bytes of a piece of n bytes the i-th fate keeps -/
def keptN (l : List Int) (i n : Nat) : Nat := match l[i]? with
  | some x => if x = 2 then n / 2 else if x = 1 then n else 0
  | none => 0
def nextL (W : List UInt8) (a k : Nat) (t : ByteArray) : List UInt8 := if 0 < k then layB W a (t.data.toList.take k) else W
theorem keptN_le (l : List Int) (i n : Nat) : keptN l i n ≤ n := by
  unfold keptN
  split
  · split
    · omega
    · split <;> omega
  · omega
theorem torn_round {l : List Int} {i m a : Nat} {t : ByteArray} {W : List UInt8} (hm : t.size ≤ m) (ht : 0 < t.size) :
    tornL (cutsP 0 m a t) (l.drop i) W = tornL (cutsP 0 (m - 1) (a + room a t) (t.extract (room a t) t.size)) (l.drop (i + 1)) (nextL W a (keptN l i (room a t)) t) := by
  obtain ⟨r1, r2, r3⟩ := room_pos (a := a) ht
  rcases Nat.lt_or_ge i l.length with hi | hi
  · rw [List.drop_eq_getElem_cons hi, cutsP_cons hm ht]
    show tornL _ _ (stepL _ _ _) = _
    congr 1
    have hes : (t.extract 0 (room a t)).size = room a t := by rw [ByteArray.size_extract]; omega
    have hk : fateN ⟨0, ((a / 64 : Nat) : Int), ((a % 64 : Nat) : Int), t.extract 0 (room a t)⟩ l[i] = keptN l i (room a t) := by
      unfold fateN keptN
      rw [List.getElem?_eq_getElem hi]
      show (if _ then (t.extract 0 (room a t)).size / 2 else if _ then (t.extract 0 (room a t)).size else 0) = _
      rw [hes]
    rw [hk]
    unfold stepL nextL
    by_cases h0 : 0 < keptN l i (room a t)
    · rw [if_pos h0, if_pos h0]
      have hs : spot ⟨0, ((a / 64 : Nat) : Int), ((a % 64 : Nat) : Int), t.extract 0 (room a t)⟩ = a := by
        unfold spot
        show (((a / 64 : Nat) : Int) * 64 + ((a % 64 : Nat) : Int)).toNat = a
        omega
      rw [hs, extract_take, List.take_take, Nat.min_eq_left (keptN_le _ _ _)]
    · rw [if_neg h0, if_neg h0]
  · rw [List.drop_eq_nil_of_le hi, List.drop_eq_nil_of_le (by omega), tornL_nil, tornL_nil]
    unfold nextL keptN
    rw [List.getElem?_eq_none hi]
    rfl

/-- bytes grown to hold k more from a on -/
def wide (W : List UInt8) (a k : Nat) : List UInt8 := W ++ List.replicate (a + k - W.length) 0
theorem wide_length (W : List UInt8) (a k : Nat) : (wide W a k).length = max W.length (a + k) := by
  unfold wide
  rw [List.length_append, List.length_replicate]
  omega
def mid (E T : List UInt8) (a j : Nat) : List UInt8 := E.take a ++ T.take j ++ E.drop (a + j)
theorem mid_zero (E T : List UInt8) (a : Nat) : mid E T a 0 = E := by unfold mid; simp
theorem mid_length {E T : List UInt8} {a j : Nat} (h : a + j ≤ E.length) (hj : j ≤ T.length) : (mid E T a j).length = E.length := by
  unfold mid
  simp only [List.length_append, List.length_take, List.length_drop]
  omega
theorem mid_set {E T : List UInt8} {a j : Nat} (h : a + j < E.length) (hj : j < T.length) : (mid E T a j).set (a + j) T[j] = mid E T a (j + 1) := by
  unfold mid
  have h1 : (E.take a ++ T.take j).length = a + j := by simp only [List.length_append, List.length_take]; omega
  rw [List.set_append_right _ _ (by omega), h1, Nat.sub_self, List.drop_eq_getElem_cons h, List.set_cons_zero, List.take_succ_eq_append_getElem hj]
  simp only [List.append_assoc, List.cons_append, List.nil_append]
  rfl
theorem mid_lay {W T : List UInt8} {a k : Nat} (hk : k ≤ T.length) : mid (wide W a k) T a k = layB W a (T.take k) := by
  unfold mid layB wide
  rw [List.length_take, Nat.min_eq_left hk]
  congr 1
  · congr 1
    rw [List.take_append, List.take_append, List.take_replicate, List.take_replicate]
    congr 2
    omega
  · rw [List.drop_append, List.drop_replicate, show a + k - W.length - (a + k - W.length) = 0 by omega]
    simp
theorem bytes_set (l : List UInt8) (k : Nat) (x : UInt8) : (bytesVals l).set k (.int .u8 (x.toNat : Int)) = bytesVals (l.set k x) := by unfold bytesVals; rw [List.map_set]
/-- a byte stored in an owned row -/
theorem row_setCell {w : World} {base g n cap k : Nat} {xs : List Value} (h : w.ownsRow base 5 1 (.slice (some ⟨g, 0, none⟩) n cap) n xs) (hk : k < n) (v : Value) :
    (w.setCell ⟨g, k, none⟩ v).ownsRow base 5 1 (.slice (some ⟨g, 0, none⟩) n cap) n (xs.set k v) := by
  obtain ⟨h1, h2⟩ := h
  refine ⟨by rw [List.length_set]; exact h1, ?_⟩
  rcases h2 with ⟨h2, _⟩ | ⟨g', cap', cur, hv, hg, hb, hnc, hc, hcs, ht⟩
  · cases h2
  · injection hv with hv1 _ hv2
    injection hv1 with hv1
    injection hv1 with hv1
    subst hv1; subst hv2
    refine Or.inr ⟨g, cap, (cur.toList.set k v).toArray, rfl, hg, ?_, hnc, hc, by simpa using hcs, ?_⟩
    · have hB : Blk w g cur.toList 5 := by unfold Blk; simpa using hb
      exact hB.set k v
    · rw [Nat.mul_one] at ht ⊢
      show (cur.toList.set k v).take n = xs.set k v
      rw [List.take_set, ht]
theorem row_free {w : World} {base g n cap : Nat} {xs : List Value} (h : w.ownsRow base 5 1 (.slice (some ⟨g, 0, none⟩) n cap) n xs) (k : Nat) : w.frozen? ⟨g, k, none⟩ = false := by
  rcases h.2 with ⟨h2, _⟩ | ⟨g', cap', cur, hv, hg, hb, _⟩
  · cases h2
  · injection hv with hv1 _ hv2
    injection hv1 with hv1
    injection hv1 with hv1
    subst hv1
    have hB : Blk w g cur.toList 5 := by unfold Blk; simpa using hb
    exact hB.free k
end Go.Proofs.Ytlmodbaeoheiiaa
