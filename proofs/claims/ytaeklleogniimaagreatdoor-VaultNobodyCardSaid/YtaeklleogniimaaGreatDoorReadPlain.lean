/- The plain words of a reader of bytes: a number's bytes are read back. No condition. -/
import Derived.Test.YtaeklleogniimaaGreatDoorCodeNum
namespace Go.Proofs.YtaeklleogniimaaGreatDoor
set_option linter.unusedVariables false

/-- a reader: what is left, and its first error -/
structure Rr where
  l : List UInt8
  e : Int
def rnum : List UInt8 → Nat → Nat → Nat × Rr
  | [], _, _ => (0, ⟨[], 3⟩)
  | c :: r, i, acc =>
    if (i = 8 ∧ 63 < c.toNat) ∨ (0 < i ∧ c.toNat = 0) then (0, ⟨r, 5⟩)
    else if c.toNat < 128 then (acc + c.toNat % 128 * 128 ^ i, ⟨r, 0⟩)
    else rnum r (i + 1) (acc + c.toNat % 128 * 128 ^ i)
def Rr.num (R : Rr) : Nat × Rr := if R.e = 0 then rnum R.l 0 0 else (0, R)
def Rr.raw (R : Rr) (n : Nat) : List UInt8 × Rr := if R.e = 0 then (if R.l.length < n then ([], ⟨R.l, 3⟩) else (R.l.take n, ⟨R.l.drop n, 0⟩)) else ([], R)
def Rr.count (R : Rr) (most : Nat) : Nat × Rr := if R.num.2.e = 0 ∧ most < R.num.1 then (0, ⟨R.num.2.l, 4⟩) else R.num
def Rr.fin (R : Rr) : Rr := if R.e = 0 ∧ R.l ≠ [] then ⟨R.l, 4⟩ else R
/-- a number that was read is one of the program's -/
theorem rnum_lt : ∀ (l : List UInt8) (i acc : Nat), i ≤ 8 → acc < 128 ^ i → (rnum l i acc).1 < 4611686018427387904
  | [], i, acc, _, _ => by unfold rnum; decide
  | c :: r, i, acc, hi, ha => by
    unfold rnum
    by_cases h1 : (i = 8 ∧ 63 < c.toNat) ∨ (0 < i ∧ c.toNat = 0)
    · rw [if_pos h1]; exact (by decide : (0 : Nat) < 4611686018427387904)
    · rw [if_neg h1]
      have hc := c.toNat_lt
      have hm : c.toNat % 128 ≤ 127 := by omega
      have hmul : c.toNat % 128 * 128 ^ i ≤ 127 * 128 ^ i := Nat.mul_le_mul_right _ hm
      have hp : (128 : Nat) ^ (i + 1) = 128 * 128 ^ i := by rw [Nat.pow_succ, Nat.mul_comm]
      by_cases h8 : i = 8
      · subst h8
        have h63 : c.toNat ≤ 63 := by
          have : ¬ 63 < c.toNat := fun h => h1 (Or.inl ⟨rfl, h⟩)
          omega
        rw [if_pos (by omega)]
        have e8 : (128 : Nat) ^ 8 = 72057594037927936 := by decide
        rw [e8] at ha ⊢
        show acc + c.toNat % 128 * 72057594037927936 < _
        omega
      · by_cases hl : c.toNat < 128
        · rw [if_pos hl]
          have h7 : (128 : Nat) ^ (i + 1) ≤ 128 ^ 8 := Nat.pow_le_pow_right (by decide) (by omega)
          have e8 : (128 : Nat) ^ 8 = 72057594037927936 := by decide
          show acc + c.toNat % 128 * 128 ^ i < _
          omega
        · rw [if_neg hl]
          exact rnum_lt r (i + 1) _ (by omega) (by omega)
theorem Rr.num_lt (R : Rr) : R.num.1 < 4611686018427387904 := by
  unfold Rr.num
  by_cases h : R.e = 0
  · rw [if_pos h]; exact rnum_lt _ 0 0 (by decide) (by decide)
  · rw [if_neg h]; exact (by decide : (0 : Nat) < 4611686018427387904)
/-- a number that is read takes a byte at least -/
theorem rnum_len : ∀ (l : List UInt8) (i acc : Nat), (rnum l i acc).2.e = 0 → (rnum l i acc).2.l.length < l.length
  | [], i, acc, h => by unfold rnum at h; exact absurd h (by decide)
  | c :: r, i, acc, h => by
    unfold rnum at h ⊢
    by_cases h1 : (i = 8 ∧ 63 < c.toNat) ∨ (0 < i ∧ c.toNat = 0)
    · rw [if_pos h1] at h; exact absurd (show (5 : Int) = 0 from h) (by decide)
    · rw [if_neg h1] at h ⊢
      by_cases hl : c.toNat < 128
      · rw [if_pos hl]; exact Nat.lt_succ_self _
      · rw [if_neg hl] at h ⊢
        exact Nat.lt_succ_of_lt (rnum_len r (i + 1) _ h)
theorem rnum_le : ∀ (l : List UInt8) (i acc : Nat), (rnum l i acc).2.l.length ≤ l.length
  | [], i, acc => by unfold rnum; exact Nat.le_refl _
  | c :: r, i, acc => by
    unfold rnum
    by_cases h1 : (i = 8 ∧ 63 < c.toNat) ∨ (0 < i ∧ c.toNat = 0)
    · rw [if_pos h1]; exact Nat.le_succ _
    · rw [if_neg h1]
      by_cases hl : c.toNat < 128
      · rw [if_pos hl]; exact Nat.le_succ _
      · rw [if_neg hl]
        exact Nat.le_succ_of_le (rnum_le r (i + 1) _)
theorem Rr.num_len (R : Rr) (h : R.num.2.e = 0) : R.num.2.l.length < R.l.length := by
  unfold Rr.num at h ⊢
  by_cases h0 : R.e = 0
  · rw [if_pos h0] at h ⊢; exact rnum_len _ 0 0 h
  · rw [if_neg h0] at h; exact absurd h h0
theorem Rr.num_le (R : Rr) : R.num.2.l.length ≤ R.l.length := by
  unfold Rr.num
  by_cases h0 : R.e = 0
  · rw [if_pos h0]; exact rnum_le _ 0 0
  · rw [if_neg h0]; exact Nat.le_refl _
theorem Rr.num_e (R : Rr) (h : R.e ≠ 0) : R.num = (0, R) := by unfold Rr.num; rw [if_neg h]
theorem Rr.num_e0 (R : Rr) (h : R.num.2.e = 0) : R.e = 0 := by
  by_cases h0 : R.e = 0
  · exact h0
  · rw [R.num_e h0] at h; exact h
theorem ofNat_toNat {n : Nat} (h : n < 256) : (UInt8.ofNat n).toNat = n := by
  simp [UInt8.toNat_ofNat']; omega
theorem rnum_back (k : Nat) : ∀ (n i acc : Nat) (rest : List UInt8), n < 128 ^ k → i ≤ 8 → n * 128 ^ i < 4611686018427387904 → (0 < i → 0 < n) → rnum (cnL n ++ rest) i acc = (acc + n * 128 ^ i, ⟨rest, 0⟩) := by
  induction k with
  | zero =>
    intro n i acc rest hk hi hb h0
    have hn : n = 0 := by simp at hk; omega
    subst hn
    have hi0 : i = 0 := by
      by_cases h : 0 < i
      · exact absurd (h0 h) (by omega)
      · omega
    subst hi0
    rw [cnL_small (by decide)]
    simp [rnum]
  | succ k ih =>
    intro n i acc rest hk hi hb h0
    by_cases hn : n < 128
    · rw [cnL_small hn]
      show rnum (UInt8.ofNat n :: rest) i acc = _
      unfold rnum
      rw [ofNat_toNat (by omega), if_neg, if_pos hn, Nat.mod_eq_of_lt hn]
      rintro (⟨h1, h2⟩ | ⟨h1, h2⟩)
      · subst h1
        have e8 : (128 : Nat) ^ 8 = 72057594037927936 := by decide
        rw [e8] at hb
        omega
      · have := h0 h1; omega
    · rw [cnL_big hn]
      show rnum (UInt8.ofNat (n % 128 + 128) :: (cnL (n / 128) ++ rest)) i acc = _
      have hi8 : i ≤ 7 := by
        apply Classical.byContradiction
        intro h
        have : i = 8 := by omega
        subst this
        have e8 : (128 : Nat) ^ 8 = 72057594037927936 := by decide
        rw [e8] at hb
        omega
      unfold rnum
      rw [ofNat_toNat (by omega), if_neg, if_neg (by omega)]
      · have hm : (n % 128 + 128) % 128 = n % 128 := by omega
        have hp : (128 : Nat) ^ (i + 1) = 128 * 128 ^ i := by rw [Nat.pow_succ, Nat.mul_comm]
        have hd : n / 128 * (128 * 128 ^ i) = n / 128 * 128 * 128 ^ i := by rw [Nat.mul_assoc]
        have hs : n * 128 ^ i = n % 128 * 128 ^ i + n / 128 * 128 * 128 ^ i := by
          rw [← Nat.add_mul]
          congr 1
          omega
        rw [hm, ih (n / 128) (i + 1) _ rest (by rw [Nat.pow_succ] at hk; omega) (by omega) (by rw [hp, hd]; omega) (by omega), hp, hd]
        rw [hs, Nat.add_assoc]
      · rintro (⟨h1, h2⟩ | ⟨h1, h2⟩) <;> omega
theorem Rr.num_back (n : Nat) (rest : List UInt8) (h : n < 4611686018427387904) : (Rr.mk (cnL n ++ rest) 0).num = (n, ⟨rest, 0⟩) := by
  unfold Rr.num
  rw [if_pos rfl]
  have e9 : (128 : Nat) ^ 9 = 9223372036854775808 := by decide
  rw [rnum_back 9 n 0 0 rest (by omega) (by decide) (by omega) (fun h => absurd h (by decide))]
  simp
theorem Rr.raw_back (t rest : List UInt8) : (Rr.mk (t ++ rest) 0).raw t.length = (t, ⟨rest, 0⟩) := by
  unfold Rr.raw
  rw [if_pos rfl, if_neg (by simp)]
  simp
theorem cnL_pos (n : Nat) : 0 < (cnL n).length := by
  by_cases h : n < 128
  · rw [cnL_small h]; exact Nat.succ_pos 0
  · rw [cnL_big h]; exact Nat.succ_pos _
end Go.Proofs.YtaeklleogniimaaGreatDoor
