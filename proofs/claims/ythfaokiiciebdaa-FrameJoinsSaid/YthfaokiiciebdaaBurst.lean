/- The plain law of bursts: two texts of one length that differ in bits within 32 side by side have unlike sums. No program in sight. -/
import Derived.Test.YthfaokiiciebdaaCrc
namespace Go.Proofs.Ythfaokiiciebdaa
namespace Crc

/-- a text as a number, the lowest byte first -/
def num : List UInt8 → Nat
  | [] => 0
  | c :: s => c.toNat + 256 * num s

theorem turned_lin (a b : Nat) : turned (a ^^^ b) = turned a ^^^ turned b := by
  unfold turned
  rw [xor_mod_two, xor_div_two]
  rcases Nat.mod_two_eq_zero_or_one a with ha | ha <;> rcases Nat.mod_two_eq_zero_or_one b with hb | hb <;> simp only [ha, hb]
  · simp
  · simp [Nat.xor_assoc]
  · simp; rw [Nat.xor_assoc, Nat.xor_assoc, Nat.xor_comm (b / 2)]
  · simp
    rw [Nat.xor_assoc (a / 2), ← Nat.xor_assoc poly, Nat.xor_comm poly, Nat.xor_assoc (b / 2), Nat.xor_self, Nat.xor_zero]
theorem turns_lin (k : Nat) : ∀ a b : Nat, turns k (a ^^^ b) = turns k a ^^^ turns k b := by
  induction k with
  | zero => intro a b; rfl
  | succ k ih => intro a b; rw [turns, turned_lin, ih]; rfl
theorem turns_add (j k r : Nat) : turns (j + k) r = turns k (turns j r) := by
  induction j generalizing r with
  | zero => simp [turns]
  | succ j ih => rw [Nat.succ_add, turns, ih]; rfl
theorem turned_two (x : Nat) : turned (2 * x) = x := by
  unfold turned
  rw [if_neg (by omega)]
  omega
theorem turns_shift (k x : Nat) : turns k (x * 2 ^ k) = x := by
  induction k with
  | zero => simp [turns]
  | succ k ih =>
    rw [turns, Nat.pow_succ, show x * (2 ^ k * 2) = 2 * (x * 2 ^ k) by rw [Nat.mul_comm (2 ^ k), ← Nat.mul_assoc, Nat.mul_comm x 2, Nat.mul_assoc], turned_two, ih]
theorem turned_zero {r : Nat} (h : r < 4294967296) (h0 : turned r = 0) : r = 0 := by
  unfold turned at h0
  split at h0
  · have h1 : r / 2 ^^^ poly ^^^ poly = 0 ^^^ poly := by rw [h0]
    rw [Nat.xor_assoc, Nat.xor_self, Nat.xor_zero, Nat.zero_xor] at h1
    unfold poly at h1
    omega
  · omega
theorem turns_zero (k : Nat) : ∀ {r : Nat}, r < 4294967296 → turns k r = 0 → r = 0 := by
  induction k with
  | zero => intro r _ h; exact h
  | succ k ih => intro r hr h; exact turned_zero hr (ih (turned_lt hr) h)

/-- a whole text's run, by its number -/
theorem run_num (s : List UInt8) : ∀ r : Nat, turns (8 * s.length) (r ^^^ num s) = run r s := by
  induction s with
  | nil => intro r; simp [turns, num, run]
  | cons c s ih =>
    intro r
    have hc := UInt8.toNat_lt c
    have e : c.toNat + 256 * num s = c.toNat ^^^ (num s * 2 ^ 8) := by
      have h := Nat.two_pow_add_eq_or_of_lt (i := 8) (b := c.toNat) (by omega) (num s)
      have h2 : c.toNat ^^^ (num s * 2 ^ 8) = 2 ^ 8 * num s + c.toNat := by
        rw [Nat.mul_comm]
        apply Nat.eq_of_testBit_eq
        intro i
        rw [Nat.testBit_xor, Nat.testBit_two_pow_mul_add _ (by omega)]
        by_cases hi : i < 8
        · rw [if_pos hi, Nat.testBit_two_pow_mul, decide_eq_false (by omega)]; simp
        · rw [if_neg hi, Nat.testBit_two_pow_mul, decide_eq_true (by omega), Nat.testBit_lt_two_pow (Nat.lt_of_lt_of_le (show c.toNat < 2 ^ 8 by omega) (Nat.pow_le_pow_right (by omega) (by omega)))]; simp
      rw [h2]
      omega
    rw [num, e, List.length_cons, show 8 * (s.length + 1) = 8 + 8 * s.length by omega, turns_add, ← Nat.xor_assoc, turns_lin, turns_shift, ih]
    rfl

theorem num_set (l : List UInt8) (j q : Nat) (hj : j < l.length) (hq : q < 8) (c : UInt8) (hc : c.toNat = l[j].toNat ^^^ 2 ^ q) : num (l.set j c) = num l ^^^ 2 ^ (8 * j + q) := by
  induction l generalizing j with
  | nil => simp at hj
  | cons d l ih =>
    have key : ∀ (a b x y : Nat), a < 256 → x < 256 → (a + 256 * b) ^^^ (x + 256 * y) = (a ^^^ x) + 256 * (b ^^^ y) := by
      intro a b x y ha hx
      have hax : a ^^^ x < 2 ^ 8 := Nat.xor_lt_two_pow ha hx
      apply Nat.eq_of_testBit_eq
      intro i
      rw [Nat.testBit_xor, Nat.add_comm a, Nat.add_comm x, Nat.add_comm (a ^^^ x), show (256 : Nat) = 2 ^ 8 by rfl, Nat.testBit_two_pow_mul_add _ ha, Nat.testBit_two_pow_mul_add _ hx, Nat.testBit_two_pow_mul_add _ hax]
      split <;> simp [Nat.testBit_xor]
    have h2q : 2 ^ q < 2 ^ 8 := Nat.pow_lt_pow_right (by omega) hq
    have hd := UInt8.toNat_lt d
    cases j with
    | zero =>
      have h0 := key d.toNat (num l) (2 ^ q) 0 hd (by simpa using h2q)
      simp only [Nat.mul_zero, Nat.add_zero, Nat.xor_zero] at h0
      simp only [List.set_cons_zero, num, Nat.mul_zero, Nat.zero_add]
      rw [h0, hc]
      rfl
    | succ j =>
      have h0 := key d.toNat (num l) 0 (2 ^ (8 * j + q)) hd (by omega)
      simp only [List.set_cons_succ, num]
      rw [ih j (by simpa using hj) (by simpa using hc)]
      rw [show 2 ^ (8 * (j + 1) + q) = 0 + 256 * 2 ^ (8 * j + q) by rw [show 8 * (j + 1) + q = 8 + (8 * j + q) by omega, Nat.pow_add]; omega, h0, Nat.xor_zero]

/-- the pattern's bits below place i, shifted -/
def low (p i at' : Nat) : Nat := p % 2 ^ i * 2 ^ at'
theorem low_zero (p a : Nat) : low p 0 a = 0 := by simp [low, Nat.mod_one]
theorem low_skip (p i a : Nat) (h : p / 2 ^ i % 2 = 0) : low p (i + 1) a = low p i a := by
  unfold low
  rw [Nat.mod_pow_succ, h]
  simp
theorem low_take (p i a x : Nat) (h : p / 2 ^ i % 2 = 1) : x ^^^ low p (i + 1) a = (x ^^^ low p i a) ^^^ 2 ^ (a + i) := by
  rw [Nat.xor_assoc]
  congr 1
  unfold low
  rw [Nat.mod_pow_succ, h, Nat.mul_one]
  have hlt : p % 2 ^ i < 2 ^ i := Nat.mod_lt _ (Nat.two_pow_pos i)
  apply Nat.eq_of_testBit_eq
  intro k
  rw [Nat.testBit_xor, Nat.mul_comm, Nat.testBit_two_pow_mul, Nat.mul_comm, Nat.testBit_two_pow_mul, Nat.testBit_two_pow]
  by_cases hk : a ≤ k
  · simp only [decide_eq_true hk, Bool.true_and, ge_iff_le]
    rw [Nat.add_comm, show 2 ^ i = 2 ^ i * 1 by omega, Nat.testBit_two_pow_mul_add 1 (by simpa using hlt)]
    by_cases hi : k - a < i
    · rw [if_pos hi, Nat.mul_one, decide_eq_false (by omega)]; simp
    · rw [if_neg hi, Nat.mul_one, Nat.testBit_lt_two_pow (Nat.lt_of_lt_of_le hlt (Nat.pow_le_pow_right (by omega) (by omega)))]
      by_cases hik : k = a + i
      · subst hik
        simp
      · rw [decide_eq_false (by omega), show k - a - i = (k - a - i - 1) + 1 by omega, Nat.testBit_succ]
        simp
  · simp only [decide_eq_false hk, Bool.false_and, ge_iff_le]
    rw [decide_eq_false (by omega)]
    rfl
theorem low_all (p a : Nat) (h : p < 4294967296) : low p 32 a = p * 2 ^ a := by
  unfold low
  rw [Nat.mod_eq_of_lt (by omega)]

theorem burst (s t : List UInt8) (p a : Nat) (hl : t.length = s.length) (hn : num t = num s ^^^ low p 32 a) (hp : 1 ≤ p) (hp2 : p < 4294967296) (ha : a ≤ 8 * s.length) (r : Nat) (hr : r ≤ 4294967295) :
    sum r t ≠ sum r s := by
  intro h
  have h1 : run (4294967295 - r) t < 4294967296 := run_lt t (by omega)
  have h2 : run (4294967295 - r) s < 4294967296 := run_lt s (by omega)
  unfold sum at h
  have h3 : run (4294967295 - r) t = run (4294967295 - r) s := by omega
  rw [← run_num t, ← run_num s, hl, hn, low_all p a hp2, ← Nat.xor_assoc, turns_lin, show 8 * s.length = a + (8 * s.length - a) by omega, turns_add a _ (p * 2 ^ a), turns_shift] at h3
  have h4 : turns (8 * s.length - a) p = 0 := by
    have h5 := congrArg (fun x => turns (a + (8 * s.length - a)) (4294967295 - r ^^^ num s) ^^^ x) h3
    simp only [← Nat.xor_assoc, Nat.xor_self, Nat.zero_xor] at h5
    exact h5
  have := turns_zero _ hp2 h4
  omega

end Crc
end Go.Proofs.Ythfaokiiciebdaa
