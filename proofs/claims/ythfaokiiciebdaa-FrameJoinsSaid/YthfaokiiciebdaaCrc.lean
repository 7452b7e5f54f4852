/- The plain law of a sum: the bitwise and the bytewise reckoning of CRC-32 agree. No program in sight. No condition. -/
import Derived.Laws.BitsAllLaws
namespace Go.Proofs.Ythfaokiiciebdaa
namespace Crc

def poly : Nat := 3988292384
def turned (r : Nat) : Nat := if r % 2 = 1 then (r / 2) ^^^ poly else r / 2
def turns : Nat → Nat → Nat
  | 0, r => r
  | k + 1, r => turns k (turned r)
def step (r b : Nat) : Nat := turns 8 (r ^^^ b)
def run (r : Nat) (s : List UInt8) : Nat := s.foldl (fun r c => step r c.toNat) r
/-- one bit of the document's way -/
def bit (r b : Nat) : Nat := if r % 2 + b = 1 then (r / 2) ^^^ poly else r / 2
def bitsOf : Nat → Nat → List Nat
  | 0, _ => []
  | k + 1, c => c % 2 :: bitsOf k (c / 2)
def bits8 (s : List UInt8) : List Nat := s.flatMap fun c => bitsOf 8 c.toNat
def runBits (r : Nat) (l : List Nat) : Nat := l.foldl bit r
def sum (r : Nat) (s : List UInt8) : Nat := 4294967295 - run (4294967295 - r) s

theorem poly_lt : poly < 4294967296 := by decide
theorem turned_lt {r : Nat} (h : r < 4294967296) : turned r < 4294967296 := by
  unfold turned
  split
  · exact Nat.xor_lt_two_pow (n := 32) (by omega) poly_lt
  · omega
theorem turns_lt (k : Nat) : ∀ {r : Nat}, r < 4294967296 → turns k r < 4294967296 := by
  induction k with
  | zero => intro r h; exact h
  | succ k ih => intro r h; exact ih (turned_lt h)
theorem step_lt {r b : Nat} (h : r < 4294967296) (hb : b < 256) : step r b < 4294967296 :=
  turns_lt 8 (Nat.xor_lt_two_pow (n := 32) h (by omega))
theorem run_lt (s : List UInt8) : ∀ {r : Nat}, r < 4294967296 → run r s < 4294967296 := by
  induction s with
  | nil => intro r h; exact h
  | cons c s ih => intro r h; exact ih (step_lt h (UInt8.toNat_lt c))
theorem bit_lt {r b : Nat} (h : r < 4294967296) : bit r b < 4294967296 := by
  unfold bit
  split
  · exact Nat.xor_lt_two_pow (n := 32) (by omega) poly_lt
  · omega
theorem runBits_lt (l : List Nat) : ∀ {r : Nat}, r < 4294967296 → runBits r l < 4294967296 := by
  induction l with
  | nil => intro r h; exact h
  | cons c s ih => intro r h; exact ih (bit_lt h)

theorem xor_mod_two (a b : Nat) : (a ^^^ b) % 2 = (a % 2 + b % 2) % 2 := by
  have h := @Nat.xor_mod_two_pow a b 1
  simp only [Nat.pow_one] at h
  rw [h]
  rcases Nat.mod_two_eq_zero_or_one a with ha | ha <;> rcases Nat.mod_two_eq_zero_or_one b with hb | hb <;> rw [ha, hb] <;> rfl
theorem xor_div_two (a b : Nat) : (a ^^^ b) / 2 = a / 2 ^^^ b / 2 := by
  have h := @Nat.xor_div_two_pow a b 1
  simpa using h

theorem turned_xor (r b : Nat) : turned (r ^^^ b) = bit r (b % 2) ^^^ (b / 2) := by
  unfold turned bit
  rw [xor_mod_two, xor_div_two]
  rcases Nat.mod_two_eq_zero_or_one r with ha | ha <;> rcases Nat.mod_two_eq_zero_or_one b with hb | hb <;> simp only [ha, hb]
  · simp
  · simp; rw [Nat.xor_assoc, Nat.xor_assoc, Nat.xor_comm (b / 2)]
  · simp; rw [Nat.xor_assoc, Nat.xor_assoc, Nat.xor_comm (b / 2)]
  · simp

theorem turns_xor (k : Nat) : ∀ r b : Nat, turns k (r ^^^ b) = runBits r (bitsOf k b) ^^^ (b / 2 ^ k) := by
  induction k with
  | zero => intro r b; simp [turns, runBits, bitsOf]
  | succ k ih =>
    intro r b
    rw [turns, turned_xor, ih]
    simp only [bitsOf, runBits, List.foldl_cons]
    congr 1
    rw [Nat.div_div_eq_div_mul, Nat.pow_succ, Nat.mul_comm]

theorem step_bits (r b : Nat) (hb : b < 256) : step r b = runBits r (bitsOf 8 b) := by
  unfold step
  rw [turns_xor]
  have : b / 2 ^ 8 = 0 := Nat.div_eq_of_lt (by omega)
  rw [this, Nat.xor_zero]

theorem runBits_append (r : Nat) (a b : List Nat) : runBits r (a ++ b) = runBits (runBits r a) b := List.foldl_append

theorem run_bits (s : List UInt8) : ∀ r : Nat, runBits r (bits8 s) = run r s := by
  induction s with
  | nil => intro r; rfl
  | cons c s ih =>
    intro r
    have e : bits8 (c :: s) = bitsOf 8 c.toNat ++ bits8 s := rfl
    rw [e, runBits_append, ih, ← step_bits r c.toNat (UInt8.toNat_lt c)]
    rfl

theorem run_append (r : Nat) (a b : List UInt8) : run r (a ++ b) = run (run r a) b := List.foldl_append
theorem run_snoc (r : Nat) (a : List UInt8) (c : UInt8) : run r (a ++ [c]) = step (run r a) c.toNat := by rw [run_append]; rfl
theorem bits8_length (s : List UInt8) : (bits8 s).length = 8 * s.length := by
  unfold bits8
  induction s with
  | nil => rfl
  | cons c s ih => rw [List.flatMap_cons, List.length_append, ih]; simp [bitsOf]; omega
theorem bitsOf_snoc (m c : Nat) : bitsOf (m + 1) c = bitsOf m c ++ [c / 2 ^ m % 2] := by
  induction m generalizing c with
  | zero => simp [bitsOf]
  | succ m ih => rw [bitsOf, ih]; simp [bitsOf, Nat.div_div_eq_div_mul, Nat.pow_succ, Nat.mul_comm]
theorem bitsOf_length (m c : Nat) : (bitsOf m c).length = m := by
  induction m generalizing c with
  | zero => rfl
  | succ m ih => simp [bitsOf, ih]
theorem bits8_snoc (l : List UInt8) (c : UInt8) : bits8 (l ++ [c]) = bits8 l ++ bitsOf 8 c.toNat := by
  unfold bits8
  rw [List.flatMap_append]
  simp
theorem bits8_two (s : List UInt8) : ∀ b ∈ bits8 s, b < 2 := by
  have h : ∀ k c, ∀ b ∈ bitsOf k c, b < 2 := by
    intro k
    induction k with
    | zero => intro c b hb; simp [bitsOf] at hb
    | succ k ih =>
      intro c b hb
      simp only [bitsOf, List.mem_cons] at hb
      rcases hb with rfl | hb
      · omega
      · exact ih _ _ hb
  intro b hb
  simp only [bits8, List.mem_flatMap] at hb
  obtain ⟨c, _, hb⟩ := hb
  exact h _ _ _ hb
theorem sum_lt (r : Nat) (s : List UInt8) : sum r s < 4294967296 := by unfold sum; omega
theorem sum_append (r : Nat) (a b : List UInt8) : sum (sum r a) b = sum r (a ++ b) := by
  unfold sum
  rw [run_append]
  have : run (4294967295 - r) a < 4294967296 := run_lt a (by omega)
  congr 2
  omega
theorem awake : sum 0 [49, 50, 51, 52, 53, 54, 55, 56, 57] = 3421780262 := by decide +kernel

end Crc
end Go.Proofs.Ythfaokiiciebdaa
