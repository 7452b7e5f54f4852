/- The walks of the sums: what frame.Add, frame.Sum and the document's Add, Sum compute. Condition: texts no longer than maxLen, sums of any int. -/
import Derived.Test.YthfaokiiciebdaaRows
import Derived.Test.YthfaokiiciebdaaCrc
import Derived.Test.YthfaokiiciebdaaKit
namespace Go.Proofs.Ythfaokiiciebdaa
open Go.RowKit

theorem and1 (r : Nat) (hr : r < 4294967296) : bits BinOp.and IntKind.u32 (r : Int) 1 = ((r % 2 : Nat) : Int) := by
  have h := u32_and_nat r 1 hr (by omega)
  rw [nat_mask1] at h
  exact h
theorem xorPoly (r : Nat) (hr : r < 4294967296) : bits BinOp.xor IntKind.u32 ((r : Int) / 2) 3988292384 = ((r / 2 ^^^ Crc.poly : Nat) : Int) :=
  u32_xor_nat (r / 2) 3988292384 (by omega) (by omega)

set_option maxHeartbeats 400000 in
theorem turned_any (r : Nat) (hr : r < 4294967296) (w : World) :
    Calls Try.prog 26 #[.int .u32 r] w fun e w' => e = .returned (.int .u32 (Crc.turned r)) ∧ w = w' := by
  have h1 : bits BinOp.and IntKind.u32 (r : Int) 1 = ((r % 2 : Nat) : Int) := and1 r hr
  have h2 := xorPoly r hr
  have H1 := Lib.hid h1
  have H2 := Lib.hid h2
  clear h1 h2
  go_enter Try.func26, Try.ntmps26
  go_wp2
  · have h : (bits BinOp.and IntKind.u32 (r : Int) 1 == 1) = true := by assumption
    go_ret
    refine ⟨ret_int ?_, rfl⟩
    rw [H1.out] at h
    rw [H2.out, Crc.turned, if_pos (by simp at h; omega)]
  · have h : (bits BinOp.and IntKind.u32 (r : Int) 1 == 1) = false := by assumption
    go_ret
    refine ⟨ret_int ?_, rfl⟩
    rw [H1.out] at h
    rw [Crc.turned, if_neg (by simp at h; omega)]
    simp

theorem turns_snoc (k r : Nat) : Crc.turns (k + 1) r = Crc.turned (Crc.turns k r) := by
  induction k generalizing r with
  | zero => rfl
  | succ k ih => rw [Crc.turns, ih]; rfl

theorem not32 (m : Nat) (h : m < 4294967296) : bits BinOp.xor IntKind.u32 IntKind.u32.max (m : Int) = ((4294967295 - m : Nat) : Int) := by
  have h1 : bits BinOp.xor IntKind.u32 ((4294967295 : Nat) : Int) (m : Int) = _ := u32_xor_nat 4294967295 m (by omega) h
  have h2 : IntKind.u32.max = ((4294967295 : Nat) : Int) := by decide +kernel
  rw [h2, h1]
  have h3 : (BitVec.allOnes 32 ^^^ BitVec.ofNat 32 m).toNat = (~~~ (BitVec.ofNat 32 m)).toNat := by rw [BitVec.allOnes_xor]
  rw [BitVec.toNat_xor, BitVec.toNat_not, BitVec.toNat_ofNat, Nat.mod_eq_of_lt (by omega)] at h3
  exact congrArg _ h3

def start (n : Int) : Nat := 4294967295 - (n % 4294967296).toNat
theorem start_lt (n : Int) : start n < 4294967296 := by unfold start; omega
theorem start_eq (n : Int) : bits BinOp.xor IntKind.u32 IntKind.u32.max (n % 4294967296) = (start n : Int) := by
  have h : n % 4294967296 = ((n % 4294967296).toNat : Int) := by omega
  have h2 := not32 (n % 4294967296).toNat (by omega)
  rw [← h] at h2
  exact h2
theorem run_start (n : Int) (l : List UInt8) : bits BinOp.xor IntKind.u32 IntKind.u32.max ((Crc.run (start n) l : Nat) : Int) = (Crc.sum (n % 4294967296).toNat l : Int) := by
  rw [not32 _ (Crc.run_lt l (start_lt n))]
  rfl
theorem xorByte (r : Nat) (hr : r < 4294967296) (b : UInt8) : bits BinOp.xor IntKind.u32 (r : Int) (b.toNat : Int) = ((r ^^^ b.toNat : Nat) : Int) := by
  have := UInt8.toNat_lt b
  exact u32_xor_nat r b.toNat hr (by omega)

set_option maxHeartbeats 1000000 in
theorem add_any (n : Int) (s : ByteArray) (w : World) (hs : s.size ≤ maxLen) :
    Calls Try.prog 15 #[.int .i64 n, .string s] w fun e w' => e = .returned (.int .i64 (Crc.sum (n % 4294967296).toNat s.data.toList)) ∧ w = w' := by
  unfold maxLen at hs
  go_enter Try.func15, Try.ntmps15
  go_wp2
  go_loop [5, 12] (fun r i => ∃ k : Nat, k ≤ s.size ∧ i = .int .i64 k ∧ r = .int .u32 (Crc.run (start n) (s.data.toList.take k) : Nat)) (fun _ i => s.size - (intOf i).toNat)
  case atStart => exact ⟨0, Nat.zero_le _, rfl, val_int (start_eq n)⟩
  case round =>
    obtain ⟨k, hk, rfl, rfl⟩ := hrel
    by_cases hlt : k < s.size
    · have hR := Crc.run_lt (s.data.toList.take k) (start_lt n)
      have hsn := Lib.hid (take_snoc s k hlt)
      have hb := UInt8.toNat_lt s[k]
      have hx := Lib.hid (Crc.step_lt (b := s[k].toNat) hR (by omega))
      have hxl : ∀ m, Crc.turns m (Crc.run (start n) (s.data.toList.take k) ^^^ s[k].toNat) < 4294967296 := fun m => Crc.turns_lt m (Nat.xor_lt_two_pow (n := 32) hR (by omega))
      have HX := Lib.hid hxl
      have hv : bits BinOp.xor IntKind.u32 (Crc.run (start n) (s.data.toList.take k) : Nat) (s[k].toNat : Int) = ((Crc.turns 0 (Crc.run (start n) (s.data.toList.take k) ^^^ s[k].toNat) : Nat) : Int) := xorByte _ hR s[k]
      have HV := Lib.hid hv
      clear hxl hv
      go_wp2
      go_loop [5, 21] (fun r j => ∃ m : Nat, m ≤ 8 ∧ j = .int .i64 m ∧ r = .int .u32 (Crc.turns m (Crc.run (start n) (s.data.toList.take k) ^^^ s[k].toNat) : Nat)) (fun _ j => 8 - (intOf j).toNat)
      case atStart => exact ⟨0, Nat.zero_le _, rfl, val_int HV.out⟩
      case round =>
        obtain ⟨m, hm, rfl, rfl⟩ := hrel
        by_cases hlm : m < 8
        · have hT := HX.out m
          go_wp2_with (go_at_call 26; refine (turned_any _ hT _).mono ?_; rintro e w' ⟨rfl, rfl⟩)
          go_round
          case rel => exact ⟨m + 1, by omega, by go_num, val_int (by rw [turns_snoc])⟩
          case measure => simp [intOf]; omega
        · have hm8 := Lib.hid (show m = 8 by omega)
          go_wp2
          go_round
          case rel => exact ⟨k + 1, by omega, by go_num, val_int (by rw [hsn.out, Crc.run_snoc, hm8.out]; rfl)⟩
          case measure => simp [intOf]; omega
    · have hk' := Lib.hid (show s.data.toList.take k = s.data.toList from List.take_of_length_le (by simp; omega))
      go_wp2
      have hf := run_start n (s.data.toList.take k)
      go_ret
      refine ⟨ret_int ?_, rfl⟩
      rw [hk'.out] at hf ⊢
      rw [hf]
      have hl := Crc.sum_lt (n % 4294967296).toNat s.data.toList
      exact IntWalk.wrap64_in _ ⟨by omega, by omega⟩

theorem sum_any (s : ByteArray) (w : World) (hs : s.size ≤ maxLen) :
    Calls Try.prog 12 #[.string s] w fun e w' => e = .returned (.int .i64 (Crc.sum 0 s.data.toList)) ∧ w = w' := by
  go_enter Try.func12, Try.ntmps12
  go_wp2_with (go_at_call 15; refine (add_any _ _ _ hs).mono ?_; rintro e w' ⟨rfl, rfl⟩)
  go_ret
  exact ⟨rfl, rfl⟩

theorem awake_any (w : World) : Calls Try.prog 14 #[] w fun e w' => e = .returned (.bool true) ∧ w = w' := by
  have h := Lib.hid Crc.awake
  go_enter Try.func14, Try.ntmps14
  go_wp2_with (go_at_call 12; refine (sum_any _ _ (by decide)).mono ?_; rintro e w' ⟨rfl, rfl⟩)
  go_ret
  exact ⟨by rw [h.out]; rfl, rfl⟩
end Go.Proofs.Ythfaokiiciebdaa
