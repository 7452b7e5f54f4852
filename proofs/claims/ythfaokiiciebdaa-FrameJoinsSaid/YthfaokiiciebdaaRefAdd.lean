/- The walks of the document's Add and Sum (barqueref02). Condition: texts of at most 2^40 bytes; the sum an int64. -/
import Derived.Test.YthfaokiiciebdaaBits
namespace Go.Proofs.Ythfaokiiciebdaa
open Go.RowKit

theorem and32 (n : Int) : bits BinOp.and IntKind.i64 n 4294967295 = n % 4294967296 := by
  have e1 : (BitVec.ofInt 64 n).toNat = (n % 18446744073709551616).toNat := by rw [BitVec.toNat_ofInt]; rfl
  have e2 : (BitVec.ofInt 64 4294967295).toNat = 2 ^ 32 - 1 := by decide +kernel
  show IntKind.i64.wrap ((BitVec.ofInt 64 n &&& BitVec.ofInt 64 4294967295).toNat : Int) = _
  rw [BitVec.toNat_and, e1, e2, Nat.and_two_pow_sub_one_eq_mod, IntKind.wrap_i64]
  omega
theorem xorPoly64 (r : Nat) (hr : r < 4294967296) : bits BinOp.xor IntKind.i64 ((r : Nat) : Int) 3988292384 = ((r ^^^ Crc.poly : Nat) : Int) := by
  have ho : ∀ a : Nat, a < 9223372036854775808 → (BitVec.ofInt 64 (a : Int)).toNat = a := by
    intro a ha
    rw [BitVec.ofInt_natCast, BitVec.toNat_ofNat]
    exact Nat.mod_eq_of_lt (by omega)
  have hx : r ^^^ 3988292384 < 2 ^ 32 := Nat.xor_lt_two_pow hr (by omega)
  show IntKind.i64.wrap ((BitVec.ofInt 64 ((r : Nat) : Int) ^^^ BitVec.ofInt 64 ((3988292384 : Nat) : Int)).toNat : Int) = _
  rw [BitVec.toNat_xor, ho r (by omega), ho _ (by omega), IntKind.wrap_i64]
  show _ = ((r ^^^ 3988292384 : Nat) : Int)
  omega

theorem runBits_snoc (r : Nat) (l : List Nat) (b : Nat) : Crc.runBits r (l ++ [b]) = Crc.bit (Crc.runBits r l) b := by rw [Crc.runBits_append]; rfl

set_option maxHeartbeats 1000000 in
theorem refAdd_any (n : Int) (s : ByteArray) (w : World) (hs : s.size ≤ 1099511627776) :
    Calls Try.prog 16 #[.int .i64 n, .string s] w fun e w' => e = .returned (.int .i64 (Crc.sum (n % 4294967296).toNat s.data.toList)) ∧ Below w.heap.size w w' := by
  have h1 := Lib.hid (and32 n)
  have hst := start_lt n
  have hst2 := Lib.hid (show 4294967295 - n % 4294967296 = (start n : Int) by unfold start; omega)
  go_enter Try.func16, Try.ntmps16
  go_wp2_with fail
  refine (bits_any s _ hs).mono ?_
  rintro e w1 ⟨v, rfl, hown, hbel⟩
  obtain ⟨ad, cap, rfl, hcap, hmax, hlen, hnil, hsome⟩ := row_open hown
  unfold maxLen at hmax
  have Hn := Lib.hid hnil
  have Hs := Lib.hid hsome
  have Hl := Lib.hid hlen
  have hll : (Crc.bits8 s.data.toList).length = 8 * s.size := by rw [Crc.bits8_length]; simp
  have Hll := Lib.hid hll
  clear hnil hsome hlen hll
  go_wp2
  go_loop [5, 7] (fun r i => ∃ k : Nat, k ≤ 8 * s.size ∧ i = .int .i64 k ∧ r = .int .i64 (Crc.runBits (start n) ((Crc.bits8 s.data.toList).take k) : Nat)) (fun _ i => 8 * s.size - (intOf i).toNat)
  case atStart => exact ⟨0, Nat.zero_le _, rfl, val_int (by rw [h1.out, hst2.out]; exact IntWalk.wrap64_in _ ⟨by omega, by omega⟩)⟩
  case round =>
    obtain ⟨k, hk, rfl, rfl⟩ := hrel
    by_cases hlt : k < 8 * s.size
    · cases ad with
      | none => have := Hn.out rfl; omega
      | some x =>
        obtain ⟨g, rfl, hg1, hg2, hcell⟩ := Hs.out x rfl
        have hk2 : k < (Crc.bits8 s.data.toList).length := by rw [Hll.out]; exact hlt
        obtain ⟨b, hb⟩ : ∃ b, (Crc.bits8 s.data.toList)[k]? = some b := ⟨_, List.getElem?_eq_getElem hk2⟩
        have hb2 : b < 2 := Crc.bits8_two s.data.toList b (List.mem_of_getElem? hb)
        have hc := hcell k hlt
        rw [List.getElem?_map, hb] at hc
        have hsn := Lib.hid (show (Crc.bits8 s.data.toList).take (k + 1) = (Crc.bits8 s.data.toList).take k ++ [b] by rw [List.take_add_one, hb]; rfl)
        obtain ⟨r, hr⟩ : ∃ r : Nat, r = Crc.runBits (start n) ((Crc.bits8 s.data.toList).take k) := ⟨_, rfl⟩
        have hr32 : r < 4294967296 := by rw [hr]; exact Crc.runBits_lt _ hst
        have Hr := Lib.hid hr
        rw [← Hr.out]
        have hx := Lib.hid (xorPoly64 (r / 2) (by omega))
        clear hr hcell hb
        have hc2 : w1.cell? ⟨g, k, none⟩ = some (.int .i64 (b : Int)) := hc
        clear hc
        go_wp2
        · have hq : ((r : Int) % 2 + b == 1) = true := by assumption
          go_round
          case rel => exact ⟨k + 1, by omega, by go_num, val_int (by rw [hsn.out, runBits_snoc, ← Hr.out, Crc.bit, if_pos (by simp at hq; omega)]; exact hx.out)⟩
          case measure => simp [intOf]; omega
        · have hq : ((r : Int) % 2 + b == 1) = false := by assumption
          go_round
          case rel => exact ⟨k + 1, by omega, by go_num, val_int (by rw [hsn.out, runBits_snoc, ← Hr.out, Crc.bit, if_neg (by simp at hq; omega)]; simp)⟩
          case measure => simp [intOf]; omega
    · have hk' : k = 8 * s.size := by omega
      subst hk'
      have hrl := Crc.runBits_lt ((Crc.bits8 s.data.toList).take (8 * s.size)) hst
      have he := Lib.hid (show (Crc.bits8 s.data.toList).take (8 * s.size) = Crc.bits8 s.data.toList from List.take_of_length_le (by rw [Hll.out]; omega))
      go_wp2
      go_ret
      refine ⟨ret_int ?_, hbel⟩
      rw [he.out, Crc.run_bits]
      unfold Crc.sum
      have hl := Crc.run_lt s.data.toList hst
      unfold start at hl ⊢
      omega

theorem refSum_any (s : ByteArray) (w : World) (hs : s.size ≤ 1099511627776) :
    Calls Try.prog 13 #[.string s] w fun e w' => e = .returned (.int .i64 (Crc.sum 0 s.data.toList)) ∧ Below w.heap.size w w' := by
  go_enter Try.func13, Try.ntmps13
  go_wp2_with (go_at_call 16; refine (refAdd_any _ _ _ hs).mono ?_; rintro e w' ⟨rfl, hb⟩)
  go_ret
  exact ⟨rfl, hb⟩
end Go.Proofs.Ythfaokiiciebdaa
