/- The walks of the document's bits, Add and Sum (barqueref02). Condition: texts of at most 2^40 bytes. -/
import Derived.Test.YthfaokiiciebdaaSum
namespace Go.Proofs.Ythfaokiiciebdaa
open Go.RowKit

theorem info_int : (Try.prog.info? 3).map (fun i => (i.zero, i.size, i.bytes)) = some (some (.int .i64 0), 1, 8) := by kernel_rfl

set_option maxHeartbeats 1000000 in
theorem bits_any (s : ByteArray) (w : World) (hs : s.size ≤ 1099511627776) :
    Calls Try.prog 27 #[.string s] w fun e w' => ∃ v, e = .returned v ∧ w'.ownsRow w.heap.size 3 1 v (8 * s.size) ((Crc.bits8 s.data.toList).map fun b => Value.int .i64 (b : Nat)) ∧ Below w.heap.size w w' := by
  go_enter Try.func27, Try.ntmps27
  go_wp2
  go_loopw [3, 4] (fun v i wr => ∃ k : Nat, k ≤ s.size ∧ i = .int .i64 k ∧ wr.ownsRow w.heap.size 3 1 v (8 * k) ((Crc.bits8 (s.data.toList.take k)).map fun b => Value.int .i64 (b : Nat)) ∧ Below w.heap.size w wr) (fun _ i _ => s.size - (intOf i).toNat)
  case atStart => exact ⟨0, Nat.zero_le _, rfl, World.ownsRow_nil _ _ _ _, Below.refl _ _⟩
  case round =>
    obtain ⟨k, hk, rfl, hown, hbel⟩ := hrel
    by_cases hlt : k < s.size
    · have hb := UInt8.toNat_lt s[k]
      have hsn := Lib.hid (take_snoc s k hlt)
      obtain ⟨c, hc⟩ : ∃ c : Nat, c = s[k].toNat := ⟨_, rfl⟩
      have hc256 : c < 256 := by omega
      have Hc := Lib.hid hc
      go_wp2
      rw [← Hc.out]
      clear hc
      obtain ⟨wo, rfl⟩ : ∃ wo : World, wo = wr := ⟨_, rfl⟩
      go_loopw [3, 5, 6] (fun v c' j wr => ∃ m : Nat, m ≤ 8 ∧ j = .int .i64 m ∧ c' = .int .i64 (c / 2 ^ m : Nat) ∧ wr.ownsRow w.heap.size 3 1 v (8 * k + m) ((Crc.bits8 (s.data.toList.take k) ++ Crc.bitsOf m c).map fun b => Value.int .i64 (b : Nat)) ∧ Below w.heap.size w wr) (fun _ _ j _ => 8 - (intOf j).toNat)
      case atStart => exact ⟨0, Nat.zero_le _, rfl, by simp, by simpa [Crc.bitsOf] using hown, hbel⟩
      case round =>
        obtain ⟨m, hm, rfl, rfl, hown2, hbel2⟩ := hrel
        by_cases hlm : m < 8
        · obtain ⟨q, hq⟩ : ∃ q : Nat, q = c / 2 ^ m := ⟨_, rfl⟩
          have hq256 : q < 256 := by rw [hq]; exact Nat.lt_of_le_of_lt (Nat.div_le_self _ _) hc256
          have Hq := Lib.hid hq
          rw [← Hq.out]
          clear hq
          go_wp2_with (at_builtin; refine append_one rfl _ _ 46 rfl w.heap.size 3 1 8 Try.underlying46 _ info_int rfl (by decide) _ _ _ rfl hown2 [.int .i64 ((q : Int) % 2)] rfl rfl (by simp [Value.oneCell']) ?c1 ?c2 ?c3 ?_)
          case c1 => unfold maxLen; omega
          case c2 => omega
          case c3 => exact hbel2.size
          intro v' w1 hown3 hb3
          go_wp2
          go_roundw
          case rel =>
            refine ⟨m + 1, by omega, by go_num, ?_, ?_, hbel2.trans hb3⟩
            · rw [Nat.pow_succ, ← Nat.div_div_eq_div_mul, ← Hq.out]; rfl
            · rw [Crc.bitsOf_snoc, ← Hq.out]; simpa [Nat.add_assoc] using hown3
          case measure => simp [intOf]; omega
        · have hm8 : m = 8 := by omega
          subst hm8
          go_wp2
          go_roundw
          case rel =>
            refine ⟨k + 1, by omega, by go_num, ?_, hbel2⟩
            rw [hsn.out, Crc.bits8_snoc, ← Hc.out, Nat.mul_succ]
            exact hown2
          case measure => simp [intOf]; omega
    · have hk' : k = s.size := by omega
      subst hk'
      go_wp2
      go_ret
      refine ⟨_, rfl, ?_, hbel⟩
      rw [List.take_of_length_le (by simp)] at hown
      exact hown
end Go.Proofs.Ythfaokiiciebdaa
