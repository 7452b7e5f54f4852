/- The walks of number: four bytes as a number, the lowest first (frame and barqueref02). Condition: four bytes. -/
import Derived.Test.YthfaokiiciebdaaSum
import Derived.Test.YthfaokiiciebdaaBurst
import Derived.BigQuiet
import Derived.Deep.QuietTactic
namespace Go.Proofs.Ythfaokiiciebdaa
open Go.RowKit

theorem four_of (s : ByteArray) (hs : s.size = 4) : s.data.toList = [s[0], s[1], s[2], s[3]] := by
  apply List.ext_getElem
  · simpa using hs
  · intro i h1 h2
    simp at h2
    match i, h2 with
    | 0, _ => rfl
    | 1, _ => rfl
    | 2, _ => rfl
    | 3, _ => rfl
theorem num_four (a b c d : UInt8) : Crc.num [a, b, c, d] = a.toNat + b.toNat * 2 ^ 8 + c.toNat * 2 ^ 16 + d.toNat * 2 ^ 24 := by
  simp only [Crc.num]
  omega

set_option maxHeartbeats 400000 in
theorem number_any (s : ByteArray) (w : World) (hs : s.size = 4) :
    Calls Try.prog 28 #[.string s] w fun e w' => e = .returned (.int .i64 (Crc.num s.data.toList)) ∧ ∃ n, w' = w.drewN n := by
  have h0 : 0 < s.size := by omega
  have h1 : 1 < s.size := by omega
  have h2 : 2 < s.size := by omega
  have h3 : 3 < s.size := by omega
  have i0 : (0 : Int) < (s.size : Int) := by omega
  have i1 : (1 : Int) < (s.size : Int) := by omega
  have i2 : (2 : Int) < (s.size : Int) := by omega
  have i3 : (3 : Int) < (s.size : Int) := by omega
  have b0 := UInt8.toNat_lt s[0]
  have b1 := UInt8.toNat_lt s[1]
  have b2 := UInt8.toNat_lt s[2]
  have b3 := UInt8.toNat_lt s[3]
  have Hs := Lib.hid hs
  clear hs
  go_enter Try.func28, Try.ntmps28
  go_wp2
  go_quiet (fail)
  go_wp2
  go_ret
  refine ⟨ret_int ?_, nq, rfl⟩
  rw [four_of s Hs.out, num_four]
  have e1 : bits BinOp.or IntKind.i64 (s[0].toNat : Int) ((s[1].toNat : Int) * 256) = ((s[0].toNat + s[1].toNat * 2 ^ 8 : Nat) : Int) := i64_join 8 s[0].toNat s[1].toNat (by omega) (by omega) (by omega)
  have e2 : bits BinOp.or IntKind.i64 ((s[0].toNat + s[1].toNat * 2 ^ 8 : Nat) : Int) ((s[2].toNat : Int) * 65536) = ((s[0].toNat + s[1].toNat * 2 ^ 8 + s[2].toNat * 2 ^ 16 : Nat) : Int) := i64_join 16 _ s[2].toNat (by omega) (by omega) (by omega)
  have e3 : bits BinOp.or IntKind.i64 ((s[0].toNat + s[1].toNat * 2 ^ 8 + s[2].toNat * 2 ^ 16 : Nat) : Int) ((s[3].toNat : Int) * 16777216) = ((s[0].toNat + s[1].toNat * 2 ^ 8 + s[2].toNat * 2 ^ 16 + s[3].toNat * 2 ^ 24 : Nat) : Int) := i64_join 24 _ s[3].toNat (by omega) (by omega) (by omega)
  rw [e1, e2, e3]

/-- what the document's loop has behind the bytes from place i on -/
theorem num_drop (l : List UInt8) (i : Nat) (hi : i < l.length) : Crc.num (l.drop i) = l[i].toNat + 256 * Crc.num (l.drop (i + 1)) := by
  rw [List.drop_eq_getElem_cons hi]; rfl
theorem num_lt (l : List UInt8) : Crc.num l < 256 ^ l.length := by
  induction l with
  | nil => simp [Crc.num]
  | cons c l ih =>
    have := UInt8.toNat_lt c
    rw [Crc.num, List.length_cons, Nat.pow_succ]
    omega

set_option maxHeartbeats 400000 in
theorem refNumber_any (s : ByteArray) (w : World) (hs : s.size = 4) :
    Calls Try.prog 29 #[.string s] w fun e w' => e = .returned (.int .i64 (Crc.num s.data.toList)) ∧ w = w' := by
  have hs4 : 4 ≤ s.size := by omega
  have hl := Lib.hid (show s.data.toList.length = 4 by simpa using hs)
  clear hs
  go_enter Try.func29, Try.ntmps29
  go_wp2
  go_loop [3, 4] (fun n i => ∃ k : Nat, k ≤ 4 ∧ i = .int .i64 ((k : Int) - 1) ∧ n = .int .i64 (Crc.num (s.data.toList.drop k) : Nat)) (fun _ i => (intOf i + 1).toNat)
  case atStart => exact ⟨4, by omega, rfl, val_int (by rw [List.drop_of_length_le (by rw [hl.out]; omega)]; rfl)⟩
  case round =>
    obtain ⟨k, hk, rfl, rfl⟩ := hrel
    cases k with
    | succ k =>
      have hlt : k < s.size := by omega
      have hb := UInt8.toNat_lt s[k]
      have hd := Lib.hid (show Crc.num (s.data.toList.drop k) = s[k].toNat + 256 * Crc.num (s.data.toList.drop (k + 1)) from num_drop s.data.toList k (by rw [hl.out]; omega))
      have hn := num_lt (s.data.toList.drop (k + 1))
      have hp : 256 ^ (s.data.toList.drop (k + 1)).length ≤ 256 ^ 3 := Nat.pow_le_pow_right (by omega) (by rw [List.length_drop, hl.out]; omega)
      have hn2 : Crc.num (s.data.toList.drop (k + 1)) < 16777216 := by omega
      clear hn hp
      have e : (((k + 1 : Nat) : Int) - 1) = (k : Int) := by omega
      rw [e]
      clear e
      go_wp2
      go_round
      case rel => exact ⟨k, by omega, rfl, val_int (by rw [hd.out]; omega)⟩
      case measure => simp [intOf]
    | zero =>
      go_wp2
      go_ret
      exact ⟨rfl, rfl⟩
end Go.Proofs.Ythfaokiiciebdaa
