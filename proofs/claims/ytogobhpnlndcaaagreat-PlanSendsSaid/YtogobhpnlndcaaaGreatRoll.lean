/- The walks of roll: a text's weak sum, a window that rolls: only that they are numbers in their bounds, and where the window stands. Condition: the sizes. -/
import Derived.Test.YtogobhpnlndcaaaGreatReader
import Derived.BigQuiet
import Derived.Deep.QuietTactic
namespace Go.Proofs.YtogobhpnlndcaaaGreat
open Go Go.RowKit
set_option linter.unusedVariables false

def rsStep (p : Nat × Nat) (c : UInt8) : Nat × Nat := (p.1 + c.toNat, p.2 + (p.1 + c.toNat))
def rs (l : List UInt8) : Nat × Nat := l.foldl rsStep (0, 0)
theorem rs_snoc (l : List UInt8) (c : UInt8) : rs (l ++ [c]) = rsStep (rs l) c := by unfold rs; rw [List.foldl_append]; rfl
/-- a text's weak sum -/
def wsum (s : ByteArray) : Nat := (rs s.data.toList).1 % 65536 + (rs s.data.toList).2 % 65536 * 65536
theorem wsum_lt (s : ByteArray) : wsum s < 4294967296 := by unfold wsum; omega
set_option maxRecDepth 100000 in
set_option maxHeartbeats 1000000 in
theorem rollSum_any (s : ByteArray) (w : World) (hs : s.size ≤ 1048576) :
    Calls Tryz.prog 58 #[.string s] w fun e w' => e = .returned (.int .i64 (wsum s : Nat)) ∧ w = w' := by
  have hdl : s.data.toList.length = s.size := by simp
  go_enter Tryz.func58, Tryz.ntmps58
  go_wp2
  go_loopw [3, 4, 8] (fun av bv kv wr => ∃ a b k : Nat, av = .int .i64 (a : Int) ∧ bv = .int .i64 (b : Int) ∧ kv = .int .i64 (k : Int) ∧ k ≤ s.size ∧ a ≤ 255 * k ∧ b ≤ 267386880 * k ∧ Hid (rs (s.data.toList.take k) = (a, b)) ∧ w = wr) (fun _ _ kv _ => s.size - (intOf kv).toNat)
  case atStart => exact ⟨0, 0, 0, rfl, rfl, rfl, Nat.zero_le _, by omega, by omega, Lib.hid rfl, rfl⟩
  case round =>
    obtain ⟨a, b, k, rfl, rfl, rfl, hk, ha, hb, HR, rfl⟩ := hrel
    by_cases hlt : k < s.size
    · have hc := UInt8.toNat_lt s[k]
      have hk2 : k ≤ 1048575 := by omega
      have HR2 := Lib.hid (show rs (s.data.toList.take (k + 1)) = (a + s[k].toNat, b + (a + s[k].toNat)) by
        rw [take_snoc s k hlt, rs_snoc, HR.out]; rfl)
      go_wp2
      go_roundw
      case rel => exact ⟨a + s[k].toNat, b + (a + s[k].toNat), k + 1, by go_num, by go_num, by go_num, by omega, by omega, by omega, HR2, trivial⟩
      case measure => simp [intOf]; omega
    · have ha2 : a ≤ 267386880 := by omega
      have hb2 : b ≤ 280375465082880 := by omega
      have HW := Lib.hid (show wsum s = a % 65536 + b % 65536 * 65536 by
        have h := HR.out
        rw [List.take_of_length_le (by omega)] at h
        unfold wsum
        rw [h])
      go_wp2
      go_ret
      exact ⟨ret_int (by rw [HW.out]; omega), rfl⟩
/-- a window of a size over a text, at a place -/
def RollAt (w : World) (r : Nat) (S : List UInt8) (size at_ : Nat) : Prop :=
  ∃ a b : Nat, Blk w r [.string (ba S), .int .i64 (size : Int), .int .i64 (at_ : Int), .int .i64 (a : Int), .int .i64 (b : Int)] 131 ∧ a < 65536 ∧ b < 65536 ∧ at_ + size ≤ S.length
theorem RollAt.below {w w' : World} {r : Nat} {S : List UInt8} {size at_ : Nat} (h : RollAt w r S size at_) (hb : Below w.heap.size w w') : RollAt w' r S size at_ := by
  obtain ⟨a, b, h1, h2, h3, h4⟩ := h
  exact ⟨a, b, h1.below hb, h2, h3, h4⟩
theorem RollAt.touch {T : Nat → Prop} {w w' : World} {r : Nat} {S : List UInt8} {size at_ : Nat} (h : RollAt w r S size at_) (ht : Touch T w w') (hT : ¬ T r) : RollAt w' r S size at_ := by
  obtain ⟨a, b, h1, h2, h3, h4⟩ := h
  exact ⟨a, b, h1.touch ht hT, h2, h3, h4⟩
end Go.Proofs.YtogobhpnlndcaaaGreat
