/- The walks of sign's Block, fits, count, piece. Condition: the sizes. -/
import Derived.Test.YtogobhpnlndcaaaGreatRoll
import Derived.Test.YtogobhpnlndcaaaGreatReadEnd
import Derived.Lib.MinMax
namespace Go.Proofs.YtogobhpnlndcaaaGreat
open Go Go.RowKit
set_option linter.unusedVariables false

set_option maxRecDepth 100000 in
theorem signBlock_any (n : Int) (w : World) :
    Calls Tryz.prog 15 #[.int .i64 n] w fun e w' => (∃ b : Nat, e = .returned (.int .i64 (b : Int)) ∧ 16 ≤ b ∧ b ≤ 1024) ∧ w = w' := by
  go_enter Tryz.func15, Tryz.ntmps15
  go_wp2
  go_loopw [3] (fun bv wr => ∃ b : Nat, bv = .int .i64 (b : Int) ∧ (b = 16 ∨ b = 32 ∨ b = 64 ∨ b = 128 ∨ b = 256 ∨ b = 512 ∨ b = 1024) ∧ w = wr) (fun bv _ => 1024 - (intOf bv).toNat)
  case atStart => exact ⟨16, rfl, Or.inl rfl, rfl⟩
  case round =>
    obtain ⟨b, rfl, h, rfl⟩ := hrel
    rcases h with rfl | rfl | rfl | rfl | rfl | rfl | rfl
    all_goals go_wp2
    all_goals first
      | (go_ret; exact ⟨⟨_, rfl, by decide, by decide⟩, rfl⟩)
      | (go_roundw
         case rel => exact ⟨_, rfl, by decide, trivial⟩
         case measure => decide)
theorem fits_any (n : Nat) (w : World) (h1 : 16 ≤ n) (h2 : n ≤ 1024) :
    Calls Tryz.prog 55 #[.int .i64 (n : Int)] w fun e w' => e = .returned (.bool true) ∧ w = w' := by
  go_enter Tryz.func55, Tryz.ntmps55
  go_wp2
  go_ret
  exact ⟨ret_bool (by simp; omega), rfl⟩
def npc (size block : Nat) : Nat := (size + block - 1) / block
theorem count_any (size block : Nat) (w : World) (h1 : 1 ≤ block) (h2 : block ≤ 1024) (hs : size ≤ 1048576) :
    Calls Tryz.prog 56 #[.int .i64 (size : Int), .int .i64 (block : Int)] w fun e w' => e = .returned (.int .i64 (npc size block : Nat)) ∧ w = w' := by
  go_enter Tryz.func56, Tryz.ntmps56
  go_wp2
  go_ret
  refine ⟨ret_int ?_, rfl⟩
  unfold npc
  rw [Int.natCast_ediv]
  show ((size : Int) + (block : Int) - 1) / (block : Int) = _
  congr 1
  omega
theorem min_cast {q n m : Nat} (h : m = min q n) : min (q : Int) (n : Int) = (m : Int) := by
  rw [h, Int.min_def, Nat.min_def]
  by_cases hc : q ≤ n
  · rw [if_pos hc, if_pos (by omega)]
  · rw [if_neg hc, if_neg (by omega)]
theorem mul_cast {i b p : Nat} (h : p = i * b) : (i : Int) * (b : Int) = (p : Int) := by rw [h, Int.natCast_mul]
theorem mul_wrap {i b p : Nat} (h : p = i * b) (hp : p ≤ 1099511627776) : RowKit.wrap64 ((i : Int) * (b : Int)) = (p : Int) := by
  rw [mul_cast h]
  unfold RowKit.wrap64
  omega
theorem succ_wrap {i j : Nat} (h : j = i + 1) (hp : i ≤ 1099511627776) : RowKit.wrap64 ((i : Int) + 1) = (j : Int) := by
  unfold RowKit.wrap64
  omega
def pcB (S : List UInt8) (block i : Nat) : ByteArray := (ba S).extract (i * block) (min ((i + 1) * block) S.length)
theorem piece_any (S : List UInt8) (block i : Nat) (w : World) (hS : S.length ≤ 1048576) (h1 : 1 ≤ block) (h2 : block ≤ 1024) (hi : i * block ≤ S.length) :
    Calls Tryz.prog 57 #[.string (ba S), .int .i64 (i : Int), .int .i64 (block : Int)] w fun e w' => e = .returned (.string (pcB S block i)) ∧ w = w' := by
  have hsz := ba_size S
  have hi2 : i ≤ S.length := Nat.le_trans (Nat.le_mul_of_pos_right i (by omega)) hi
  obtain ⟨p, hp⟩ : ∃ p, p = i * block := ⟨_, rfl⟩
  obtain ⟨j, hj⟩ : ∃ j, j = i + 1 := ⟨_, rfl⟩
  obtain ⟨q, hq⟩ : ∃ q, q = j * block := ⟨_, rfl⟩
  obtain ⟨m, hm⟩ : ∃ m, m = min q S.length := ⟨_, rfl⟩
  have hqp : q = p + block := by rw [hq, hj, Nat.add_mul, Nat.one_mul, hp]
  have hpm : p ≤ m := by omega
  have hmS : m ≤ S.length := by omega
  have hqb : q ≤ 1099511627776 := by omega
  have HE := Lib.hid (show pcB S block i = (ba S).extract p m by unfold pcB; rw [← hj, ← hq, ← hp, ← hm])
  have w1 := succ_wrap hj (by omega)
  have w2 := mul_wrap hq hqb
  have w3 := mul_cast hp
  have w4 := min_cast hm
  clear hi hi2 hp hj hq hm hqp hqb
  go_enter Tryz.func57, Tryz.ntmps57
  go_wp2
  go_ret
  rw [HE.out]
  exact ⟨rfl, rfl⟩
end Go.Proofs.YtogobhpnlndcaaaGreat
