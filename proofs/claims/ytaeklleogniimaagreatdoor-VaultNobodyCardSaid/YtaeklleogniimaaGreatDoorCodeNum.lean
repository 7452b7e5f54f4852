/- The walk of code.Num: a number's bytes. No condition. -/
import Derived.Test.YtaeklleogniimaaGreatDoorProg
import Derived.Test.YtaeklleogniimaaGreatDoorKit2
import Derived.Test.YtaeklleogniimaaGreatDoorHeap
import Derived.Lib.AppendStr
import Derived.Laws.BitsAllLaws
import Derived.Laws.Bits128
namespace Go.Proofs.YtaeklleogniimaaGreatDoor
open Go Go.RowKit
set_option linter.unusedVariables false

/-- a number's bytes: seven bits each, the lowest first -/
def cnL (n : Nat) : List UInt8 := if n < 128 then [UInt8.ofNat n] else UInt8.ofNat (n % 128 + 128) :: cnL (n / 128)
termination_by n
decreasing_by omega
theorem cnL_small {n : Nat} (h : n < 128) : cnL n = [UInt8.ofNat n] := by rw [cnL, if_pos h]
theorem cnL_big {n : Nat} (h : ¬ n < 128) : cnL n = UInt8.ofNat (n % 128 + 128) :: cnL (n / 128) := by rw [cnL, if_neg h]
theorem cnL_len : ∀ (k n : Nat), n < 128 ^ (k + 1) → (cnL n).length ≤ k + 1
  | 0, n, h => by rw [cnL_small (by omega)]; simp
  | k + 1, n, h => by
    by_cases h1 : n < 128
    · rw [cnL_small h1]; simp
    · rw [cnL_big h1, List.length_cons]
      have := cnL_len k (n / 128) (by
        rw [Nat.pow_succ] at h
        omega)
      omega
theorem cnL_le {n : Nat} (h : n ≤ 4611686018427387903) : (cnL n).length ≤ 9 := cnL_len 8 n (by omega)
def cnT (n : Nat) : ByteArray := ⟨(cnL n).toArray⟩
theorem cnT_size {n : Nat} (h : n ≤ 4611686018427387903) : (cnT n).size ≤ 9 := by
  have := cnL_le h
  show (cnL n).toArray.size ≤ 9
  simpa using this
theorem low_and (n : Nat) (h : n ≤ 4611686018427387903) : bits .and .i64 (n : Int) 127 = ((n % 128 : Nat) : Int) := by
  have := i64_and_nat n 127 (by omega) (by omega)
  rw [show n &&& 127 = n % 128 from Nat.and_two_pow_sub_one_eq_mod n 7] at this
  exact this
theorem low_bits (n : Nat) : bits .or .i64 ((n % 128 : Nat) : Int) 128 = ((n % 128 + 128 : Nat) : Int) := by
  have := i64_join 7 (n % 128) 1 (by omega) (by omega) (by omega)
  exact this

theorem info_u8 : (Tryz.prog.info? 5).map (fun i => (i.zero, i.size, i.bytes)) = some (some (.int .u8 0), 1, 1) := by kernel_rfl
def u8s (l : List UInt8) : List Value := l.map fun b => Value.int .u8 (b.toNat : Int)
theorem u8s_snoc (l : List UInt8) (b : UInt8) : u8s (l ++ [b]) = u8s l ++ [.int .u8 (b.toNat : Int)] := by simp [u8s]
theorem u8s_length (l : List UInt8) : (u8s l).length = l.length := by simp [u8s]
theorem conv_u8s {w : World} {base : Nat} {v : Value} {l : List UInt8} (h : w.ownsRow base 5 1 v l.length (u8s l)) (h0 : 0 < l.length) :
    (convert 134 9 v).run Tryz.prog w = .ok (.string ⟨l.toArray⟩) w := by
  obtain ⟨g, cap, rfl, _, _, _, _, hc⟩ := row_some h h0
  refine run_convert_bytes_back w 134 9 5 ⟨g, 0, none⟩ cap l Tryz.underlying134 Tryz.underlying5 Tryz.underlying9 ?_
  intro j hj
  rw [addr_add, hc j (by omega)]
  simp [u8s, hj]
theorem u8_of (n : Nat) (h : n < 256) : ((UInt8.ofNat n).toNat : Int) = (n : Int) := by
  rw [UInt8.toNat_ofNat', Nat.mod_eq_of_lt h]

set_option maxRecDepth 100000 in
set_option maxHeartbeats 2000000 in
theorem codeNum_any (n : Nat) (w : World) (hn : n ≤ 4611686018427387903) :
    Calls Tryz.prog 120 #[.int .i64 (n : Int)] w fun e w' => e = .returned (.tuple #[.string (cnT n), .int .i64 0]) ∧ Below w.heap.size w w' := by
  have hl9 := cnL_le hn
  go_enter Tryz.func120, Tryz.ntmps120
  go_wp2
  go_loopw [0, 4] (fun nv bv wr => ∃ (r : Nat) (D : List UInt8), nv = .int .i64 (r : Int) ∧ r ≤ n ∧ D.length ≤ 9 ∧ Hid (D ++ cnL r = cnL n) ∧ Hid (wr.ownsRow w.heap.size 5 1 bv D.length (u8s D)) ∧ Below w.heap.size w wr) (fun nv _ _ => (intOf nv).toNat)
  case atStart => exact ⟨n, [], rfl, Nat.le_refl _, by simp, Lib.hid rfl, Lib.hid (World.ownsRow_nil _ _ _ _), Below.refl _ _⟩
  case round =>
    obtain ⟨r, D, rfl, hr, hD, Hd, Hown, hbr⟩ := hrel
    have hown := Hown.out
    have hsz := hbr.size
    by_cases h1 : r < 128
    · have hd := Lib.hid (show D ++ [UInt8.ofNat r] = cnL n by rw [← Hd.out, cnL_small h1])
      have hw := u8_of r (by omega)
      have hcv := fun (w3 : World) (v : Value) (h : w3.ownsRow w.heap.size 5 1 v (D.length + 1) (u8s D ++ [.int .u8 (r : Int)])) => conv_u8s (w := w3) (base := w.heap.size) (v := v) (l := D ++ [UInt8.ofNat r]) (by rw [u8s_snoc, hw, List.length_append]; exact h) (by simp)
      have Hcv := Lib.hid hcv
      clear hcv hw
      go_wp2_with (at_builtin; refine append_at rfl _ _ 134 rfl w.heap.size 5 1 1 Tryz.underlying134 _ info_u8 rfl (by decide) _ _ _ rfl hown _ rfl [.int .u8 (r : Int)] rfl rfl (by simp [Value.oneCell']) ?c1 ?c2 ?c3 ?_)
      case c1 => unfold maxLen; omega
      case c2 => omega
      case c3 => exact hsz
      intro v' w3 hown3 hb3
      have hcv := Hcv.out w3 v' hown3
      clear Hcv
      rw [hd.out] at hcv
      go_wp2
      go_ret2
      exact ⟨rfl, hbr.trans hb3⟩
    · have hbyte := Lib.hid (show bits .or .i64 (bits .and .i64 (r : Int) 127) 128 % 256 = ((UInt8.ofNat (r % 128 + 128)).toNat : Int) by
        rw [low_and r (by omega), low_bits, u8_of _ (by omega)]; omega)
      have hd := Lib.hid (show (D ++ [UInt8.ofNat (r % 128 + 128)]) ++ cnL (r / 128) = cnL n by rw [← Hd.out, cnL_big h1, List.append_assoc]; rfl)
      have hl := Lib.hid (show D.length + 1 ≤ 9 by
        have := congrArg List.length hd.out
        rw [List.length_append, List.length_append] at this
        simp at this
        omega)
      go_wp2_with (at_builtin; rw [hbyte.out]; refine append_at rfl _ _ 134 rfl w.heap.size 5 1 1 Tryz.underlying134 _ info_u8 rfl (by decide) _ _ _ rfl hown _ rfl [.int .u8 ((UInt8.ofNat (r % 128 + 128)).toNat : Int)] rfl rfl (by simp [Value.oneCell']) ?c1 ?c2 ?c3 ?_)
      case c1 => unfold maxLen; omega
      case c2 => omega
      case c3 => exact hsz
      intro v' w3 hown3 hb3
      have Hown3 := Lib.hid (show w3.ownsRow w.heap.size 5 1 v' (D ++ [UInt8.ofNat (r % 128 + 128)]).length (u8s (D ++ [UInt8.ofNat (r % 128 + 128)])) by rw [u8s_snoc, List.length_append]; exact hown3)
      clear hown3
      go_wp2
      go_roundw
      case rel => exact ⟨r / 128, _, by go_num, by omega, by rw [List.length_append]; exact hl.out, hd, Hown3, hbr.trans hb3⟩
      case measure => simp [intOf]; omega

end Go.Proofs.YtaeklleogniimaaGreatDoor
