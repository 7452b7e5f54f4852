/- The walks of times, twice and Join: maps of 32 bits by what each bit becomes. Condition: sums from 0 to 2^32 - 1, a length not below 0. -/
import Derived.Test.YthfaokiiciebdaaRefAdd
import Derived.Test.YthfaokiiciebdaaBurst
import Derived.Deep.RegionWith
namespace Go.Proofs.Ythfaokiiciebdaa
open Go.RowKit

/-- the array in block g holds F 0 .. F (k - 1), then whatever; it may be written -/
def MatTo (w : World) (g k : Nat) (F : Nat → Nat) : Prop :=
  (∀ i, i < k → w.cell? ⟨g, i, none⟩ = some (.int .u32 (F i : Nat))) ∧ (∀ i, k ≤ i → i < 32 → ∃ v, w.cell? ⟨g, i, none⟩ = some v) ∧ ∀ i, i < 32 → w.frozen? ⟨g, i, none⟩ = false
theorem matTo_set {w : World} {g k : Nat} {F : Nat → Nat} (h : MatTo w g k F) (hk : k < 32) (v : Value) (hv : v = .int .u32 (F k : Nat)) : MatTo (w.setCell ⟨g, k, none⟩ v) g (k + 1) F := by
  obtain ⟨h1, h2, h3⟩ := h
  obtain ⟨u, hu⟩ := h2 k (Nat.le_refl _) hk
  refine ⟨fun i hi => ?_, fun i hi hi2 => ?_, fun i hi => by rw [World.frozen?_setCell]; exact h3 i hi⟩
  · by_cases he : k = i
    · subst he; rw [World.cell?_setCell_same (h := hu), hv]
    · rw [World.cell?_setCell_other (h := by intro e; injection e; omega)]; exact h1 i (by omega)
  · rw [World.cell?_setCell_other (h := by intro e; injection e; omega)]; exact h2 i (by omega) hi2
theorem matTo_drew {w : World} {g k : Nat} {F : Nat → Nat} (h : MatTo w g k F) : MatTo w.drew g k F := h
theorem matTo_below {w w' : World} {g k : Nat} {F : Nat → Nat} (h : MatTo w g k F) (hb : Below w.heap.size w w') (hg : g < w.heap.size) : MatTo w' g k F := by
  obtain ⟨h1, h2, h3⟩ := h
  refine ⟨fun i hi => ?_, fun i hi hi2 => ?_, fun i hi => ?_⟩
  · rw [hb.cell (p := ⟨g, i, none⟩) hg]; exact h1 i hi
  · obtain ⟨v, hv⟩ := h2 i hi hi2; exact ⟨v, by rw [hb.cell (p := ⟨g, i, none⟩) hg]; exact hv⟩
  · rw [hb.frozen (p := ⟨g, i, none⟩) hg]; exact h3 i hi

def pw (j i : Nat) : Nat := Crc.turns j (2 ^ i)
def app (j x : Nat) : Nat → Nat
  | 0 => 0
  | k + 1 => if x / 2 ^ k % 2 = 1 then app j x k ^^^ pw j k else app j x k
theorem turns_zero_ (j : Nat) : Crc.turns j 0 = 0 := by
  have h := Crc.turns_shift j 0
  rwa [Nat.zero_mul] at h
theorem app_mod (j x k : Nat) : app j x k = Crc.turns j (x % 2 ^ k) := by
  induction k with
  | zero => rw [app, Nat.pow_zero, Nat.mod_one, turns_zero_]
  | succ k ih =>
    rw [app]
    split
    · next h =>
      have h1 := Crc.low_take x k 0 0 h
      rw [Nat.zero_xor, Nat.zero_xor, Nat.zero_add] at h1
      unfold Crc.low at h1
      rw [Nat.pow_zero, Nat.mul_one, Nat.mul_one] at h1
      rw [h1, Crc.turns_lin, ih]
      rfl
    · next h =>
      have h1 := Crc.low_skip x k 0 ((Nat.mod_two_eq_zero_or_one _).resolve_right h)
      unfold Crc.low at h1
      rw [Nat.pow_zero, Nat.mul_one, Nat.mul_one] at h1
      rw [h1, ih]
theorem pw_lt (j i : Nat) (h : i < 32) : pw j i < 4294967296 := Crc.turns_lt j ((show 2 ^ i < 2 ^ 32 from Nat.pow_lt_pow_right (by omega) h))
theorem app_lt (j x k : Nat) (hx : x < 4294967296) : app j x k < 4294967296 := by
  rw [app_mod]
  exact Crc.turns_lt j (Nat.lt_of_le_of_lt (Nat.mod_le _ _) hx)

set_option maxHeartbeats 1000000 in
theorem times_any (g j x : Nat) (w : World) (hm : MatTo w g 32 (pw j)) (hx : x < 4294967296) :
    Calls Try.prog 31 #[.pointer (some ⟨g, 0, none⟩), .int .u32 x] w fun e w' => e = .returned (.int .u32 (Crc.turns j x : Nat)) ∧ w = w' := by
  have Hm := Lib.hid hm
  clear hm
  go_enter Try.func31, Try.ntmps31
  go_wp2
  go_loop [5, 7] (fun o i => ∃ k : Nat, k ≤ 32 ∧ i = .int .i64 k ∧ o = .int .u32 (app j x k : Nat)) (fun _ i => 32 - (intOf i).toNat)
  case atStart => exact ⟨0, by omega, rfl, rfl⟩
  case round =>
    obtain ⟨k, hk, rfl, rfl⟩ := hrel
    by_cases hlt : k < 32
    · have hq : bits BinOp.and IntKind.u32 ((x : Int) / 2 ^ k) 1 = ((x / 2 ^ k % 2 : Nat) : Int) := by
        have h := and1 (x / 2 ^ k) (Nat.lt_of_le_of_lt (Nat.div_le_self _ _) hx)
        rw [← h]
        congr 1
      have hcell := Hm.out.1 k hlt
      have hl1 := app_lt j x k hx
      have hl2 := pw_lt j k hlt
      have hxx := Lib.hid (u32_xor_nat (app j x k) (pw j k) hl1 hl2)
      by_cases hb : x / 2 ^ k % 2 = 1
      · have hd : (bits BinOp.and IntKind.u32 ((x : Int) / 2 ^ k) 1 == 1) = true := by rw [hq, hb]; rfl
        have Hb := Lib.hid hb
        clear hq hb
        go_wp2
        go_round
        case rel => exact ⟨k + 1, by omega, by go_num, val_int (by rw [app, if_pos Hb.out]; exact hxx.out)⟩
        case measure => simp [intOf]; omega
      · have hd : (bits BinOp.and IntKind.u32 ((x : Int) / 2 ^ k) 1 == 1) = false := by rw [hq, (Nat.mod_two_eq_zero_or_one _).resolve_right hb]; rfl
        have Hb := Lib.hid hb
        clear hq hb
        go_wp2
        go_round
        case rel => exact ⟨k + 1, by omega, by go_num, val_int (by rw [app, if_neg Hb.out])⟩
        case measure => simp [intOf]; omega
    · have hk32 : k = 32 := by omega
      subst hk32
      go_wp2
      go_ret
      exact ⟨ret_int (by rw [app_mod, Nat.mod_eq_of_lt (by omega)]), rfl⟩

def zeroArr : Obj := .cells #[.int .u32 0, .int .u32 0, .int .u32 0, .int .u32 0, .int .u32 0, .int .u32 0, .int .u32 0, .int .u32 0, .int .u32 0, .int .u32 0, .int .u32 0, .int .u32 0, .int .u32 0, .int .u32 0, .int .u32 0, .int .u32 0, .int .u32 0, .int .u32 0, .int .u32 0, .int .u32 0, .int .u32 0, .int .u32 0, .int .u32 0, .int .u32 0, .int .u32 0, .int .u32 0, .int .u32 0, .int .u32 0, .int .u32 0, .int .u32 0, .int .u32 0, .int .u32 0] 50
theorem matTo_new (w : World) (F : Nat → Nat) : MatTo (w.alloc zeroArr) w.heap.size 0 F := by
  refine ⟨fun i hi => by omega, fun i _ hi => ?_, fun i _ => ?_⟩
  · unfold zeroArr
    rw [World.cell?_alloc_new]
    exact ⟨_, Array.getElem?_eq_getElem hi⟩
  · unfold zeroArr
    exact World.frozen?_alloc_at _ _ _ _ rfl

theorem pw_twice (j i : Nat) : Crc.turns j (pw j i) = pw (j + j) i := by unfold pw; rw [Crc.turns_add]

set_option maxHeartbeats 1000000 in
theorem twice_any (g j : Nat) (w : World) (hm : MatTo w g 32 (pw j)) (hg : g < w.heap.size) :
    Calls Try.prog 30 #[.pointer (some ⟨g, 0, none⟩)] w fun e w' => e = .returned (.pointer (some ⟨w.heap.size, 0, none⟩)) ∧ MatTo w' w.heap.size 32 (pw (j + j)) ∧ Below w.heap.size w w' ∧ w.heap.size < w'.heap.size := by
  have Hm := Lib.hid hm
  clear hm
  go_enter Try.func30, Try.ntmps30
  go_wp2
  have hz : w.alloc (.cells #[.int .u32 0, .int .u32 0, .int .u32 0, .int .u32 0, .int .u32 0, .int .u32 0, .int .u32 0, .int .u32 0, .int .u32 0, .int .u32 0, .int .u32 0, .int .u32 0, .int .u32 0, .int .u32 0, .int .u32 0, .int .u32 0, .int .u32 0, .int .u32 0, .int .u32 0, .int .u32 0, .int .u32 0, .int .u32 0, .int .u32 0, .int .u32 0, .int .u32 0, .int .u32 0, .int .u32 0, .int .u32 0, .int .u32 0, .int .u32 0, .int .u32 0, .int .u32 0] 50) = w.alloc zeroArr := rfl
  rw [hz]
  clear hz
  obtain ⟨w1, hw1⟩ : ∃ w1, w1 = w.alloc zeroArr := ⟨_, rfl⟩
  have hm1 : Hid (MatTo w1 w.heap.size 0 (pw (j + j))) := by rw [hw1]; exact matTo_new w _
  have hb1 : Below w.heap.size w w1 := by rw [hw1]; exact (Below.refl _ _).alloc (Nat.le_refl _) _
  have hs1 : w.heap.size < w1.heap.size := by rw [hw1]; simp
  rw [← hw1]
  clear hw1
  go_loopw [5] (fun i wr => ∃ k : Nat, k ≤ 32 ∧ i = .int .i64 k ∧ Hid (MatTo wr w.heap.size k (pw (j + j))) ∧ Below w.heap.size w wr ∧ w.heap.size < wr.heap.size) (fun i _ => 32 - (intOf i).toNat)
  case atStart => exact ⟨0, by omega, rfl, hm1, hb1, hs1⟩
  case round =>
    obtain ⟨k, hk, rfl, hmr, hbr, hsr⟩ := hrel
    by_cases hlt : k < 32
    · have hmo := Lib.hid (matTo_below Hm.out hbr hg)
      have hcell := hmo.out.1 k hlt
      obtain ⟨u, hu⟩ := hmr.out.2.1 k (Nat.le_refl _) hlt
      have hf := hmr.out.2.2 k hlt
      have hpl := pw_lt j k hlt
      go_wp2_with fail
      refine (times_any g j (pw j k) _ hmo.out hpl).mono ?_
      rintro e w2 ⟨rfl, rfl⟩
      rw [pw_twice]
      go_wp2
      go_roundw
      case rel => exact ⟨k + 1, by omega, by go_num, matTo_set hmr.out hlt _ rfl, hbr.setCell (Nat.le_refl _) _, by simpa using hsr⟩
      case measure => simp [intOf]; omega
    · have hk32 : k = 32 := by omega
      subst hk32
      go_wp2
      go_ret
      exact ⟨rfl, hmr.out, hbr, hsr⟩

theorem joined (a n : Nat) (k : Nat) (x n' : Nat) (h : Crc.turns (k * n') x = Crc.turns (8 * n) a) (hb : n' % 2 = 1) : Crc.turns ((k + k) * (n' / 2)) (Crc.turns k x) = Crc.turns (8 * n) a := by
  rw [← h, ← Crc.turns_add]
  congr 1
  have : n' = 2 * (n' / 2) + 1 := by omega
  rw [this, show (2 * (n' / 2) + 1) / 2 = n' / 2 by omega, Nat.mul_add, ← Nat.mul_assoc, Nat.mul_two]
  omega
theorem joined_even (a n : Nat) (k : Nat) (x n' : Nat) (h : Crc.turns (k * n') x = Crc.turns (8 * n) a) (hb : n' % 2 = 0) : Crc.turns ((k + k) * (n' / 2)) x = Crc.turns (8 * n) a := by
  rw [← h]
  congr 1
  have : n' = 2 * (n' / 2) := by omega
  rw [this, show (2 * (n' / 2)) / 2 = n' / 2 by omega, ← Nat.mul_assoc, Nat.mul_two]

theorem turned_int (x : Int) (r : Nat) (hx : x = r) (hr : r < 4294967296) (w : World) :
    Calls Try.prog 26 #[.int .u32 x] w fun e w' => e = .returned (.int .u32 (Crc.turned r)) ∧ w = w' := by
  subst hx
  exact turned_any r hr w
theorem turned_bit (k : Nat) (hk : k < 32) (w : World) :
    Calls Try.prog 26 #[.int .u32 (IntKind.u32.wrap (2 ^ k))] w fun e w' => e = .returned (.int .u32 (pw 1 k : Nat)) ∧ w = w' := by
  have h2k : (2 : Nat) ^ k < 2 ^ 32 := Nat.pow_lt_pow_right (by omega) hk
  refine turned_int _ (2 ^ k) ?_ h2k w
  rw [IntKind.wrap_u32', show (2 : Int) ^ k = ((2 ^ k : Nat) : Int) by simp]
  exact Int.emod_eq_of_lt (Int.natCast_nonneg _) (Int.ofNat_lt.2 h2k)
theorem and1_64 (n : Nat) (h : n < 9223372036854775808) : bits BinOp.and IntKind.i64 (n : Int) 1 = ((n % 2 : Nat) : Int) := by
  have h1 := i64_and_nat n 1 h (by omega)
  rw [nat_mask1] at h1
  exact h1

set_option maxHeartbeats 1000000 in
theorem join_any (a b n : Nat) (w : World) (ha : a < 4294967296) (hb : b < 4294967296) (hn : n < 9223372036854775808) :
    Calls Try.prog 19 #[.int .i64 a, .int .i64 b, .int .i64 n] w fun e w' => e = .returned (.tuple #[.int .i64 (Crc.turns (8 * n) a ^^^ b : Nat), .int .i64 0]) ∧ Below w.heap.size w w' := by
  go_enter Try.func19, Try.ntmps19
  go_wp2
  have hz : w.alloc (.cells #[.int .u32 0, .int .u32 0, .int .u32 0, .int .u32 0, .int .u32 0, .int .u32 0, .int .u32 0, .int .u32 0, .int .u32 0, .int .u32 0, .int .u32 0, .int .u32 0, .int .u32 0, .int .u32 0, .int .u32 0, .int .u32 0, .int .u32 0, .int .u32 0, .int .u32 0, .int .u32 0, .int .u32 0, .int .u32 0, .int .u32 0, .int .u32 0, .int .u32 0, .int .u32 0, .int .u32 0, .int .u32 0, .int .u32 0, .int .u32 0, .int .u32 0, .int .u32 0] 50) = w.alloc zeroArr := rfl
  rw [hz]
  clear hz
  obtain ⟨w1, hw1⟩ : ∃ w1, w1 = w.alloc zeroArr := ⟨_, rfl⟩
  have hm1 : Hid (MatTo w1 w.heap.size 0 (pw 1)) := by rw [hw1]; exact matTo_new w _
  have hb1 : Below w.heap.size w w1 := by rw [hw1]; exact (Below.refl _ _).alloc (Nat.le_refl _) _
  have hs1 : w.heap.size < w1.heap.size := by rw [hw1]; simp
  rw [← hw1]
  clear hw1
  go_loopw [31] (fun i wr => ∃ k : Nat, k ≤ 32 ∧ i = .int .i64 k ∧ Hid (MatTo wr w.heap.size k (pw 1)) ∧ Below w.heap.size w wr ∧ w.heap.size < wr.heap.size) (fun i _ => 32 - (intOf i).toNat)
  case atStart => exact ⟨0, by omega, rfl, hm1, hb1, hs1⟩
  case round =>
    obtain ⟨k, hk, rfl, hmr, hbr, hsr⟩ := hrel
    by_cases hlt : k < 32
    · obtain ⟨u, hu⟩ := hmr.out.2.1 k (Nat.le_refl _) hlt
      have hf := hmr.out.2.2 k hlt
      have hi1 : (k : Int) < 32 := by omega
      go_wp2
      go_region_with (go_at_call 26; refine (turned_bit k hlt _).mono ?_; rintro e w' ⟨rfl, rfl⟩)
      go_wp2
      go_roundw
      case rel => exact ⟨k + 1, by omega, by go_num, matTo_drew (matTo_set hmr.out hlt _ rfl), (hbr.setCell (Nat.le_refl _) _).drew, by simpa using hsr⟩
      case measure => simp [intOf]; omega
    · have hk32 : k = 32 := by omega
      subst hk32
      go_wp2_with fail
      refine (twice_any w.heap.size 1 _ hmr.out hsr).mono ?_
      rintro e w2 ⟨rfl, hm2, hb2, hs2⟩
      have Hm2 := Lib.hid hm2
      clear hm2
      go_wp2_with fail
      refine (twice_any wr.heap.size (1 + 1) _ Hm2.out hs2).mono ?_
      rintro e w3 ⟨rfl, hm3, hb3, hs3⟩
      have Hm3 := Lib.hid hm3
      clear hm3
      go_wp2_with fail
      refine (twice_any w2.heap.size (1 + 1 + (1 + 1)) _ Hm3.out hs3).mono ?_
      rintro e w4 ⟨rfl, hm4, hb4, hs4⟩
      have Hm4 := Lib.hid hm4
      clear hm4
      have hb04 := below_step (below_step (below_step hbr hb2) hb3) hb4
      go_wp2
      go_loopw [2, 8, 10] (fun n' p x wr => ∃ (m j g y : Nat), n' = .int .i64 m ∧ p = .pointer (some ⟨g, 0, none⟩) ∧ x = .int .u32 y ∧ m ≤ n ∧ y < 4294967296 ∧ g < wr.heap.size ∧ Hid (MatTo wr g 32 (pw j)) ∧ Hid (Crc.turns (j * m) y = Crc.turns (8 * n) a) ∧ Below w.heap.size w wr) (fun n' _ _ _ => (intOf n').toNat)
      case atStart => exact ⟨n, 8, w3.heap.size, a, rfl, rfl, rfl, by omega, ha, hs4, Hm4.out, rfl, hb04⟩
      case round =>
        obtain ⟨m, j, g, y, rfl, rfl, rfl, hmn, hy, hg, hmat, hinv, hbel⟩ := hrel
        by_cases hm0 : 0 < m
        · have h1 := and1_64 m (by omega)
          by_cases hodd : m % 2 = 1
          · have hd : (bits BinOp.and IntKind.i64 (m : Int) 1 == 1) = true := by rw [h1, hodd]; rfl
            have Ho := Lib.hid (joined a n j y m hinv.out hodd)
            have hy2 := Crc.turns_lt j hy
            clear h1 hodd
            go_wp2_with fail
            refine (times_any g j y _ hmat.out hy).mono ?_
            rintro e w5 ⟨rfl, rfl⟩
            go_wp2_with fail
            refine (twice_any g j _ hmat.out hg).mono ?_
            rintro e w6 ⟨rfl, hm6, hb6, hs6⟩
            have Hm6 := Lib.hid hm6
            clear hm6
            go_wp2
            go_roundw
            case rel => exact ⟨m / 2, j + j, _, _, by go_num, rfl, rfl, by omega, hy2, hs6, Hm6.out, Ho.out, below_step hbel hb6⟩
            case measure => simp [intOf]; omega
          · have hd : (bits BinOp.and IntKind.i64 (m : Int) 1 == 1) = false := by rw [h1, (Nat.mod_two_eq_zero_or_one _).resolve_right hodd]; rfl
            have Ho := Lib.hid (joined_even a n j y m hinv.out ((Nat.mod_two_eq_zero_or_one _).resolve_right hodd))
            clear h1 hodd
            go_wp2_with fail
            refine (twice_any g j _ hmat.out hg).mono ?_
            rintro e w6 ⟨rfl, hm6, hb6, hs6⟩
            have Hm6 := Lib.hid hm6
            clear hm6
            go_wp2
            go_roundw
            case rel => exact ⟨m / 2, j + j, _, y, by go_num, rfl, rfl, by omega, hy, hs6, Hm6.out, Ho.out, below_step hbel hb6⟩
            case measure => simp [intOf]; omega
        · have hm00 : m = 0 := by omega
          subst hm00
          have hfin := hinv.out
          rw [Nat.mul_zero] at hfin
          have hx1 := u32_xor_nat y b hy hb
          have hxl : y ^^^ b < 4294967296 := Nat.xor_lt_two_pow (n := 32) hy hb
          have Hx1 := Lib.hid hx1
          have Hfin := Lib.hid hfin
          clear hx1 hfin hinv
          go_wp2
          go_ret2
          have hv : wrap64 (bits BinOp.xor IntKind.u32 (y : Int) (b : Int)) = ((Crc.turns (8 * n) a ^^^ b : Nat) : Int) := by
            have hfin : y = Crc.turns (8 * n) a := Hfin.out
            rw [Hx1.out, ← hfin]
            exact IntWalk.wrap64_in _ ⟨by omega, by omega⟩
          exact ⟨congrArg (fun x => Ending.returned (.tuple #[.int .i64 x, .int .i64 0])) hv, hbel⟩

theorem sub_xor (m : Nat) (h : m < 4294967296) : 4294967295 - m = 4294967295 ^^^ m := by
  have h3 : (BitVec.allOnes 32 ^^^ BitVec.ofNat 32 m).toNat = (~~~ (BitVec.ofNat 32 m)).toNat := by rw [BitVec.allOnes_xor]
  rw [BitVec.toNat_xor, BitVec.toNat_not, BitVec.toNat_ofNat, Nat.mod_eq_of_lt (by omega)] at h3
  exact h3.symm

/-- the sum of two texts is told by theirs and the second one's length -/
theorem join_law (s t : List UInt8) : Crc.turns (8 * t.length) (Crc.sum 0 s) ^^^ Crc.sum 0 t = Crc.sum 0 (s ++ t) := by
  have hs : Crc.run 4294967295 s < 4294967296 := Crc.run_lt s (by omega)
  have ht : Crc.run 4294967295 t < 4294967296 := Crc.run_lt t (by omega)
  have hst : Crc.run (Crc.run 4294967295 s) t < 4294967296 := Crc.run_lt t hs
  unfold Crc.sum
  rw [Nat.sub_zero, Crc.run_append, sub_xor _ hs, sub_xor _ ht, sub_xor _ hst, Crc.turns_lin, ← Crc.run_num t 4294967295, ← Crc.run_num t (Crc.run 4294967295 s), Crc.turns_lin, Crc.turns_lin]
  generalize Crc.turns (8 * t.length) 4294967295 = A
  generalize Crc.turns (8 * t.length) (Crc.run 4294967295 s) = B
  generalize Crc.turns (8 * t.length) (Crc.num t) = C
  rw [Nat.xor_comm A B, Nat.xor_assoc B A, ← Nat.xor_assoc A, Nat.xor_comm A 4294967295, Nat.xor_assoc 4294967295 A, ← Nat.xor_assoc A A, Nat.xor_self, Nat.zero_xor, ← Nat.xor_assoc, Nat.xor_comm B, Nat.xor_assoc]

set_option maxHeartbeats 1000000 in
theorem frameJoins_walk (s t : ByteArray) (w : World) (hs : s.size ≤ maxLen) (ht : t.size ≤ maxLen) :
    Calls Try.prog 7 #[.string s, .string t] w fun e w' => e = .returned (.bool true) ∧ Below w.heap.size w w' := by
  unfold maxLen at hs ht
  by_cases h : s.size ≤ 2048
  · by_cases h2 : t.size ≤ 2048
    · have e1 : Crc.turns (8 * t.size) (Crc.sum 0 s.data.toList) ^^^ Crc.sum 0 t.data.toList = Crc.sum 0 (s ++ t).data.toList := by
        have := join_law s.data.toList t.data.toList
        rw [show t.data.toList.length = t.size by simp] at this
        rw [this]
        simp
      have E1 := Lib.hid e1
      have hl1 := Crc.sum_lt 0 s.data.toList
      have hl2 := Crc.sum_lt 0 t.data.toList
      clear e1
      go_enter Try.func7, Try.ntmps7
      go_wp2_with fail
      refine (sum_any _ _ (by unfold maxLen; omega)).mono ?_
      rintro e w' ⟨rfl, rfl⟩
      go_wp2_with fail
      refine (sum_any _ _ (by unfold maxLen; omega)).mono ?_
      rintro e w' ⟨rfl, rfl⟩
      go_wp2_with fail
      refine (join_any _ _ _ _ hl1 hl2 (by omega)).mono ?_
      rintro e w1 ⟨rfl, hb⟩
      rw [E1.out]
      go_wp2_with fail
      refine (refSum_any _ _ (by simp; omega)).mono ?_
      rintro e w2 ⟨rfl, hb2⟩
      go_wp2_with fail
      refine (awake_any _).mono ?_
      rintro e w' ⟨rfl, rfl⟩
      go_wp2_with fail
      go_ret
      exact ⟨rfl, below_step hb hb2⟩
    · go_enter Try.func7, Try.ntmps7
      go_wp2_with (go_at_call 14; refine (awake_any _).mono ?_; rintro e w' ⟨rfl, rfl⟩)
      go_ret
      exact ⟨rfl, Below.refl _ _⟩
  · go_enter Try.func7, Try.ntmps7
    go_wp2_with (go_at_call 14; refine (awake_any _).mono ?_; rintro e w' ⟨rfl, rfl⟩)
    go_ret
    exact ⟨rfl, Below.refl _ _⟩
end Go.Proofs.Ythfaokiiciebdaa
