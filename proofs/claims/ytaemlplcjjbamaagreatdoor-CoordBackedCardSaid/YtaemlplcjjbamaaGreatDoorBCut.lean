/- The walks of Cut: a text in parts of a size (chunk). Conditi -/
import Derived.Test.YtaemlplcjjbamaaGreatDoorBHeld
namespace Go.Proofs.YtaemlplcjjbamaaGreatDoor
open Go.Lib (hid)
set_option maxRecDepth 100000
set_option maxHeartbeats 8000000
open Go.RowKit
variable {s : ByteArray} {v : Value} {w w' : World}
def pcells (p : Int × Int × ByteArray) : List Value := [.int .i64 p.1, .int .i64 p.2.1, .string p.2.2]
def zBb (l : List (Int × Int × ByteArray)) : List Value := l.flatMap pcells
theorem zHA (l : List (Int × Int × ByteArray)) (p : Int × Int × ByteArray) : zBb (l ++ [p]) = zBb l ++ pcells p := by
 unfold zBb; rw [List.flatMap_append]; simp
theorem pscells_at (l : List (Int × Int × ByteArray)) (k : Nat) (hk : k < l.length) :
  (zBb l)[k * 3]? = some (.int .i64 l[k].1) ∧ (zBb l)[k * 3 + 1]? = some (.int .i64 l[k].2.1) ∧ (zBb l)[k * 3 + 2]? = some (.string l[k].2.2) := by
 induction l generalizing k with
 | nil => simp at hk
 | cons p l ih =>
  cases k with
  | zero => exact ⟨rfl, rfl, rfl⟩
  | succ k =>
   have h := ih k (by simpa using hk)
   have e : zBb (p :: l) = pcells p ++ zBb l := by unfold zBb; rw [List.flatMap_cons]
   have hl : (pcells p).length = 3 := rfl
   rw [e, List.getElem?_append_right (by rw [hl]; omega), List.getElem?_append_right (by rw [hl]; omega), List.getElem?_append_right (by rw [hl]; omega), hl]
   rw [show (k + 1) * 3 - 3 = k * 3 by omega, show (k + 1) * 3 + 1 - 3 = k * 3 + 1 by omega, show (k + 1) * 3 + 2 - 3 = k * 3 + 2 by omega]
   exact h
def zBt (n k : Nat) : Nat := max 1 ((n + k - 1) / k)
def piece (s : ByteArray) (k i : Nat) : ByteArray := s.extract (i * k) (min ((i + 1) * k) s.size)
def zAN (s : ByteArray) (k : Nat) : List (Int × Int × ByteArray) := (List.range (zBt s.size k)).map fun i => (((i : Nat) : Int), ((zBt s.size k : Nat) : Int), piece s k i)
def cutOf (s : ByteArray) (size : Int) : List (Int × Int × ByteArray) × Nat :=
 if size < 1 then ([], 1) else if 524288 < s.size then ([], 4) else if 4096 < zBt s.size size.toNat then ([], 7) else (zAN s size.toNat, 0)
theorem info_part : (Tryz.prog.info? 27).map (fun i => (i.zero, i.size, i.bytes)) = some (some (.agg #[.int .i64 0, .int .i64 0, .string ByteArray.empty]), 3, 32) := by kernel_rfl
theorem min_walk (n k j : Nat) : (if (n : Int) < ((j : Int) + 1) * (k : Int) then (n : Int) else ((j : Int) + 1) * (k : Int)) = ((min ((j + 1) * k) n : Nat) : Int) := by
 have h : ((j : Int) + 1) * (k : Int) = (((j + 1) * k : Nat) : Int) := by rw [Int.natCast_mul]; rfl
 rw [h]
 split <;> omega
theorem zBp (s : ByteArray) (k : Nat) : (zAN s k).length = zBt s.size k := by simp [zAN]
theorem zGj (s : ByteArray) (k j : Nat) (h : j < zBt s.size k) : (zAN s k).take (j + 1) = (zAN s k).take j ++ [((j : Int), (zBt s.size k : Int), piece s k j)] := by
 have hl : j < (zAN s k).length := by rw [zBp]; exact h
 rw [List.take_succ_eq_append_getElem hl]
 simp [zAN]
def zIy (s : ByteArray) (size : Int) (w : World) (e : Ending) (w' : World) : Prop :=
 ∃ v, e = .returned (.tuple #[v, .int .i64 ((cutOf s size).2 : Nat)]) ∧ w'.ownsRow w.heap.size 27 3 v (cutOf s size).1.length (zBb (cutOf s size).1) ∧ Below w.heap.size w w'
theorem wrap_quo (n k : Nat) (hn : n ≤ 524288) (hk : 1152921504606846976 < k) (hk2 : k ≤ 9223372036854775807) : ¬ 1 < wrap64 ((wrap64 (wrap64 ((n : Int) + k) - 1)).tdiv k) := by
 have key : ∀ x : Int, -9223372036854775808 ≤ x → x < 2 * (k : Int) → ¬ 1 < wrap64 (x.tdiv k) := by
  intro x h0 h1
  by_cases hx : 0 ≤ x
  ·have h2 : x.tdiv k = x / k := Int.tdiv_eq_ediv_of_nonneg hx
   have h3 : x / (k : Int) < 2 := Int.ediv_lt_of_lt_mul (by omega) (by omega)
   have h4 : 0 ≤ x / (k : Int) := Int.ediv_nonneg hx (by omega)
   rw [h2, IntWalk.wrap64_in _ ⟨by omega, by omega⟩]
   omega
  ·have h2 : x.tdiv k = -((-x) / k) := by
    rw [← Int.tdiv_eq_ediv_of_nonneg (show 0 ≤ -x by omega), Int.neg_tdiv, Int.neg_neg]
   have h3 : 0 ≤ (-x) / (k : Int) := Int.ediv_nonneg (by omega) (by omega)
   have h4 : (-x) / (k : Int) ≤ -x := Int.ediv_le_self _ (by omega)
   rw [h2, IntWalk.wrap64_in _ ⟨by omega, by omega⟩]
   omega
 apply key
 ·unfold wrap64; omega
 ·unfold wrap64; omega
theorem zCT {size : Int} {l : List (Int × Int × ByteArray)} {e : Nat} (hv : cutOf s size = (l, e)) (hown : w'.ownsRow w.heap.size 27 3 v l.length (zBb l)) (hb : Below w.heap.size w w') :
  zIy s size w (.returned (.tuple #[v, .int .i64 (e : Int)])) w' := by
 refine ⟨v, ?_, ?_, hb⟩
 ·rw [hv]
 ·rw [hv]; exact hown
theorem cut_some (s : ByteArray) (k : Nat) (w : World) (hs : s.size ≤ 524288) (hk : 1 ≤ k) (hk2 : k ≤ 9223372036854775807) (hn : zBt s.size k ≤ 4096) :
  Calls Tryz.prog 92 #[.string s, .int .i64 k] w (zIy s k w) := by
 go_enter Tryz.func92, Tryz.ntmps92
 obtain ⟨q, hq⟩ : ∃ q, q = (s.size + k - 1) / k := ⟨_, rfl⟩
 have hqi : ((s.size : Int) + k - 1) / k = (q : Int) := by
  rw [hq, show ((s.size : Int) + k - 1) = ((s.size + k - 1 : Nat) : Int) by omega]
  rfl
 obtain ⟨n, hn2⟩ : ∃ n, n = zBt s.size k := ⟨_, rfl⟩
 have hnq : n = max 1 q := by rw [hn2, hq]; rfl
 rw [← hn2] at hn
 go_upto_region 5 with (fail)
 go_cut [6] (fun v wx => v = .int .i64 n ∧ w = wx)
 case first =>
  by_cases hbig : k ≤ 1152921504606846976
  ·by_cases h1 : 1 < q
   ·go_wp2
    go_meet
    exact ⟨zEV (by rw [hnq]; omega), rfl⟩
   ·go_wp2
    go_meet
    exact ⟨zEV (by rw [hnq]; omega), rfl⟩
  ·have hw := wrap_quo s.size k hs (by omega) hk2
   have hq1 : q ≤ 1 := by
    have : (s.size + k - 1) / k < 2 := Nat.div_lt_of_lt_mul (by omega)
    omega
   have Hnq := hid hnq
   clear hqi hnq
   go_wp2
   go_meet
   exact ⟨zEV (by rw [Hnq.out]; omega), rfl⟩
 case rest =>
  obtain ⟨rfl, rfl⟩ := hcut
  have hmul : ∀ i, i < n → i * k ≤ s.size ∧ (i + 1) * k ≤ 9223372036854775807 := by
   intro i hi
   rw [hnq] at hi
   by_cases h1 : 1 < q
   ·have hi2 : i < q := by omega
    have h2 : i * k + k ≤ s.size + k - 1 := by
     have h3 : q * k ≤ s.size + k - 1 := by rw [hq]; exact Nat.div_mul_le_self _ _
     have h4 : (i + 1) * k ≤ q * k := Nat.mul_le_mul_right _ hi2
     rw [Nat.succ_mul] at h4
     omega
    have h5 : k < 2 ^ 60 := by
     apply Nat.lt_of_not_le
     intro hge
     have : (s.size + k - 1) / k < 2 := Nat.div_lt_of_lt_mul (by omega)
     omega
    rw [Nat.succ_mul]
    omega
   ·have : i = 0 := by omega
    subst this
    omega
  have Hmul := hid hmul
  have Hn2 := hid hn2
  clear hqi hq hnq hn2 hmul
  go_wp2
  go_loopw [7, 25] (fun v i wr => ∃ j : Nat, j ≤ n ∧ i = .int .i64 j ∧ wr.ownsRow w.heap.size 27 3 v j (zBb ((zAN s k).take j)) ∧ Below w.heap.size w wr) (fun _ i _ => n - (intOf i).toNat)
  case atStart => exact ⟨0, by omega, rfl, World.ownsRow_nil _ _ _ _, Below.refl _ _⟩
  case round =>
   obtain ⟨j, hj, rfl, hown, hbel⟩ := hrel
   by_cases hlt : j < n
   ·have hm := Hmul.out j hlt
    have hm1 : (j : Int) * (k : Int) ≤ (s.size : Int) := by have := hm.1; omega
    have hm0 : (0 : Int) ≤ (j : Int) * (k : Int) := by omega
    have hm2 : ((j : Int) + 1) * (k : Int) ≤ 9223372036854775807 := by
     have h := hm.2
     have h2 : (((j + 1) * k : Nat) : Int) = ((j : Int) + 1) * (k : Int) := by rw [Int.natCast_mul]; rfl
     omega
    have hm3 : (j : Int) * (k : Int) ≤ ((j : Int) + 1) * (k : Int) := by
     rw [Int.add_mul]; omega
    clear hm
    have hstep := hid (zGj s k j (by rw [← Hn2.out]; exact hlt))
    obtain ⟨t, ht⟩ : ∃ t, t = min ((j + 1) * k) s.size := ⟨_, rfl⟩
    have hmin := min_walk s.size k j
    rw [← ht] at hmin
    have ht1 : (j : Int) * (k : Int) ≤ (t : Int) := by rw [← hmin]; split <;> omega
    have ht2 : (t : Int) ≤ (s.size : Int) := by omega
    have hpw := hid (show s.extract (j * k) t = piece s k j by rw [ht]; rfl)
    clear ht
    go_wp2_with (at_builtin; refine zCS rfl _ _ 154 rfl w.heap.size 27 3 32 Tryz.underlying154 _ info_part rfl (by decide) _ _ _ rfl hown [.int .i64 j, .int .i64 n, .string (s.extract (j * k) t)] rfl rfl (by simp [Value.oneCell']) ?c1 ?c2 ?c3 ?_)
    case c1 => unfold maxLen; omega
    case c2 => omega
    case c3 => exact hbel.size
    intro v' w1 hown3 hb3
    have hown4 : Hid (w1.ownsRow w.heap.size 27 3 v' (j + 1) (zBb ((zAN s k).take (j + 1)))) := by
     show w1.ownsRow w.heap.size 27 3 v' (j + 1) _
     rw [hstep.out, zHA, ← Hn2.out]
     rw [hpw.out] at hown3
     exact hown3
    clear hown3
    go_wp2
    go_roundw
    case rel => exact ⟨j + 1, by omega, by go_num, hown4.out, hbel.trans hb3⟩
    case measure => simp [intOf]; omega
   ·have hjn : j = n := by omega
    have hcut : Hid (cutOf s (k : Int) = (zAN s k, 0)) := by
     show cutOf s (k : Int) = (zAN s k, 0)
     have h1 := Hn2.out
     rw [cutOf, if_neg (by omega), if_neg (by omega), Int.toNat_natCast, if_neg (by omega)]
    have htk := hid (show (zAN s k).take j = zAN s k from List.take_of_length_le (by rw [zBp, ← Hn2.out]; omega))
    have hln := hid (show (zAN s k).length = j by rw [zBp, ← Hn2.out]; omega)
    clear hjn
    go_wp2
    go_ret2
    refine zCT (e := 0) hcut.out ?_ hbel
    rw [hln.out]
    rw [htk.out] at hown
    exact hown
theorem cut_any (s : ByteArray) (size : Int) (w : World) (hs : s.size ≤ maxLen) (hsz : -9223372036854775808 ≤ size ∧ size ≤ 9223372036854775807) :
  Calls Tryz.prog 92 #[.string s, .int .i64 size] w (zIy s size w) := by
 unfold maxLen at hs
 by_cases h1 : size < 1
 ·have hv := hid (show cutOf s size = ([], 1) by rw [cutOf, if_pos h1])
  go_enter Tryz.func92, Tryz.ntmps92
  go_wp2
  go_ret2
  exact zCT (e := 1) hv.out (World.ownsRow_nil _ _ _ _) (Below.refl _ _)
 ·obtain ⟨k, rfl⟩ := Int.eq_ofNat_of_zero_le (show 0 ≤ size by omega)
  have hk : 1 ≤ k := by omega
  by_cases h2 : 524288 < s.size
  ·have hv := hid (show cutOf s (k : Int) = ([], 4) by rw [cutOf, if_neg h1, if_pos h2])
   go_enter Tryz.func92, Tryz.ntmps92
   go_wp2
   go_ret2
   exact zCT (e := 4) hv.out (World.ownsRow_nil _ _ _ _) (Below.refl _ _)
  ·by_cases h3 : zBt s.size k ≤ 4096
   ·exact cut_some s k w (by omega) hk (by omega) h3
   ·have hv := hid (show cutOf s (k : Int) = ([], 7) by rw [cutOf, if_neg h1, if_neg h2, Int.toNat_natCast, if_pos (by omega)])
    obtain ⟨q, hq⟩ : ∃ q, q = (s.size + k - 1) / k := ⟨_, rfl⟩
    have hqi : ((s.size : Int) + k - 1) / k = (q : Int) := by
     rw [hq, show ((s.size : Int) + k - 1) = ((s.size + k - 1 : Nat) : Int) by omega]
     rfl
    have hnq : zBt s.size k = max 1 q := by rw [hq]; rfl
    have hq4 : 4096 < q := by omega
    have hkk : k ≤ s.size := by
     apply Nat.le_of_not_lt
     intro hlt
     have h5 : (s.size + k - 1) / k < 2 := Nat.div_lt_of_lt_mul (by omega)
     omega
    clear hq hnq h3
    go_enter Tryz.func92, Tryz.ntmps92
    go_wp2
    go_ret2
    exact zCT (e := 7) hv.out (World.ownsRow_nil _ _ _ _) (Below.refl _ _)
end Go.Proofs.YtaemlplcjjbamaaGreatDoor
