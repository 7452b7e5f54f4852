/- The walk of roll's Skip by the window's own size. Condition: the sizes. -/
import Derived.Test.YtaemlplcjjbamaaGreatDoorBRoll
import Derived.Test.YtaemlplcjjbamaaGreatDoorBMarked
import Derived.Deep.RegionHeld3
namespace Go.Proofs.YtaemlplcjjbamaaGreatDoor
open Go Go.RowKit
set_option linter.unusedVariables false
set_option maxRecDepth 100000 in
theorem rollNew_any (S : List UInt8) (size : Nat) (w : World) (hS : S.length ≤ 1048576) (h1 : 1 ≤ size) (h2 : size ≤ 1024) (hl : size ≤ S.length) :
    Calls Tryz.prog 175 #[.string (ba S), .int .i64 (size : Int)] w fun e w' => ∃ r, e = .returned (.tuple #[.pointer (some ⟨r, 0, none⟩), .int .i64 0]) ∧ w.heap.size ≤ r ∧ RollAt w' r S size 0 ∧ Below w.heap.size w w' := by
  have hsz := ba_size S
  have hx : ((ba S).extract 0 size).size ≤ 1048576 := by rw [ByteArray.size_extract]; omega
  have HS := Lib.hid (rollSum_any ((ba S).extract 0 size) w hx)
  clear hx
  go_enter Tryz.func175, Tryz.ntmps175
  go_wp2_with fail
  refine HS.out.mono ?_
  rintro e w1 ⟨rfl, rfl⟩
  have hx := wsum_lt ((ba S).extract 0 size)
  generalize wsum ((ba S).extract 0 size) = x at hx ⊢
  go_wp2_with fail
  go_ret2
  refine ⟨_, rfl, Nat.le_refl _, ⟨x % 65536, x / 65536, ?_, by omega, by omega, by omega⟩, (Below.refl _ _).alloc (Nat.le_refl _) _⟩
  have h := Blk.new w [.string (ba S), .int .i64 (size : Int), .int .i64 0, .int .i64 ((x % 65536 : Nat) : Int), .int .i64 ((x / 65536 : Nat) : Int)] 265
  exact h
theorem rollNew_short (S : List UInt8) (size : Nat) (w : World) (h1 : 1 ≤ size) (h2 : size ≤ 1024) (hl : S.length < size) :
    Calls Tryz.prog 175 #[.string (ba S), .int .i64 (size : Int)] w fun e w' => e = .returned (.tuple #[.pointer none, .int .i64 3]) ∧ w = w' := by
  have hsz := ba_size S
  go_enter Tryz.func175, Tryz.ntmps175
  go_wp2_with fail
  go_ret2
  exact ⟨rfl, rfl⟩
theorem rollVal_any (r : Nat) (S : List UInt8) (size at_ : Nat) (w : World) (h : RollAt w r S size at_) :
    Calls Tryz.prog 178 #[.pointer (some ⟨r, 0, none⟩)] w fun e w' => (∃ x : Nat, e = .returned (.int .i64 (x : Int))) ∧ ∃ n, w' = w.drewN n := by
  obtain ⟨a, b, hB, ha, hb, _⟩ := h
  have c3 : w.cell? ⟨r, 3, none⟩ = some (.int .i64 (a : Int)) := hB.cell 3
  have c4 : w.cell? ⟨r, 4, none⟩ = some (.int .i64 (b : Int)) := hB.cell 4
  obtain ⟨p, hp⟩ : ∃ p, p = b * 65536 := ⟨_, rfl⟩
  have hw1 : IntKind.i64.wrap ((b : Int) * 65536) = (p : Int) := by rw [IntKind.wrap_i64]; omega
  obtain ⟨q, hq⟩ : ∃ q, q = a + p := ⟨_, rfl⟩
  have hw2 : IntKind.i64.wrap ((a : Int) + (p : Int)) = (q : Int) := by rw [IntKind.wrap_i64]; omega
  clear hB hp hq
  go_enter Tryz.func178, Tryz.ntmps178
  go_wp2
  go_quiet (fail)
  go_wp2
  go_ret
  exact ⟨⟨q, rfl⟩, _, rfl⟩
theorem RollAt.cells {w : World} {r : Nat} {S : List UInt8} {size at_ : Nat} (h : RollAt w r S size at_) : w.cell? ⟨r, 0, none⟩ = some (.string (ba S)) ∧ w.cell? ⟨r, 1, none⟩ = some (.int .i64 (size : Int)) ∧ w.cell? ⟨r, 2, none⟩ = some (.int .i64 (at_ : Int)) := by
  obtain ⟨a, b, hB, _⟩ := h
  exact ⟨hB.cell 0, hB.cell 1, hB.cell 2⟩
set_option maxRecDepth 100000 in
theorem rollNext_end (r : Nat) (S : List UInt8) (size at_ : Nat) (w : World) (h : RollAt w r S size at_) (h1 : 1 ≤ size) (he : at_ + size = S.length) (hS : S.length ≤ 1048576) :
    Calls Tryz.prog 179 #[.pointer (some ⟨r, 0, none⟩)] w fun e w' => e = .returned (.bool false) ∧ ∃ n, w' = w.drewN n := by
  obtain ⟨c0, c1, c2⟩ := h.cells
  have hsz := ba_size S
  have hz : ((size : Int) == 0) = false := by rw [beq_eq_false_iff_ne]; omega
  have hw1 : IntKind.i64.wrap ((at_ : Int) + (size : Int)) = (S.length : Int) := by rw [IntKind.wrap_i64]; omega
  clear h he
  go_enter Tryz.func179, Tryz.ntmps179
  go_wp2
  go_quiet (fail)
  go_wp2
  go_ret
  exact ⟨rfl, _, rfl⟩
set_option maxRecDepth 100000 in
set_option maxHeartbeats 2000000 in
theorem rollNext_go (r : Nat) (S : List UInt8) (size at_ : Nat) (w : World) (h : RollAt w r S size at_) (h1 : 1 ≤ size) (h2 : size ≤ 1024) (he : at_ + size < S.length) (hS : S.length ≤ 1048576) :
    Calls Tryz.prog 179 #[.pointer (some ⟨r, 0, none⟩)] w fun e w' => e = .returned (.bool true) ∧ RollAt w' r S size (at_ + 1) ∧ Touch (fun k => k = r) w w' := by
  obtain ⟨a, b, hB, ha, hb, hle⟩ := h
  have hsz := ba_size S
  have c0 : w.cell? ⟨r, 0, none⟩ = some (.string (ba S)) := hB.cell 0
  have c1 : w.cell? ⟨r, 1, none⟩ = some (.int .i64 (size : Int)) := hB.cell 1
  have c2 : w.cell? ⟨r, 2, none⟩ = some (.int .i64 (at_ : Int)) := hB.cell 2
  have hz : ((size : Int) == 0) = false := by rw [beq_eq_false_iff_ne]; omega
  obtain ⟨q, hq⟩ : ∃ q, q = at_ + size := ⟨_, rfl⟩
  have hw1 : IntKind.i64.wrap ((at_ : Int) + (size : Int)) = (q : Int) := by rw [IntKind.wrap_i64]; omega
  have hqe : ((q : Int) == (S.length : Int)) = false := by rw [beq_eq_false_iff_ne]; omega
  have hq2 : q < S.length := by omega
  have ha2 : at_ < S.length := by omega
  have HB := Lib.hid hB
  have Hq := Lib.hid hq
  clear hB hq he hle
  go_enter Tryz.func179, Tryz.ntmps179
  go_wp2
  go_quiet (fail)
  have HB1 := Lib.hid (HB.out.drewN nq)
  have HT1 := Lib.hid ((Touch.refl (fun k => k = r) w).drewN nq)
  generalize w.drewN nq = w1 at HB1 HT1 ⊢
  clear c0 c1 c2 HB
  have c0 : w1.cell? ⟨r, 0, none⟩ = some (.string (ba S)) := HB1.out.cell 0
  have c1 : w1.cell? ⟨r, 1, none⟩ = some (.int .i64 (size : Int)) := HB1.out.cell 1
  have c2 : w1.cell? ⟨r, 2, none⟩ = some (.int .i64 (at_ : Int)) := HB1.out.cell 2
  go_upto_region 3 with fail
  go_quiet (fail)
  have HB2 := Lib.hid (HB1.out.drewN nq)
  have HT2 := Lib.hid (HT1.out.drewN nq)
  generalize w1.drewN nq = w2 at HB2 HT2 ⊢
  clear c0 c1 c2 HB1 HT1
  have ho := UInt8.toNat_lt ((ba S)[at_]'(by omega))
  have hi := UInt8.toNat_lt ((ba S)[q]'(by omega))
  rw [wrap64_u8, wrap64_u8]
  generalize ((ba S)[at_]'(by omega)).toNat = xo at ho ⊢
  generalize ((ba S)[q]'(by omega)).toNat = xi at hi ⊢
  have c3 : w2.cell? ⟨r, 3, none⟩ = some (.int .i64 (a : Int)) := HB2.out.cell 3
  have f3 := HB2.out.free 3
  have l3 := HB2.out.lt
  go_upto_region 5 with fail
  obtain ⟨x2, hx2⟩ : ∃ x2 : Nat, ((a : Int) - (xo : Int) + (xi : Int)) % 65536 = (x2 : Int) := ⟨(((a : Int) - (xo : Int) + (xi : Int)) % 65536).toNat, by omega⟩
  have hx2b : x2 < 65536 := by omega
  rw [hx2]
  have HB3 := Lib.hid (HB2.out.set 3 (.int .i64 (x2 : Int)))
  have HT3 := Lib.hid (touchB (o := 3) HT2.out (.int .i64 (x2 : Int)))
  generalize w2.setCell ⟨r, 3, none⟩ (.int .i64 (x2 : Int)) = w3 at HB3 HT3 ⊢
  clear c3 f3 l3 HB2 HT2 hx2
  have c1 : w3.cell? ⟨r, 1, none⟩ = some (.int .i64 (size : Int)) := HB3.out.cell 1
  have c3 : w3.cell? ⟨r, 3, none⟩ = some (.int .i64 (x2 : Int)) := HB3.out.cell 3
  have c4 : w3.cell? ⟨r, 4, none⟩ = some (.int .i64 (b : Int)) := HB3.out.cell 4
  have f4 := HB3.out.free 4
  have l4 := HB3.out.lt
  obtain ⟨p, hp⟩ : ∃ p, p = size * xo := ⟨_, rfl⟩
  have hpb : p ≤ 1024 * 255 := by rw [hp]; exact Nat.mul_le_mul h2 (by omega)
  have hp1 : IntKind.i64.wrap ((size : Int) * (xo : Int)) = (p : Int) := by
    have e : (size : Int) * (xo : Int) = (p : Int) := by rw [hp, Int.natCast_mul]
    rw [e, IntKind.wrap_i64]; omega
  clear hp
  go_region
  obtain ⟨y2, hy2⟩ : ∃ y2 : Nat, ((b : Int) - (p : Int) % 65536 + (x2 : Int)) % 65536 = (y2 : Int) := ⟨(((b : Int) - (p : Int) % 65536 + (x2 : Int)) % 65536).toNat, by omega⟩
  have hy2b : y2 < 65536 := by omega
  rw [hy2]
  have HB4 := Lib.hid ((HB3.out.set 4 (.int .i64 (y2 : Int))).drew)
  have HT4 := Lib.hid ((touchB (o := 4) HT3.out (.int .i64 (y2 : Int))).drew)
  generalize (w3.setCell ⟨r, 4, none⟩ (.int .i64 (y2 : Int))).drew = w4 at HB4 HT4 ⊢
  clear c1 c3 c4 f4 l4 HB3 HT3 hy2 hp1 hpb
  have c2 : w4.cell? ⟨r, 2, none⟩ = some (.int .i64 (at_ : Int)) := HB4.out.cell 2
  have f2 := HB4.out.free 2
  have l2 := HB4.out.lt
  have HB5 := Lib.hid (HB4.out.set 2 (.int .i64 ((at_ : Int) + 1)))
  have HT5 := Lib.hid (touchB (o := 2) HT4.out (.int .i64 ((at_ : Int) + 1)))
  go_wp2
  go_ret
  exact ⟨rfl, ⟨x2, y2, HB5.out, hx2b, hy2b, by have := Hq.out; omega⟩, HT5.out⟩
end Go.Proofs.YtaemlplcjjbamaaGreatDoor
namespace Go.Proofs.YtaemlplcjjbamaaGreatDoor
open Go Go.RowKit
set_option linter.unusedVariables false
set_option maxRecDepth 100000 in
theorem rollSkip_end (r : Nat) (S : List UInt8) (size at_ : Nat) (w : World) (h : RollAt w r S size at_) (h1 : 1 ≤ size) (he : S.length < at_ + size + size) (hS : S.length ≤ 1048576) :
    Calls Tryz.prog 181 #[.pointer (some ⟨r, 0, none⟩), .int .i64 (size : Int)] w fun e w' => e = .returned (.bool false) ∧ ∃ n, w' = w.drewN n := by
  obtain ⟨c0, c1, c2⟩ := h.cells
  obtain ⟨_, _, _, _, _, hle⟩ := h
  have hsz := ba_size S
  have hz : ((size : Int) == 0) = false := by rw [beq_eq_false_iff_ne]; omega
  have hn : ¬ ((size : Int) < 0) := by omega
  obtain ⟨p, hp⟩ : ∃ p, p = S.length - size := ⟨_, rfl⟩
  have hw1 : IntKind.i64.wrap ((S.length : Int) - (size : Int)) = (p : Int) := by rw [IntKind.wrap_i64]; omega
  obtain ⟨q, hq⟩ : ∃ q, q = p - at_ := ⟨_, rfl⟩
  have hw2 : IntKind.i64.wrap ((p : Int) - (at_ : Int)) = (q : Int) := by rw [IntKind.wrap_i64]; omega
  have hq2 : q < size := by omega
  clear he hp hq hle
  go_enter Tryz.func181, Tryz.ntmps181
  go_wp2
  go_quiet (fail)
  go_wp2
  go_ret
  exact ⟨rfl, _, rfl⟩
set_option maxRecDepth 100000 in
set_option maxHeartbeats 2000000 in
theorem rollSkip_go (r : Nat) (S : List UInt8) (size at_ : Nat) (w : World) (h : RollAt w r S size at_) (h1 : 1 ≤ size) (h2 : size ≤ 1024) (he : at_ + size + size ≤ S.length) (hS : S.length ≤ 1048576) :
    Calls Tryz.prog 181 #[.pointer (some ⟨r, 0, none⟩), .int .i64 (size : Int)] w fun e w' => e = .returned (.bool true) ∧ RollAt w' r S size (at_ + size) ∧ Touch (fun k => k = r) w w' := by
  obtain ⟨a, b, hB, ha, hb, hle⟩ := h
  have hsz := ba_size S
  have c0 : w.cell? ⟨r, 0, none⟩ = some (.string (ba S)) := hB.cell 0
  have c1 : w.cell? ⟨r, 1, none⟩ = some (.int .i64 (size : Int)) := hB.cell 1
  have c2 : w.cell? ⟨r, 2, none⟩ = some (.int .i64 (at_ : Int)) := hB.cell 2
  have hz : ((size : Int) == 0) = false := by rw [beq_eq_false_iff_ne]; omega
  have hn : ¬ ((size : Int) < 0) := by omega
  obtain ⟨p, hp⟩ : ∃ p, p = S.length - size := ⟨_, rfl⟩
  have hw1 : IntKind.i64.wrap ((S.length : Int) - (size : Int)) = (p : Int) := by rw [IntKind.wrap_i64]; omega
  obtain ⟨q, hq⟩ : ∃ q, q = p - at_ := ⟨_, rfl⟩
  have hw2 : IntKind.i64.wrap ((p : Int) - (at_ : Int)) = (q : Int) := by rw [IntKind.wrap_i64]; omega
  have hq2 : ¬ q < size := by omega
  obtain ⟨z, hz2⟩ : ∃ z, z = at_ + size := ⟨_, rfl⟩
  have hw3 : IntKind.i64.wrap ((at_ : Int) + (size : Int)) = (z : Int) := by rw [IntKind.wrap_i64]; omega
  obtain ⟨y, hy⟩ : ∃ y, y = z + size := ⟨_, rfl⟩
  have hw4 : IntKind.i64.wrap ((z : Int) + (size : Int)) = (y : Int) := by rw [IntKind.wrap_i64]; omega
  have hyS : y ≤ S.length := by omega
  have hzy : z ≤ y := by omega
  have Hz2 := Lib.hid hz2
  have Hy := Lib.hid hy
  have HB := Lib.hid hB
  clear he hp hq hle hz2 hy hB
  have hx : ((ba S).extract z y).size ≤ 1048576 := by rw [ByteArray.size_extract]; omega
  go_enter Tryz.func181, Tryz.ntmps181
  go_wp2
  go_quiet (fail)
  have HB1 := Lib.hid (HB.out.drewN nq)
  have HT1 := Lib.hid ((Touch.refl (fun k => k = r) w).drewN nq)
  generalize w.drewN nq = w1 at HB1 HT1 ⊢
  clear c0 c1 c2 HB
  have c1 : w1.cell? ⟨r, 1, none⟩ = some (.int .i64 (size : Int)) := HB1.out.cell 1
  have c2 : w1.cell? ⟨r, 2, none⟩ = some (.int .i64 (at_ : Int)) := HB1.out.cell 2
  have f2 := HB1.out.free 2
  have l2 := HB1.out.lt
  go_upto_region 10 with fail
  have HB2 := Lib.hid (HB1.out.set 2 (.int .i64 (z : Int)))
  have HT2 := Lib.hid (touchB (o := 2) HT1.out (.int .i64 (z : Int)))
  generalize w1.setCell ⟨r, 2, none⟩ (.int .i64 (z : Int)) = w2 at HB2 HT2 ⊢
  clear c1 c2 f2 l2 HB1 HT1
  have c0 : w2.cell? ⟨r, 0, none⟩ = some (.string (ba S)) := HB2.out.cell 0
  have c1 : w2.cell? ⟨r, 1, none⟩ = some (.int .i64 (size : Int)) := HB2.out.cell 1
  have c2 : w2.cell? ⟨r, 2, none⟩ = some (.int .i64 (z : Int)) := HB2.out.cell 2
  have HS := Lib.hid (fun n => rollSum_any ((ba S).extract z y) (w2.drewN n) hx)
  clear hx
  go_quiet ((go_at_call 173; first | exact quiet_left (HS.out _) | exact quiet_add_left (HS.out _)))
  have HB3 := Lib.hid (HB2.out.drewN nq)
  have HT3 := Lib.hid (HT2.out.drewN nq)
  generalize w2.drewN nq = w3 at HB3 HT3 ⊢
  clear c0 c1 c2 HB2 HT2 HS
  have hx := wsum_lt ((ba S).extract z y)
  generalize wsum ((ba S).extract z y) = x at hx ⊢
  have c3 : w3.cell? ⟨r, 3, none⟩ = some (.int .i64 (a : Int)) := HB3.out.cell 3
  have c4 : w3.cell? ⟨r, 4, none⟩ = some (.int .i64 (b : Int)) := HB3.out.cell 4
  have f3 := HB3.out.free 3
  have f4 := HB3.out.free 4
  have l3 := HB3.out.lt
  have HB5 := Lib.hid ((HB3.out.set 3 (.int .i64 ((x : Int) % 65536))).set 4 (.int .i64 ((x : Int) / 65536)))
  have HT5 := Lib.hid (touchB (o := 4) (touchB (o := 3) HT3.out (.int .i64 ((x : Int) % 65536))) (.int .i64 ((x : Int) / 65536)))
  go_wp2
  go_ret
  refine ⟨rfl, ⟨x % 65536, x / 65536, ?_, by omega, by omega, by rw [← Hz2.out, ← Hy.out]; exact hyS⟩, HT5.out⟩
  rw [← Hz2.out]
  exact HB5.out
end Go.Proofs.YtaemlplcjjbamaaGreatDoor
