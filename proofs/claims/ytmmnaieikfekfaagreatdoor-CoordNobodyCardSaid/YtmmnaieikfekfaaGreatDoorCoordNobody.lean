/- The walk of CoordNobody: a coordinator that nobody made does nothing. No condition. -/
import Derived.Test.YtmmnaieikfekfaaGreatDoorTick
namespace Go.Proofs.YtmmnaieikfekfaaGreatDoor
open Go.RowKit

set_option maxRecDepth 100000 in
set_option maxHeartbeats 1000000 in
theorem handle_nil (m0 m1 m2 m3 m4 m5 m6 m7 m8 m9 m10 m11 m12 m13 : Value) (w : World) :
    Calls Tryz.prog 25 #[.pointer none, .agg #[m0, m1, m2, m3, m4, m5, m6, m7, m8, m9, m10, m11, m12, m13]] w fun e w' => e = .returned (.tuple #[]) ∧ Below w.heap.size w w' := by
  go_enter Tryz.func25, Tryz.ntmps25
  go_wp2_with fail
  go_quiet ((go_at_call 32; exact Calls.quiet_of_same ((none_nil _).mono fun _ _ h => ⟨h.1, h.2.symm⟩)))
  go_wp2_with fail
  refine bodyPost_ret (results_none rfl _ _ _) rfl ?_
  exact ⟨rfl, below_drewN ((Below.refl _ _).alloc (Nat.le_refl _) _) _⟩
set_option maxRecDepth 100000 in
theorem ask_nil (k0 k1 k2 : Value) (w : World) :
    Calls Tryz.prog 23 #[.pointer none, .agg #[k0, k1, k2]] w fun e w' => e = .returned (.int .i64 16) ∧ Below w.heap.size w w' := by
  go_enter Tryz.func23, Tryz.ntmps23
  go_wp2_with (go_at_call 32; refine (none_nil _).mono ?_; rintro e w' ⟨rfl, rfl⟩)
  go_ret
  exact ⟨rfl, (Below.refl _ _).alloc (Nat.le_refl _) _⟩

set_option maxRecDepth 100000 in
set_option maxHeartbeats 1000000 in
theorem coordNobody_walk (k0 k1 k2 m0 m1 m2 m3 m4 m5 m6 m7 m8 m9 m10 m11 m12 m13 : Value) (w : World) :
    Calls Tryz.prog 11 #[.agg #[k0, k1, k2], .agg #[m0, m1, m2, m3, m4, m5, m6, m7, m8, m9, m10, m11, m12, m13]] w fun e w' => e = .returned (.bool true) ∧ Below w.heap.size w w' := by
  go_enter Tryz.func11, Tryz.ntmps11
  go_wp2_with fail
  refine (handle_nil m0 m1 m2 m3 m4 m5 m6 m7 m8 m9 m10 m11 m12 m13 _).mono ?_
  rintro e w1 ⟨rfl, hb1⟩
  go_wp2_with fail
  have hk1 := ((Blk.new w [k0, k1, k2] 40).alloc (.cells #[m0, m1, m2, m3, m4, m5, m6, m7, m8, m9, m10, m11, m12, m13] 61)).below hb1
  have hb01 := below_step ((((Below.refl w.heap.size w).alloc (Nat.le_refl _) (.cells #[k0, k1, k2] 40))).alloc (by simp) (.cells #[m0, m1, m2, m3, m4, m5, m6, m7, m8, m9, m10, m11, m12, m13] 61)) hb1
  have Hk1 := Lib.hid hk1
  clear hk1 hb1
  refine (take_nil _).mono ?_
  rintro e w2 ⟨rfl, hb2⟩
  have Hk2 := Lib.hid (Hk1.out.below hb2)
  have hb02 := below_step hb01 hb2
  simp only [noAnswer]
  clear Hk1 hb01 hb2
  go_wp2_with fail
  have hk3 := Hk2.out.alloc (.cells #[.int .i64 0, .int .i64 0, .int .i64 0, .slice none 0 0, .slice none 0 0] 34)
  have hb03 := hb02.alloc hb02.size (.cells #[.int .i64 0, .int .i64 0, .int .i64 0, .slice none 0 0, .slice none 0 0] 34)
  have hx3 : (w2.alloc (.cells #[.int .i64 0, .int .i64 0, .int .i64 0, .slice none 0 0, .slice none 0 0] 34)).cell? ⟨w2.heap.size, 0, none⟩ = some (.int .i64 0) := (Blk.new w2 [.int .i64 0, .int .i64 0, .int .i64 0, .slice none 0 0, .slice none 0 0] 34).cell 0
  have hs3 : w2.heap.size < (w2.alloc (.cells #[.int .i64 0, .int .i64 0, .int .i64 0, .slice none 0 0, .slice none 0 0] 34)).heap.size := by simp
  generalize w2.alloc (.cells #[.int .i64 0, .int .i64 0, .int .i64 0, .slice none 0 0, .slice none 0 0] 34) = w3 at hk3 hb03 hx3 hs3 ⊢
  have c0 : w3.cell? ⟨w.heap.size, 0, none⟩ = some k0 := hk3.cell 0
  have c1 : w3.cell? ⟨w.heap.size, 1, none⟩ = some k1 := hk3.cell 1
  have c2 : w3.cell? ⟨w.heap.size, 2, none⟩ = some k2 := hk3.cell 2
  clear hk3 Hk2 hb02
  refine (knownOf_nil _).mono ?_
  rintro e wx ⟨rfl, rfl⟩
  go_wp2_with fail
  refine (ask_nil k0 k1 k2 _).mono ?_
  rintro e w4 ⟨rfl, hb4⟩
  have hx4 := (hb4.cell (p := ⟨w2.heap.size, 0, none⟩) hs3).trans hx3
  have hb04 := below_step hb03 hb4
  clear hb4 hx3 c0 c1 c2
  go_wp2_with fail
  refine (tick_nil _).mono ?_
  rintro e wx ⟨rfl, rfl⟩
  go_wp2_with fail
  refine (ballotOf_nil _).mono ?_
  rintro e wx ⟨rfl, rfl⟩
  go_wp2_with fail
  refine (leads_nil _).mono ?_
  rintro e wx ⟨rfl, rfl⟩
  go_wp2_with fail
  refine (off_nil _).mono ?_
  rintro e wx ⟨rfl, rfl⟩
  go_wp2_with fail
  refine (awake_any _).mono ?_
  rintro e w5 ⟨rfl, hb5⟩
  go_wp2_with fail
  go_ret
  exact ⟨rfl, below_step hb04 hb5⟩
end Go.Proofs.YtmmnaieikfekfaaGreatDoor
