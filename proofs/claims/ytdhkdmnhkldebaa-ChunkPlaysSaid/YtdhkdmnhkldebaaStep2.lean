/- One step of a play: what lacks is asked. Conditions: sizes. -/
import Derived.Test.YtdhkdmnhkldebaaStep
namespace Go.Proofs.Ytdhkdmnhkldebaa
open Go.RowKit
set_option linter.unusedVariables false

theorem firstTo_cases (m : List (Option ByteArray)) (n : Int) (k : Nat) : firstTo m n k = (lackTo m k).take n.toNat := rfl
set_option maxRecDepth 100000 in
set_option maxHeartbeats 800000 in
theorem step_missing (b gp gh q gl : Nat) (x : OpR) (m : List (Option ByteArray)) (w : World) (hx : x.kind = 1) (h1 : BoxAt w b gp gh m) (h2 : RefAt w q gl m) (hm : m.length ≤ 60) :
    Calls Try.prog 21 #[.pointer (some ⟨b, 0, none⟩), .pointer (some ⟨q, 0, none⟩), .agg #[.int .i64 x.kind, .int .i64 x.n, .int .i64 x.at_, .int .i64 x.of_, .string x.text]] w fun e w' => e = .returned (.bool true) ∧ BoxAt w' b gp gh m ∧ RefAt w' q gl m ∧ Touch (InTwo b gp gh gl) w w' := by
  have hI0 : Inv w b gp gh q gl w.heap.size x m m (w.alloc (.cells (opCells x).toArray 52)) :=
    ⟨boxAt_same h1 ((Below.refl _ _).alloc (Nat.le_refl _) _), h2.below ((Below.refl _ _).alloc (Nat.le_refl _) _), Blk.new w _ _, (Touch.refl _ w).alloc _⟩
  have hob : (opCells x).toArray = #[.int .i64 1, .int .i64 x.n, .int .i64 x.at_, .int .i64 x.of_, .string x.text] := by unfold opCells; rw [hx]
  rw [hob] at hI0
  have HI0 := Lib.hid hI0
  have HLM := Lib.hid (refMissing_any q gl m _ hI0.ref (by omega))
  rw [hx]
  have hll := lackTo_length m m.length
  have hfl := firstTo_length m x.n m.length
  clear h1 h2 hx hob hI0
  generalize hL : lackTo m m.length = L at *
  have HL := Lib.hid hL
  clear hL
  go_enter Try.func21, Try.ntmps21
  go_wp2_with fail
  refine HLM.out.mono ?_
  rintro e w1 ⟨v, rfl, hown, hb1⟩
  have hI1 := HI0.out.below hb1
  have hrn := readsNums_own hown
  obtain ⟨ad, cap, rfl, hc1, hc2, hrr⟩ := hrn
  have HRR := Lib.hid hrr
  have HI1 := Lib.hid hI1
  have p1 : w1.cell? ⟨w.heap.size, 1, none⟩ = some (.int .i64 x.n) := hI1.op.cell 1
  unfold maxLen at hc2
  clear hown hb1 hI1 HI0 HLM hrr
  have HMB := Lib.hid (missing_any b gp gh m x.n w1 HI1.out.box (by omega))
  have hcase : (x.n < (L.length : Int) ∧ x.n < 0) ∨ (x.n < (L.length : Int) ∧ ¬ x.n < 0) ∨ ¬ (x.n < (L.length : Int)) := by omega
  rcases hcase with ⟨g1, g2⟩ | ⟨g1, g2⟩ | g1
  · have HF := Lib.hid (show firstTo m x.n m.length = [] by
      rw [firstTo_cases, HL.out, show x.n.toNat = 0 by omega, List.take_zero])
    go_wp2_with fail
    refine HMB.out.mono ?_
    rintro e w2 ⟨v2, rfl, hown2, hb2⟩
    rw [HF.out] at hown2
    have hI2 := HI1.out.below hb2
    have hin := ints_any v2 (.slice none 0 0) [] w2 (readsNums_own hown2) ⟨none, 0, rfl, Nat.le_refl _, Nat.zero_le _, Or.inl rfl⟩ (by decide)
    have HIN := Lib.hid hin
    have HI2 := Lib.hid hI2
    obtain ⟨va, vc, rfl⟩ := row_shape hown2
    clear hin hI2 hown2 hb2 p1
    go_wp2_with fail
    refine HIN.out.mono ?_
    rintro e w3 ⟨rfl, n3, rfl⟩
    have hI3 := HI2.out.below (below_drewN (Below.refl _ _) n3)
    have HI3 := Lib.hid hI3
    clear hI3
    go_wp2_with fail
    go_ret
    exact ⟨rfl, HI3.out.box, HI3.out.ref, HI3.out.touch⟩
  · obtain ⟨j, hj⟩ := Int.eq_ofNat_of_zero_le (show 0 ≤ x.n by omega)
    have hjL : j ≤ L.length := by omega
    have HF := Lib.hid (show firstTo m x.n m.length = L.take j by rw [firstTo_cases, HL.out, hj]; rfl)
    have hjl : (L.take j).length = j := by rw [List.length_take]; omega
    have hj4 : (j : Int) ≤ (cap : Int) := by omega
    rw [hj] at p1 HMB g1 g2
    have Hj := Lib.hid hj
    clear hj
    go_wp2_with fail
    refine HMB.out.mono ?_
    rintro e w2 ⟨v2, rfl, hown2, hb2⟩
    rw [← Hj.out, HF.out] at hown2
    have hI2 := HI1.out.below hb2
    have hR2 : ReadsNums w1 (.slice ad j cap) (L.take j) := by
      refine ⟨ad, cap, by rw [hjl], by rw [hjl]; omega, by unfold maxLen; omega, ?_⟩
      rcases HRR.out with h | ⟨bb, h1, h2, h3⟩
      · left; rw [h]; simp
      · right
        refine ⟨bb, h1, h2, fun k hk => ?_⟩
        rw [List.getElem_take]
        exact h3 k (by rw [hjl] at hk; omega)
    have hin := ints_any v2 (.slice ad j cap) (L.take j) w2 (readsNums_own hown2) (readsNums_below hR2 hb2) (by rw [hjl]; omega)
    have HIN := Lib.hid hin
    have HI2 := Lib.hid hI2
    rw [hjl] at hown2
    obtain ⟨va, vc, rfl⟩ := row_shape hown2
    clear hin hI2 hown2 hb2 p1 hR2
    go_wp2_with fail
    refine HIN.out.mono ?_
    rintro e w3 ⟨rfl, n3, rfl⟩
    have hI3 := HI2.out.below (below_drewN (Below.refl _ _) n3)
    have HI3 := Lib.hid hI3
    clear hI3
    go_wp2_with fail
    go_ret
    exact ⟨rfl, HI3.out.box, HI3.out.ref, HI3.out.touch⟩
  · have HF := Lib.hid (show firstTo m x.n m.length = L by rw [firstTo_cases, HL.out, List.take_of_length_le (by omega)])
    go_wp2_with fail
    refine HMB.out.mono ?_
    rintro e w2 ⟨v2, rfl, hown2, hb2⟩
    rw [HF.out] at hown2
    have hI2 := HI1.out.below hb2
    have hR2 : ReadsNums w1 (.slice ad L.length cap) L := ⟨ad, cap, rfl, hc1, by unfold maxLen; omega, HRR.out⟩
    have hin := ints_any v2 (.slice ad L.length cap) L w2 (readsNums_own hown2) (readsNums_below hR2 hb2) (by omega)
    have HIN := Lib.hid hin
    have HI2 := Lib.hid hI2
    obtain ⟨va, vc, rfl⟩ := row_shape hown2
    clear hin hI2 hown2 hb2 p1 hR2
    go_wp2_with fail
    refine HIN.out.mono ?_
    rintro e w3 ⟨rfl, n3, rfl⟩
    have hI3 := HI2.out.below (below_drewN (Below.refl _ _) n3)
    have HI3 := Lib.hid hI3
    clear hI3
    go_wp2_with fail
    go_ret
    exact ⟨rfl, HI3.out.box, HI3.out.ref, HI3.out.touch⟩
end Go.Proofs.Ytdhkdmnhkldebaa
