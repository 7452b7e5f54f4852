/- slices.BinarySearch at []int, weakly: some place of the row or its end, whatever the row's order. Condition: the sizes. -/
import Derived.Test.YtogobhpnlndcaaaGreatSortNil
namespace Go.Proofs.YtogobhpnlndcaaaGreat
open Go Go.RowKit
set_option linter.unusedVariables false

/-- a row of numbers -/
def NumRow (w : World) (g n : Nat) (f : Nat → Nat) : Prop := ∀ j, j < n → w.cell? ⟨g, j, none⟩ = some (.int .i64 (f j : Int))
def BinSays (n : Nat) (w : World) (e : Ending) (w' : World) : Prop := ∃ (i : Nat) (b : Bool), e = .returned (.tuple #[.int .i64 (i : Int), .bool b]) ∧ i ≤ n ∧ w' = w
theorem isNaN_any (x : Nat) (w : World) : Calls Tryz.prog 105 #[.int .i64 (x : Int)] w fun e w' => e = .returned (.bool false) ∧ w' = w := by
  have h : ((x : Int) != (x : Int)) = false := by simp
  go_enter Tryz.func105, Tryz.ntmps105
  go_wp2
  go_ret
  exact ⟨by simp, rfl⟩
theorem isNaN2_any (x : Nat) (w : World) : Calls Tryz.prog 109 #[.int .i64 (x : Int)] w fun e w' => e = .returned (.bool false) ∧ w' = w := by
  have h : ((x : Int) != (x : Int)) = false := by simp
  go_enter Tryz.func109, Tryz.ntmps109
  go_wp2
  go_ret
  exact ⟨by simp, rfl⟩
set_option maxRecDepth 100000 in
theorem less_any (x y : Nat) (w : World) : Calls Tryz.prog 91 #[.int .i64 (x : Int), .int .i64 (y : Int)] w fun e w' => e = .returned (.bool (decide (x < y))) ∧ w' = w := by
  have H1 := Lib.hid (isNaN_any x w)
  go_enter Tryz.func91, Tryz.ntmps91
  go_wp2_with fail
  refine H1.out.mono ?_
  rintro e w1 ⟨rfl, rfl⟩
  go_wp2_with fail
  go_ret
  exact ⟨by simp, rfl⟩
set_option maxRecDepth 100000 in
set_option maxHeartbeats 4000000 in
theorem bin_any (g n cp x : Nat) (p : Option Addr) (f : Nat → Nat) (w : World) (h : NumRow w g n f) (hn : n ≤ 1048576) (hp : 0 < n → p = some ⟨g, 0, none⟩) :
    Calls Tryz.prog 99 #[.slice p n cp, .int .i64 (x : Int)] w (BinSays n w) := by
  have H := Lib.hid h
  have HL := Lib.hid (fun y w' => less_any y x w')
  have HP := Lib.hid hp
  clear h hp
  go_enter Tryz.func99, Tryz.ntmps99
  go_upto_region 3 with fail
  go_loopw [7, 8] (fun iv_ jv wr => ∃ i j : Nat, iv_ = .int .i64 (i : Int) ∧ jv = .int .i64 (j : Int) ∧ i ≤ j ∧ j ≤ n ∧ wr = w) (fun iv_ jv _ => (intOf jv).toNat - (intOf iv_).toNat)
  case atStart => exact ⟨0, n, rfl, rfl, Nat.zero_le _, Nat.le_refl _, rfl⟩
  case round =>
    obtain ⟨i, j, rfl, rfl, hij, hj, rfl⟩ := hrel
    by_cases hlt : i < j
    · obtain ⟨e, he⟩ : ∃ e, e = (i + j) / 2 := ⟨_, rfl⟩
      have he1 := half_lt hlt
      rw [← he] at he1
      obtain ⟨he1, he2⟩ := he1
      have hhalf : ((i : Int) + (j : Int)) / 2 = (e : Int) := by omega
      have hen : e < n := by omega
      clear he
      have e1 := H.out e hen
      have hp1 := HP.out (by omega)
      subst hp1
      generalize f e = y at e1
      go_wp2_with fail
      refine (HL.out y _).mono ?_
      rintro ee w1 ⟨rfl, rfl⟩
      by_cases hyx : y < x
      · rw [decide_eq_true hyx]
        go_wp2_with fail
        go_roundw
        case rel => exact ⟨e + 1, j, by go_num, rfl, by omega, hj, by trivial⟩
        case measure => simp [intOf]; omega
      · rw [decide_eq_false hyx]
        go_wp2_with fail
        go_roundw
        case rel => exact ⟨i, e, rfl, rfl, by omega, by omega, by trivial⟩
        case measure => simp [intOf]; omega
    · have hji : j = i := by omega
      subst hji
      by_cases hjn : j < n
      · have e1 := H.out j hjn
        have hp1 := HP.out (by omega)
        subst hp1
        generalize f j = y at e1
        have HI := Lib.hid (fun w' => isNaN2_any y w')
        by_cases hyx : y = x
        · subst hyx
          go_wp2_with fail
          go_ret2
          exact ⟨j, _, rfl, hj, rfl⟩
        · have hne : ((y : Int) == (x : Int)) = false := by rw [beq_eq_false_iff_ne]; omega
          go_wp2_with fail
          refine (HI.out _).mono ?_
          rintro ee w1 ⟨rfl, rfl⟩
          go_wp2_with fail
          go_ret2
          exact ⟨j, _, rfl, hj, rfl⟩
      · go_wp2_with fail
        go_ret2
        exact ⟨j, _, rfl, hj, rfl⟩
end Go.Proofs.YtogobhpnlndcaaaGreat
