/- The walk of DiskFuse. No condition. -/
import Derived.Test.YtlmodbaeoheiiaaDiskFull
namespace Go.Proofs.Ytlmodbaeoheiiaa
open Go.RowKit
set_option linter.unusedVariables false

theorem cutsP_whole (id : Int) : ∀ (n m a : Nat) (t : ByteArray), t.size = 64 * n → t.size ≤ m → a % 64 = 0 → (cutsP id m a t).length = n := by
  intro n
  induction n with
  | zero => intro m a t h _ _; rw [cutsP_nil (by omega)]; rfl
  | succ n ih =>
    intro m a t h hm ha
    have hr : room a t = 64 := by unfold room; omega
    rw [cutsP_cons hm (by omega), List.length_cons, hr]
    rw [ih (m - 1) (a + 64) (t.extract 64 t.size) (by rw [ByteArray.size_extract]; omega) (by rw [ByteArray.size_extract]; omega) (by omega)]
theorem upA {n : Int} {wt : List DPiece} {last seen : List UInt8} {fu : Int} {o : Bool} {c : Int} : (devA n wt last seen fu o c).off = o := rfl
theorem armA_ok {n : Int} {fu k : Int} {wt : List DPiece} {last seen : List UInt8} {c : Int} (hk : 0 ≤ k) : (devA n wt last seen fu false c).arm k = (0, devA n wt last seen k false c) := by
  unfold PS.arm
  rw [if_neg (by rw [upA]; decide), if_neg (by omega)]
  rfl
theorem armA_no {n : Int} {fu k : Int} {wt : List DPiece} {last seen : List UInt8} {c : Int} (hk : k < 0) : (devA n wt last seen fu false c).arm k = (1, devA n wt last seen fu false c) := by
  unfold PS.arm
  rw [if_neg (by rw [upA]; decide), if_pos hk]
theorem appendA {n : Int} {fu : Int} {wt : List DPiece} {last seen : List UInt8} {c : Int} {t : ByteArray} : (devA n wt last seen fu false c).append ⟨#[97]⟩ t = (devA n wt last seen fu false c).write ⟨#[97]⟩ ((seen.length : Nat) : Int) t := by
  unfold PS.append
  rw [sizeA]
  rfl
theorem sizeA_off {n : Int} {fu : Int} {wt : List DPiece} {last seen : List UInt8} {c : Int} {s : ByteArray} : (devA n wt last seen fu true c).size s = (0, 14) := size_off _ rfl
theorem live_base {B : Nat} {w0 w : World} {b n : Nat} {P : PS} (h : Live B w0 b n P w) : B ≤ w.heap.size := by
  obtain ⟨S, _, _, _, _, h5, _⟩ := h
  exact h5

set_option maxRecDepth 100000 in
set_option maxHeartbeats 1000000 in
theorem diskFuse_walk (n : Int) (w : World) (hn : (Lit.int .i64 n).wf = true) :
    Calls Try.prog 5 #[.int .i64 n] w fun e w' => e = .returned (.bool true) ∧ Below w.heap.size w w' := by
  obtain ⟨hn1, hn2⟩ := int_bounds hn
  have hcr := fun (w1 : World) (b : Nat) (h : Live w.heap.size w b 0 (newP 200) w1) => create_live h (by decide) ⟨#[97]⟩
  rw [createA] at hcr
  have HCR := Lib.hid hcr
  have hnew := Lib.hid (new_live 200 w (by decide))
  have harm := fun (w1 : World) (b : Nat) (h : Live w.heap.size w b 1 (devA 200 [] [] [] (-1) false 0) w1) => arm_live h n hn2
  by_cases hg : n < 0 ∨ 100 < n
  · have hres : (n < 0 ∧ (devA 200 [] [] [] (-1) false 0).arm n = (1, devA 200 [] [] [] (-1) false 0)) ∨ (¬ n < 0 ∧ (devA 200 [] [] [] (-1) false 0).arm n = (0, devA 200 [] [] [] n false 0)) := by
      by_cases h : n < 0
      · exact Or.inl ⟨h, armA_no h⟩
      · exact Or.inr ⟨h, armA_ok (by omega)⟩
    have hd : (decide (n < 0) || decide (100 < n)) = true := by simp only [Bool.or_eq_true, decide_eq_true_eq]; exact hg
    rcases hres with ⟨h1, h2⟩ | ⟨h1, h2⟩
    all_goals
      rw [h2] at harm
      have HARM := Lib.hid harm
      clear harm hcr h2 hn hg
      go_enter Try.func5, Try.ntmps5
      go_wp2_with fail
      refine hnew.out.mono ?_
      rintro e w1 ⟨b, rfl, L1⟩
      go_wp2_with fail
      refine (HCR.out _ _ L1).mono ?_
      rintro e w2 ⟨rfl, L2⟩
      go_wp2_with fail
      refine (HARM.out _ _ L2).mono ?_
      rintro e w3 ⟨rfl, L3⟩
      go_wp2_with fail
      refine (awake_any _).mono ?_
      rintro e w5 ⟨rfl, hb5⟩
      go_wp2_with fail
      go_ret
      refine ⟨?_, L3.bel.trans (hb5.mono (live_base L3))⟩
      first | rfl | (show Ending.returned (Value.bool (!decide (n < 0))) = _; rw [decide_eq_false (by omega)]; rfl)
  · obtain ⟨n, rfl⟩ := Int.eq_ofNat_of_zero_le (show 0 ≤ n by omega)
    have hn3 : n ≤ 100 := by omega
    rw [armA_ok (by omega)] at harm
    have HARM := Lib.hid harm
    obtain ⟨N, hN⟩ : ∃ N, N = 64 * n := ⟨_, rfl⟩
    have hNi : (64 : Int) * (n : Int) = (N : Int) := by omega
    have hzs := zeros_size N
    have hmk := fun W => run_make_one (P := Try.prog) 32 5 (.int .u8 0) 1 Try.underlying32 info_byte rfl N (by omega) (by omega) W
    have hcv := fun W => conv_zeros (P := Try.prog) W 32 5 9 Try.underlying32 Try.underlying5 Try.underlying9 N
    have hcl : (cutsP 0 (zeros N).size 0 (zeros N)).length = n := cutsP_whole 0 n _ 0 (zeros N) (by rw [hzs, hN]) (Nat.le_refl _) rfl
    -- the state behind the write
    obtain ⟨P3, h3a, h3b, h3c, h3d⟩ : ∃ P3 : PS, (devA 200 [] [] [] (n : Int) false 0).write ⟨#[97]⟩ 0 (zeros N) = (0, P3) ∧ P3.off = false ∧ P3.append ⟨#[97]⟩ ⟨#[120]⟩ = (14, { P3 with off := true }) ∧ P3.count = (n : Int) ∧ P3.wait.length = n := by
      by_cases h0 : n = 0
      · have hz0 : (zeros N).size = 0 := by rw [hzs, hN, h0]
        refine ⟨_, writeA_none (a := 0) (by rw [hz0]; decide) hz0, rfl, ?_, by rw [h0]; rfl, by rw [h0]; rfl⟩
        rw [appendA, h0]
        exact writeA_off (a := 0) (t := ⟨#[120]⟩) (by decide) (by decide) (by decide)
      · have hpos : 0 < (zeros N).size := by rw [hzs, hN]; omega
        refine ⟨_, writeA_ok (a := 0) (by rw [hzs]; omega) hpos (by rw [hzs]; unfold secs; omega) (Or.inr (by rw [hcl]; exact Int.le_refl _)), rfl, ?_, ?_, ?_⟩
        · rw [appendA, hcl, if_pos (by omega), show (n : Int) - (n : Int) = 0 by omega]
          have hll : (layB [] 0 (zeros N).data.toList).length = N := by rw [layB_nil, extract_len, hzs]; omega
          rw [hll]
          exact writeA_off (a := N) (t := ⟨#[120]⟩) (by show (N : Int) ≤ 2097152 - 1; omega) (by decide) (by show ((secs (N + 1) : Nat) : Int) ≤ 200; unfold secs; omega)
        · show (0 : Int) + _ = _
          rw [hcl]; omega
        · show ([] ++ cutsP 0 (zeros N).size 0 (zeros N)).length = n
          rw [List.nil_append, hcl]
    have hw := fun (w1 : World) (b : Nat) (h : Live w.heap.size w b 1 (devA 200 [] [] [] (n : Int) false 0) w1) => write_live h (by decide) ⟨#[97]⟩ 0 (zeros N) (by decide) (by rw [hzs]; unfold maxLen; omega)
    rw [h3a] at hw
    have HW := Lib.hid hw
    have hup := fun (w1 : World) (b m : Nat) (P : PS) (h : Live w.heap.size w b m P w1) => up_live h
    have HUP3 := Lib.hid (show ∀ (w1 : World) (b m : Nat) (h : Live w.heap.size w b m P3 w1), Calls Try.prog 21 #[.pointer (some ⟨b, 0, none⟩)] w1 fun e w' => e = .returned (.bool true) ∧ w1 = w' from fun w1 b m h => by
      have := up_live h
      rw [h3b] at this
      exact this)
    have HAP := Lib.hid (show ∀ (w1 : World) (b : Nat) (h : Live w.heap.size w b (1 + (zeros N).size) P3 w1), Calls Try.prog 22 #[.pointer (some ⟨b, 0, none⟩), .string ⟨#[97]⟩, .string ⟨#[120]⟩] w1 fun e w' => e = .returned (.int .i64 14) ∧ Live w.heap.size w b (1 + (zeros N).size + 1) { P3 with off := true } w' from fun w1 b h => by
      have := append_live h (by rw [hzs]; omega) ⟨#[97]⟩ ⟨#[120]⟩ (by unfold maxLen; decide)
      rw [h3c] at this
      exact this)
    have HSZ := Lib.hid (show ∀ (w1 : World) (b : Nat) (h : Live w.heap.size w b (1 + (zeros N).size + 1) { P3 with off := true } w1), Calls Try.prog 17 #[.pointer (some ⟨b, 0, none⟩), .string ⟨#[97]⟩] w1 fun e w' => e = .returned (.tuple #[.int .i64 0, .int .i64 14]) ∧ w1 = w' from fun w1 b h => by
      have := size_live h (by rw [hzs]; omega) ⟨#[97]⟩
      rw [size_off (P := { P3 with off := true }) _ rfl] at this
      exact this)
    have HUP4 := Lib.hid (show ∀ (w1 : World) (b m : Nat) (h : Live w.heap.size w b m { P3 with off := true } w1), Calls Try.prog 21 #[.pointer (some ⟨b, 0, none⟩)] w1 fun e w' => e = .returned (.bool false) ∧ w1 = w' from fun w1 b m h => up_live h)
    have HWR := Lib.hid (show ∀ (w1 : World) (b m : Nat) (h : Live w.heap.size w b m { P3 with off := true } w1), Calls Try.prog 23 #[.pointer (some ⟨b, 0, none⟩)] w1 fun e w' => e = .returned (.int .i64 (n : Int)) ∧ w1 = w' from fun w1 b m h => by
      have := writes_live h
      rw [show ({ P3 with off := true } : PS).count = (n : Int) from h3d.1] at this
      exact this)
    have HWT := Lib.hid (show ∀ (w1 : World) (b m : Nat) (h : Live w.heap.size w b m { P3 with off := true } w1), Calls Try.prog 19 #[.pointer (some ⟨b, 0, none⟩)] w1 fun e w' => e = .returned (.int .i64 (n : Int)) ∧ w1 = w' from fun w1 b m h => by
      have := waiting_live h
      rw [show ({ P3 with off := true } : PS).wait.length = n from h3d.2] at this
      exact this)
    have HN := Lib.hid hN
    have hNb : N ≤ 6400 := by omega
    clear hw hcr hup harm hcl h3a h3b h3c h3d hn hg hzs hN
    go_enter Try.func5, Try.ntmps5
    go_wp2_with fail
    refine hnew.out.mono ?_
    rintro e w1 ⟨b, rfl, L1⟩
    go_wp2_with fail
    refine (HCR.out _ _ L1).mono ?_
    rintro e w2 ⟨rfl, L2⟩
    go_wp2_with fail
    refine (HARM.out _ _ L2).mono ?_
    rintro e w3 ⟨rfl, L3⟩
    have L3b := L3.below ((Below.refl w3.heap.size w3).alloc (Nat.le_refl _) (.cells (Array.replicate N (Value.int .u8 0)) 5))
    go_wp2_with fail
    refine (HW.out _ _ L3b).mono ?_
    rintro e w4 ⟨rfl, L4⟩
    clear hmk hcv
    go_wp2_with fail
    refine (HUP3.out _ _ _ L4).mono ?_
    rintro e w' ⟨rfl, rfl⟩
    go_wp2_with fail
    refine (HAP.out _ _ L4).mono ?_
    rintro e w5 ⟨rfl, L5⟩
    go_wp2_with fail
    refine (HSZ.out _ _ L5).mono ?_
    rintro e w' ⟨rfl, rfl⟩
    go_wp2_with fail
    refine (HUP4.out _ _ _ L5).mono ?_
    rintro e w' ⟨rfl, rfl⟩
    go_wp2_with fail
    refine (HWR.out _ _ _ L5).mono ?_
    rintro e w' ⟨rfl, rfl⟩
    go_wp2_with fail
    refine (HWT.out _ _ _ L5).mono ?_
    rintro e w' ⟨rfl, rfl⟩
    go_wp2_with fail
    refine (awake_any _).mono ?_
    rintro e w6 ⟨rfl, hb6⟩
    go_wp2_with fail
    go_ret
    exact ⟨rfl, L5.bel.trans (hb6.mono (live_base L5))⟩
end Go.Proofs.Ytlmodbaeoheiiaa
