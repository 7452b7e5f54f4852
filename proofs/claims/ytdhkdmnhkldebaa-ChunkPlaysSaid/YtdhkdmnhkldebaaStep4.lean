/- One step of a play: both boxes cleared. Conditions: sizes. -/
import Derived.Test.YtdhkdmnhkldebaaStep3
namespace Go.Proofs.Ytdhkdmnhkldebaa
open Go.RowKit
set_option linter.unusedVariables false

/-- the first k places empty, the others as in m -/
def rubbed (m : List (Option ByteArray)) (k : Nat) : List (Option ByteArray) := List.replicate k none ++ m.drop k
theorem rubbed_length {m : List (Option ByteArray)} {k : Nat} (h : k ≤ m.length) : (rubbed m k).length = m.length := by
  unfold rubbed
  rw [List.length_append, List.length_replicate, List.length_drop]; omega
theorem rubbed_set {m : List (Option ByteArray)} {k : Nat} (h : k < m.length) : (rubbed m k).set k none = rubbed m (k + 1) := by
  unfold rubbed
  rw [List.drop_eq_getElem_cons h, List.set_append_right _ _ (by simp), List.length_replicate, Nat.sub_self, List.set_cons_zero, List.replicate_succ', List.append_assoc]
  rfl
theorem rubbed_all (m : List (Option ByteArray)) : rubbed m m.length = noParts m := by
  unfold rubbed noParts
  rw [List.drop_length, List.append_nil]

set_option maxRecDepth 100000 in
set_option maxHeartbeats 800000 in
theorem step_clear (b gp gh q gl : Nat) (x : OpR) (m : List (Option ByteArray)) (w : World) (hx0 : x.kind ≠ 0) (hx1 : x.kind ≠ 1) (hx2 : x.kind ≠ 2) (h1 : BoxAt w b gp gh m) (h2 : RefAt w q gl m) (hm : m.length ≤ 60) (h0 : 1 ≤ m.length) :
    Calls Try.prog 21 #[.pointer (some ⟨b, 0, none⟩), .pointer (some ⟨q, 0, none⟩), .agg #[.int .i64 x.kind, .int .i64 x.n, .int .i64 x.at_, .int .i64 x.of_, .string x.text]] w fun e w' => e = .returned (.bool true) ∧ BoxAt w' b gp gh (noParts m) ∧ RefAt w' q gl (noParts m) ∧ Touch (InTwo b gp gh gl) w w' := by
  have hI0 : Inv w b gp gh q gl w.heap.size x m m (w.alloc (.cells (opCells x).toArray 52)) :=
    ⟨boxAt_same h1 ((Below.refl _ _).alloc (Nat.le_refl _) _), h2.below ((Below.refl _ _).alloc (Nat.le_refl _) _), Blk.new w _ _, (Touch.refl _ w).alloc _⟩
  have hob : (opCells x).toArray = #[.int .i64 x.kind, .int .i64 x.n, .int .i64 x.at_, .int .i64 x.of_, .string x.text] := rfl
  rw [hob] at hI0
  have HC := Lib.hid (clear_any b gp gh m _ hI0.box (by omega))
  have HI0 := Lib.hid hI0
  have e0 : (x.kind == (0 : Int)) = false := by rw [beq_eq_false_iff_ne]; exact hx0
  have e1 : (x.kind == (1 : Int)) = false := by rw [beq_eq_false_iff_ne]; exact hx1
  have e2 : (x.kind == (2 : Int)) = false := by rw [beq_eq_false_iff_ne]; exact hx2
  clear h1 h2 hx0 hx1 hx2 hob hI0
  go_enter Try.func21, Try.ntmps21
  go_wp2_with fail
  refine HC.out.mono ?_
  rintro e w1 ⟨rfl, hb1, ht1⟩
  have hI1 : Inv w b gp gh q gl w.heap.size x (noParts m) (rubbed m 0) w1 := HI0.out.boxStep hb1 ht1
  have HI1 := Lib.hid hI1
  clear hb1 ht1 HI0 HC hI1
  go_wp2_with fail
  go_loopw [10] (fun i wr => ∃ k : Nat, k ≤ m.length ∧ i = .int .i64 k ∧ Hid (Inv w b gp gh q gl w.heap.size x (noParts m) (rubbed m k) wr)) (fun i _ => m.length - (intOf i).toNat)
  case atStart => exact ⟨0, Nat.zero_le _, rfl, HI1⟩
  case round =>
    obtain ⟨k, hk, rfl, HK⟩ := hrel
    have hkl := rubbed_length hk
    have cq : wr.cell? ⟨q, 0, none⟩ = some (.slice (some ⟨gl, 0, none⟩) m.length m.length) := by
      have := HK.out.ref.1.cell 0
      rw [hkl] at this
      exact this
    by_cases hlt : k < m.length
    · obtain ⟨d1, d2⟩ := HK.out.ref.cells k (by omega)
      have f1 := HK.out.ref.2.free (k * 2)
      have f2 := HK.out.ref.2.free (k * 2 + 1)
      have hset := rubbed_set hlt
      have hnew : Inv w b gp gh q gl w.heap.size x (noParts m) (rubbed m (k + 1)) ((wr.setCell ⟨gl, k * 2, none⟩ (.bool false)).setCell ⟨gl, k * 2 + 1, none⟩ (.string ByteArray.empty)) := by
        have hne := HK.out.ref.1.ne HK.out.ref.2 (by decide)
        refine HK.out.refStep ⟨?_, ?_⟩ (((Touch.refl (fun j => j = gl) wr).set (p := ⟨gl, k * 2, none⟩) (Or.inl rfl) _).set (p := ⟨gl, k * 2 + 1, none⟩) (Or.inl rfl) _)
        · have := (HK.out.ref.1.set_other (a := ⟨gl, k * 2, none⟩) hne (.bool false)).set_other (a := ⟨gl, k * 2 + 1, none⟩) hne (.string ByteArray.empty)
          rw [hkl] at this
          rw [rubbed_length (show k + 1 ≤ m.length by omega)]
          exact this
        · have := (HK.out.ref.2.set (k * 2) (pHas none)).set (k * 2 + 1) (pStr none)
          rw [flat_set _ _ _ (by omega), hset] at this
          exact this
      have HNEW := Lib.hid hnew
      generalize (rubbed m k)[k]'(by omega) = o at d1 d2
      clear hnew hset HK HI1 hkl
      go_wp2_with fail
      go_roundw
      case rel => exact ⟨k + 1, hlt, by go_num, HNEW⟩
      case measure => simp [intOf]; omega
    · obtain rfl : k = m.length := by omega
      rw [rubbed_all] at HK
      clear hkl
      go_wp2_with fail
      go_ret
      exact ⟨rfl, HK.out.box, HK.out.ref, HK.out.touch⟩
end Go.Proofs.Ytdhkdmnhkldebaa
