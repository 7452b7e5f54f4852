/- One step of a play: the text is asked. Conditions: sizes. -/
import Derived.Test.YtdhkdmnhkldebaaStep2
namespace Go.Proofs.Ytdhkdmnhkldebaa
open Go.RowKit
set_option linter.unusedVariables false

theorem lackTo_left (m : List (Option ByteArray)) : ∀ k, k ≤ m.length → (lackTo m k).length = left (m.take k)
  | 0, _ => by simp [lackTo, left]
  | k + 1, h => by
    have hk : k < m.length := by omega
    have ih := lackTo_left m k (by omega)
    have e : left (m.take (k + 1)) = left (m.take k) + if m[k].isNone then 1 else 0 := by
      unfold left
      rw [List.take_succ_eq_append_getElem hk, List.countP_append]
      simp [List.countP_cons]
    have e2 : m.getD k none = m[k] := by simp [List.getD, List.getElem?_eq_getElem hk]
    rw [e, lackTo, e2]
    split
    · rw [List.length_append, ih]; rfl
    · rw [ih]; rfl
theorem lack_left (m : List (Option ByteArray)) : (lackTo m m.length).length = left m := by
  rw [lackTo_left m m.length (Nat.le_refl _), List.take_length]
theorem allTo_flat (m : List (Option ByteArray)) : ∀ k, k ≤ m.length → (allTo m k).data.toList = flat (texts (m.take k))
  | 0, _ => by simp [allTo, flat, texts]
  | k + 1, h => by
    have hk : k < m.length := by omega
    have ih := allTo_flat m k (by omega)
    have e : texts (m.take (k + 1)) = texts (m.take k) ++ [m[k].getD ByteArray.empty] := by
      unfold texts
      rw [List.take_succ_eq_append_getElem hk, List.map_append]
      rfl
    rw [e, flat_snoc, allTo_succ hk, ← ih]
    simp
theorem all_flat (m : List (Option ByteArray)) : (⟨(flat (texts m)).toArray⟩ : ByteArray) = allTo m m.length := by
  apply toL_inj
  have := allTo_flat m m.length (Nat.le_refl _)
  rw [List.take_length] at this
  unfold toL
  rw [this]

set_option maxRecDepth 100000 in
set_option maxHeartbeats 800000 in
theorem step_text (b gp gh q gl : Nat) (x : OpR) (m : List (Option ByteArray)) (w : World) (hx : x.kind = 2) (h1 : BoxAt w b gp gh m) (h2 : RefAt w q gl m) (hm : m.length ≤ 60) (h0 : 1 ≤ m.length) (hs : size m ≤ 524288) :
    Calls Try.prog 21 #[.pointer (some ⟨b, 0, none⟩), .pointer (some ⟨q, 0, none⟩), .agg #[.int .i64 x.kind, .int .i64 x.n, .int .i64 x.at_, .int .i64 x.of_, .string x.text]] w fun e w' => e = .returned (.bool true) ∧ BoxAt w' b gp gh m ∧ RefAt w' q gl m ∧ Touch (InTwo b gp gh gl) w w' := by
  have hI0 : Inv w b gp gh q gl w.heap.size x m m (w.alloc (.cells (opCells x).toArray 52)) :=
    ⟨boxAt_same h1 ((Below.refl _ _).alloc (Nat.le_refl _) _), h2.below ((Below.refl _ _).alloc (Nat.le_refl _) _), Blk.new w _ _, (Touch.refl _ w).alloc _⟩
  have hob : (opCells x).toArray = #[.int .i64 2, .int .i64 x.n, .int .i64 x.at_, .int .i64 x.of_, .string x.text] := by unfold opCells; rw [hx]
  rw [hob] at hI0
  have HLM := Lib.hid (fun (w' : World) (h : Inv w b gp gh q gl w.heap.size x m m w') => refMissing_any q gl m w' h.ref (by omega))
  have hll := lack_left m
  rw [hx]
  rcases Nat.eq_zero_or_pos (left m) with hl | hl
  · have HT := Lib.hid (text_all b gp gh m _ hI0.box hl (by omega) h0 hs)
    have HA := Lib.hid (fun (w' : World) (h : Inv w b gp gh q gl w.heap.size x m m w') => refAll_any q gl m w' h.ref (by omega) hs)
    rw [all_flat] at HT
    have HI0 := Lib.hid hI0
    rw [hl] at hll
    have HLL := Lib.hid hll
    clear h1 h2 hx hob hI0 hll
    generalize allTo m m.length = t at *
    go_enter Try.func21, Try.ntmps21
    go_wp2_with fail
    refine HT.out.mono ?_
    rintro e w1 ⟨rfl, hb1⟩
    have hI1 := Lib.hid (HI0.out.below hb1)
    clear hb1 HI0 HT
    go_wp2_with fail
    refine (HLM.out _ hI1.out).mono ?_
    rintro e w2 ⟨v, rfl, hown, hb2⟩
    rw [HLL.out] at hown
    have hI2 := Lib.hid (hI1.out.below hb2)
    obtain ⟨va, vc, rfl⟩ := row_shape hown
    clear hb2 hown
    go_wp2_with fail
    refine (HA.out _ hI2.out).mono ?_
    rintro e w3 ⟨rfl, rfl⟩
    go_wp2_with fail
    go_ret
    exact ⟨by first | rfl | (exact ret_bool (by simp)), hI2.out.box, hI2.out.ref, hI2.out.touch⟩
  · have HT := Lib.hid (text_short b gp gh m _ hI0.box hl)
    have HI0 := Lib.hid hI0
    have HLL := Lib.hid hll
    clear h1 h2 hx hob hI0 hll
    go_enter Try.func21, Try.ntmps21
    go_wp2_with fail
    refine HT.out.mono ?_
    rintro e w1 ⟨rfl, rfl⟩
    clear HT
    go_wp2_with fail
    refine (HLM.out _ HI0.out).mono ?_
    rintro e w2 ⟨v, rfl, hown, hb2⟩
    rw [HLL.out] at hown
    have hI2 := Lib.hid (HI0.out.below hb2)
    obtain ⟨va, vc, rfl⟩ := row_shape hown
    clear hb2 hown
    go_wp2_with fail
    go_ret
    exact ⟨by first | rfl | (exact ret_bool (by simp)), hI2.out.box, hI2.out.ref, hI2.out.touch⟩
end Go.Proofs.Ytdhkdmnhkldebaa
