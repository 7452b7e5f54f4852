/- The walk of texts: are two lists of texts one? (barquelaw02). Condition: lists of at most 2^40 texts. -/
import Derived.Test.YthfaokiiciebdaaKit
import Derived.Test.YthfaokiiciebdaaRows
namespace Go.Proofs.Ythfaokiiciebdaa
open Go.RowKit

theorem str_eq (a b : ByteArray) : (a.toList == b.toList) = decide (a = b) := by
  rw [ByteArray.toList_eq, ByteArray.toList_eq]
  by_cases h : a = b
  · subst h; simp
  · rw [decide_eq_false h]
    simp only [beq_eq_false_iff_ne, ne_eq]
    intro h2
    apply h
    cases a; cases b
    congr
    simpa using h2
theorem str_ne {a b : ByteArray} (h : a ≠ b) : (a.toList == b.toList) = false := by rw [str_eq, decide_eq_false h]
theorem str_same {a b : ByteArray} (h : a = b) : (a.toList == b.toList) = true := by rw [str_eq, decide_eq_true h]

set_option maxHeartbeats 1000000 in
theorem texts_any (v1 v2 : Value) (l1 l2 : List ByteArray) (w : World) (h1 : ReadsStrs w v1 l1) (h2 : ReadsStrs w v2 l2) (hl1 : l1.length ≤ 1099511627776) (hl2 : l2.length ≤ 1099511627776) :
    Calls Try.prog 25 #[v1, v2] w fun e w' => e = .returned (.bool (decide (l1 = l2))) ∧ Below w.heap.size w w' := by
  obtain ⟨a1, c1, rfl, h1⟩ := h1
  obtain ⟨a2, c2, rfl, h2⟩ := h2
  have H1 := Lib.hid h1
  have H2 := Lib.hid h2
  clear h1 h2
  by_cases hlen : l1.length = l2.length
  · have hne : ((l1.length : Int) != (l2.length : Int)) = false := by rw [hlen]; simp
    have Hlen := Lib.hid hlen
    have hle : l1.length ≤ l2.length := by omega
    clear hlen
    go_enter Try.func25, Try.ntmps25
    go_wp2
    go_loopw [5] (fun i wr => ∃ k : Nat, k ≤ l1.length ∧ i = .int .i64 k ∧ Hid (l1.take k = l2.take k) ∧ (∃ n, wr = w.drewN n)) (fun i _ => l1.length - (intOf i).toNat)
    case atStart => exact ⟨0, by omega, rfl, by simp [Hid], 0, rfl⟩
    case round =>
      obtain ⟨k, hk, rfl, htk, nd, rfl⟩ := hrel
      by_cases hlt : k < l1.length
      · have hlt2 : k < l2.length := by omega
        obtain ⟨b1, o1, rfl, hb1, hc1⟩ := H1.out.resolve_left (by intro h; rw [h] at hlt; simp at hlt)
        obtain ⟨b2, o2, rfl, hb2, hc2⟩ := H2.out.resolve_left (by intro h; rw [h] at hlt2; simp at hlt2)
        have e1 := hc1 k hlt
        have e2 := hc2 k hlt2
        have hi1 : (k : Int) < (l1.length : Int) := by omega
        have hi2 : (k : Int) < (l2.length : Int) := by omega
        have ht1 := Lib.hid (show l1.take (k + 1) = l1.take k ++ [l1[k]] by rw [List.take_succ_eq_append_getElem hlt])
        have ht2 := Lib.hid (show l2.take (k + 1) = l2.take k ++ [l2[k]] by rw [List.take_succ_eq_append_getElem hlt2])
        clear hc1 hc2
        by_cases hs : l1[k] = l2[k]
        · have hd := str_same hs
          have Hs := Lib.hid hs
          clear hs
          go_wp2
          go_quiet (fail)
          go_wp2
          go_roundw
          case rel => exact ⟨k + 1, by omega, by go_num, (by show _ = _; rw [ht1.out, ht2.out, htk.out, Hs.out]), _, rfl⟩
          case measure => simp [intOf]; omega
        · have hd := str_ne hs
          have hno := Lib.hid (show decide (l1 = l2) = false from decide_eq_false (fun h => hs (by subst h; rfl)))
          clear hs
          go_wp2
          go_quiet (fail)
          go_wp2
          go_ret
          exact ⟨by rw [hno.out]; rfl, below_drewN (below_drewN (Below.refl _ _) _) _⟩
      · have hyes := Lib.hid (show decide (l1 = l2) = true from decide_eq_true (by
          have h := htk.out
          rw [List.take_of_length_le (by omega), List.take_of_length_le (by have := Hlen.out; omega)] at h
          exact h))
        go_wp2
        go_ret
        exact ⟨by rw [hyes.out]; rfl, below_drewN (Below.refl _ _) _⟩
  · have hne : ((l1.length : Int) != (l2.length : Int)) = true := by rw [bne_iff_ne]; omega
    have hno := Lib.hid (show decide (l1 = l2) = false from decide_eq_false (fun h => hlen (by rw [h])))
    clear hlen
    go_enter Try.func25, Try.ntmps25
    go_wp2
    go_ret
    exact ⟨by rw [hno.out]; rfl, Below.refl _ _⟩
end Go.Proofs.Ythfaokiiciebdaa
