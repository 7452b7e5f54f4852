/- The walk of FrameLost: bytes ahead of a frame, none of which is the first byte of one, are lost, and the frame is found. No condition. -/
import Derived.Test.YthfaokiiciebdaaFound
namespace Go.Proofs.Ythfaokiiciebdaa
open Go.RowKit

set_option maxHeartbeats 1000000 in
theorem frameLost_walk (q p : ByteArray) (w : World) (hq : q.size ≤ maxLen) (hp : p.size ≤ maxLen) :
    Calls Try.prog 10 #[.string q, .string p] w fun e w' => e = .returned (.bool true) ∧ Below w.heap.size w w' := by
  unfold maxLen at hq hp
  by_cases h1 : q.size ≤ 500
  · by_cases h2 : p.size ≤ 500
    · go_enter Try.func10, Try.ntmps10
      go_wp2
      go_loop [5] (fun i => ∃ k : Nat, k ≤ q.size ∧ i = .int .i64 k ∧ Hid (∀ c ∈ (toL q).take k, c ≠ 181)) (fun i => q.size - (intOf i).toNat)
      case atStart => exact ⟨0, by omega, rfl, (by intro c hc; simp at hc)⟩
      case round =>
        obtain ⟨k, hk, rfl, hno⟩ := hrel
        by_cases hlt : k < q.size
        · by_cases hb : q[k] = 181
          · have hb2 : ((q[k].toNat : Int) == 181) = true := by rw [hb]; rfl
            clear hb
            go_wp2_with (go_at_call 14; refine (awake_any _).mono ?_; rintro e w' ⟨rfl, rfl⟩)
            go_ret
            exact ⟨rfl, Below.refl _ _⟩
          · have hb2 : ((q[k].toNat : Int) == 181) = false := by
              simp only [beq_eq_false_iff_ne, ne_eq]
              intro h
              exact hb (UInt8.toNat_inj.1 (by have h3 : (181 : UInt8).toNat = 181 := rfl; omega))
            have Hb := Lib.hid hb
            have hsn := Lib.hid (show (toL q).take (k + 1) = (toL q).take k ++ [q[k]] from take_snoc q k hlt)
            clear hb
            go_wp2
            go_round
            case rel =>
              refine ⟨k + 1, by omega, by go_num, ?_⟩
              intro c hc
              rw [hsn.out, List.mem_append] at hc
              rcases hc with hc | hc
              · exact hno.out c hc
              · simp at hc; subst hc; exact Hb.out
            case measure => simp [intOf]; omega
        · have hall := Lib.hid (show ∀ c ∈ toL q, c ≠ 181 by
            have := hno.out
            rw [List.take_of_length_le (by rw [toL_length]; omega)] at this
            exact this)
          have hsc := Lib.hid (scan_lost q p (by omega) hall.out)
          have hfs := frm_size p
          have hfs2 : (frm p).size ≤ 510 := by omega
          have hqf := Lib.hid (show (q ++ frm p).size = q.size + (frm p).size from ByteArray.size_append)
          clear hfs
          go_wp2_with fail
          refine (frame_any p _ (by omega)).mono ?_
          rintro e w1 ⟨rfl, hb1⟩
          go_wp2_with fail
          refine (scan_any _ _ (by rw [hqf.out]; omega)).mono ?_
          rintro e w2 ⟨v, l, a, k2, rfl, hsc2, hown, hb2, hl⟩
          rw [hsc.out] at hsc2
          simp only [Prod.mk.injEq] at hsc2
          obtain ⟨rfl, rfl, rfl⟩ := hsc2
          obtain ⟨ad, cap, rfl, hat⟩ := readsStrs_own hown
          obtain ⟨b, off, rfl, hbs, hc⟩ := hat.resolve_left (by simp)
          have hc0 : w2.cell? ⟨b, off, none⟩ = some (.string p) := hc 0 (by simp)
          have hz : (((q ++ frm p).size : Nat) : Int) = (q.size : Int) + ((frm p).size : Int) := by rw [hqf.out]; omega
          have Hz := Lib.hid hz
          clear hz hc hown hl
          rw [Hz.out]
          go_wp2_with fail
          refine (awake_any _).mono ?_
          rintro e w' ⟨rfl, rfl⟩
          go_wp2_with fail
          go_ret
          exact ⟨rfl, below_step hb1 hb2⟩
    · go_enter Try.func10, Try.ntmps10
      go_wp2_with (go_at_call 14; refine (awake_any _).mono ?_; rintro e w' ⟨rfl, rfl⟩)
      go_ret
      exact ⟨rfl, Below.refl _ _⟩
  · go_enter Try.func10, Try.ntmps10
    go_wp2_with (go_at_call 14; refine (awake_any _).mono ?_; rintro e w' ⟨rfl, rfl⟩)
    go_ret
    exact ⟨rfl, Below.refl _ _⟩
end Go.Proofs.Ythfaokiiciebdaa
