/- The walk of FrameBack: payloads in frames are found again, nothing being lost, also where the last frame lacks bytes. No condition. -/
import Derived.Test.YthfaokiiciebdaaFound
import Derived.Test.YthfaokiiciebdaaTexts
namespace Go.Proofs.Ythfaokiiciebdaa
open Go.RowKit

theorem all_len (ad : Option Addr) (n cap : Nat) (ss : List ByteArray) (w : World) (hn : ss.length = n) (hn2 : n ≤ 1000) (hz : ∀ s ∈ ss, s.size ≤ 65536) (hat : StrsAt w ad ss) :
    Calls Try.prog 21 #[.slice ad n cap] w fun e w' => e = .returned (.tuple #[.string (frames ss), .int .i64 0]) ∧ Below w.heap.size w w' := by
  subst hn
  refine (all_any ad cap ss w hn2 (fun s hs => by have := hz s hs; unfold maxLen; omega) hat).mono ?_
  rintro e w' ⟨h, hb⟩
  rcases h with ⟨h, _⟩ | ⟨_, s, hs, h2⟩
  · exact ⟨h, hb⟩
  · have := hz s hs; omega

theorem texts_len (a1 a2 : Option Addr) (n c1 c2 : Nat) (l : List ByteArray) (w : World) (hn : l.length = n) (hn2 : n ≤ 1000) (h1 : StrsAt w a1 l) (h2 : StrsAt w a2 l) :
    Calls Try.prog 25 #[.slice a1 n c1, .slice a2 n c2] w fun e w' => e = .returned (.bool true) ∧ Below w.heap.size w w' := by
  subst hn
  refine (texts_any _ _ l l w ⟨a1, c1, rfl, h1⟩ ⟨a2, c2, rfl, h2⟩ (by omega) (by omega)).mono ?_
  rintro e w' ⟨h, hb⟩
  exact ⟨by rw [h, decide_eq_true rfl], hb⟩

theorem strsAt_front {w : World} {ad : Option Addr} {l : List ByteArray} {p : ByteArray} (h : StrsAt w ad (l ++ [p])) : StrsAt w ad l ∧ ∃ b off, ad = some ⟨b, off, none⟩ ∧ b < w.heap.size ∧ w.cell? ⟨b, off + l.length, none⟩ = some (.string p) := by
  obtain ⟨b, off, h1, h2, h3⟩ := h.resolve_left (by simp)
  refine ⟨Or.inr ⟨b, off, h1, h2, fun k hk => ?_⟩, b, off, h1, h2, ?_⟩
  · rw [h3 k (by simp; omega), List.getElem_append_left hk]
  · rw [h3 l.length (by simp)]
    simp

theorem strsAt_take {w : World} {ad : Option Addr} {l : List ByteArray} (k : Nat) (h : StrsAt w ad l) : StrsAt w ad (l.take k) := by
  rcases h with h | ⟨b, off, h1, h2, h3⟩
  · left; rw [h]; simp
  · right
    refine ⟨b, off, h1, h2, fun j hj => ?_⟩
    rw [List.length_take] at hj
    rw [h3 j (by omega), List.getElem_take]

theorem scan_list (s : ByteArray) (l : List ByteArray) (a k : Nat) (w : World) (hs : s.size ≤ 549755813888) (h : scan s = (l, a, k)) :
    Calls Try.prog 23 #[.string s] w fun e w' => ∃ ad cap, e = .returned (.tuple #[.slice ad l.length cap, .int .i64 (a : Nat), .int .i64 (k : Nat)]) ∧ Hid (StrsAt w' ad l) ∧ Below w.heap.size w w' := by
  refine (scan_any s w hs).mono ?_
  rintro e w' ⟨v, l2, a2, k2, he, hsc, hown, hb, _⟩
  rw [h] at hsc
  simp only [Prod.mk.injEq] at hsc
  obtain ⟨rfl, rfl, rfl⟩ := hsc
  obtain ⟨ad, cap, rfl, hat⟩ := readsStrs_own hown
  exact ⟨ad, cap, he, hat, hb⟩

set_option maxRecDepth 100000 in
set_option maxHeartbeats 1000000 in
theorem frameBack_walk (a0 : Option Addr) (len0 cap0 : Nat) (z0 : List ByteArray) (cut : Int) (w : World) (hz0 : IsStrs w a0 len0 cap0 z0) (_hc : (Lit.int .i64 cut).wf = true) :
    Calls Try.prog 11 #[.slice a0 len0 cap0, .int .i64 cut] w fun e w' => e = .returned (.bool true) ∧ Below w.heap.size w w' := by
  obtain ⟨hat0, hlen0, hsz0, hm0, hlc0, hcm0⟩ := isStrs_at hz0
  unfold maxLen at hm0 hcm0
  have Hat0 := Lib.hid hat0
  have Hlen0 := Lib.hid hlen0
  have Hsz0 := Lib.hid hsz0
  clear hz0 hat0 hlen0 hsz0
  go_enter Try.func11, Try.ntmps11
  go_upto_if 16 with (fail)
  go_cut [0] (fun v wx => ∃ (ad : Option Addr) (n cap : Nat) (ss : List ByteArray), v = .slice ad n cap ∧ n ≤ 20 ∧ n ≤ cap ∧ cap ≤ 9223372036854775807 ∧ Hid (ss.length = n) ∧ Hid (StrsAt wx ad ss) ∧ Hid (∀ z ∈ ss, z.size ≤ maxLen) ∧ w = wx)
  case first =>
    by_cases h : len0 ≤ 20
    · go_wp2
      go_meet
      exact ⟨a0, len0, cap0, z0.take len0, rfl, h, hlc0, hcm0, Hlen0.out, Hat0.out, Hsz0.out, rfl⟩
    · obtain ⟨b, off, rfl, hb, hc⟩ := Hat0.out.resolve_left (by intro h0; have h1 := Hlen0.out; rw [h0] at h1; simp at h1; omega)
      go_wp2
      go_meet
      exact ⟨some ⟨b, off, none⟩, 20, cap0, (z0.take len0).take 20, rfl, by omega, by omega, hcm0, (show ((z0.take len0).take 20).length = 20 by rw [List.length_take, Hlen0.out]; omega), strsAt_take 20 Hat0.out, fun z hq => Hsz0.out z (List.mem_of_mem_take hq), rfl⟩
  case rest =>
    obtain ⟨ad, n, cap, ss, rfl, hn, hncap, hcapm, hlen, hat, hsz, rfl⟩ := hcut
    go_wp2
    go_loop [5] (fun i => ∃ k : Nat, k ≤ n ∧ i = .int .i64 k ∧ Hid (∀ z ∈ ss.take k, z.size ≤ 500)) (fun i => n - (intOf i).toNat)
    case atStart => exact ⟨0, by omega, rfl, (by intro z hz; simp at hz)⟩
    case round =>
      obtain ⟨k, hk, rfl, h500⟩ := hrel
      by_cases hlt : k < n
      · obtain ⟨b, off, rfl, hb, hc⟩ := hat.out.resolve_left (by intro h0; have h1 := hlen.out; rw [h0] at h1; simp at h1; omega)
        have hkl : k < ss.length := by rw [hlen.out]; exact hlt
        have hck := hc k hkl
        have hm := hsz.out ss[k] (List.getElem_mem hkl)
        have hsn := Lib.hid (show ss.take (k + 1) = ss.take k ++ [ss[k]] by rw [List.take_succ_eq_append_getElem hkl])
        have Hkl := Lib.hid hkl
        unfold maxLen at hm
        clear hc
        by_cases h5 : ss[k].size ≤ 500
        · go_wp2
          go_round
          case rel =>
            refine ⟨k + 1, by omega, by go_num, ?_⟩
            intro z hq
            rw [hsn.out, List.mem_append] at hq
            rcases hq with hq | hq
            · exact h500.out z hq
            · simp at hq; subst hq; exact h5
          case measure => simp [intOf]; omega
        · go_wp2_with (go_at_call 14; refine (awake_any _).mono ?_; rintro e w' ⟨rfl, rfl⟩)
          go_ret
          exact ⟨rfl, Below.refl _ _⟩
      · have hall := Lib.hid (show ∀ z ∈ ss, z.size ≤ 500 by
          have := h500.out
          rw [List.take_of_length_le (by rw [hlen.out]; omega)] at this
          exact this)
        have hall2 := Lib.hid (show ∀ z ∈ ss, z.size ≤ 65536 from fun z hq => by have := hall.out z hq; omega)
        have hfs : (frames ss).size ≤ 65546 * 20 := by
          have h1 := framesL_length ss hall2.out
          have h2 := hlen.out
          rw [← toL_length, toL_frames]
          omega
        have hne0 : (((frames ss).size : Int) != ((frames ss).size : Int)) = false := by simp
        clear hne0
        go_wp2_with fail
        refine (all_len ad n cap ss _ hlen.out (by omega) hall2.out hat.out).mono ?_
        rintro e w1 ⟨rfl, hb1⟩
        have hat1 := Lib.hid (strsAt_below hat.out hb1)
        go_wp2_with fail
        refine (scan_list _ ss (frames ss).size 0 _ (by omega) (scan_found ss hall2.out)).mono ?_
        rintro e w2 ⟨ad2, cap2, rfl, hat2, hb2⟩
        rw [hlen.out]
        have hat12 := Lib.hid (strsAt_below hat1.out hb2)
        go_wp2_with fail
        refine (texts_len _ _ n _ _ ss _ hlen.out (by omega) hat12.out hat2.out).mono ?_
        rintro e w3 ⟨rfl, hb3⟩
        have hb03 := below_step (below_step hb1 hb2) hb3
        have hat3 := Lib.hid (strsAt_below hat12.out hb3)
        by_cases hn0 : n = 0
        · have hd : ((n : Int) == 0) = true := by rw [hn0]; rfl
          clear hn0
          go_wp2_with (go_at_call 14; refine (awake_any _).mono ?_; rintro e w' ⟨rfl, rfl⟩)
          go_ret
          exact ⟨rfl, hb03⟩
        have hd : ((n : Int) == 0) = false := by simp; omega
        obtain ⟨l, p, hlp⟩ : ∃ l p, ss = l ++ [p] := by
          rcases List.eq_nil_or_concat ss with h | ⟨l, p, h⟩
          · have := hlen.out; rw [h] at this; simp at this; omega
          · exact ⟨l, p, by simpa using h⟩
        subst hlp
        obtain ⟨hatl, b, off, rfl, hbs, hcell⟩ := strsAt_front hat3.out
        have hll : l.length + 1 = n := by have := hlen.out; simpa using this
        have hln : l.length = n - 1 := by omega
        rw [hln] at hcell
        have hp5 := hall.out p (by simp)
        have hn1 : 1 ≤ n := by omega
        have Hln := Lib.hid hln
        have Hatl := Lib.hid hatl
        have hT : (frames (l ++ [p])).size = (frames l).size + (10 + p.size) := by rw [frames_snoc, ByteArray.size_append, frm_size]
        have hT1 : (frames (l ++ [p])).size ≤ (frames l).size + (10 + p.size) := by omega
        have hT2 : (frames l).size + (10 + p.size) ≤ (frames (l ++ [p])).size := by omega
        have HT := Lib.hid hT
        clear hln hll hn0 hatl hT
        by_cases hc : cut < 1 ∨ (p.size : Int) + 10 < cut
        · have hdd : (decide (cut < 1) || decide ((p.size : Int) + 10 < cut)) = true := by
            simp only [Bool.or_eq_true, decide_eq_true_eq]
            exact hc
          clear hc
          go_wp2_with (go_at_call 14; refine (awake_any _).mono ?_; rintro e w' ⟨rfl, rfl⟩)
          all_goals (go_ret; exact ⟨rfl, hb03⟩)
        · obtain ⟨c, rfl⟩ := Int.eq_ofNat_of_zero_le (show 0 ≤ cut by omega)
          have hc1 : 1 ≤ c := by omega
          have hc2 : c ≤ p.size + 10 := by omega
          have hsc := Lib.hid (scan_cut l p (10 + p.size - c) (fun q hq => hall2.out q (by simp [hq])) (by omega) (by omega))
          have he := Lib.hid (show (frames l).size + (10 + p.size - c) = (frames (l ++ [p])).size - c by omega)
          clear hc
          go_wp2_with fail
          refine (scan_list _ l (frames l).size 0 _ (by simp; omega) (by rw [← he.out]; exact hsc.out)).mono ?_
          rintro e w4 ⟨ad4, cap4, rfl, hat4, hb4⟩
          rw [Hln.out]
          have hatl4 := Lib.hid (strsAt_below Hatl.out hb4)
          have hcell4 : w4.cell? ⟨b, off + (n - 1), none⟩ = some (.string p) := by rw [hb4.cell (p := ⟨b, off + (n - 1), none⟩) hbs]; exact hcell
          have hbs4 := hb4.size
          go_wp2_with fail
          refine (texts_len _ _ (n - 1) _ _ l _ Hln.out (by omega) hat4.out hatl4.out).mono ?_
          rintro e w5 ⟨rfl, hb5⟩
          have hcell5 : w5.cell? ⟨b, off + (n - 1), none⟩ = some (.string p) := by rw [hb5.cell (p := ⟨b, off + (n - 1), none⟩) (by show b < w4.heap.size; omega)]; exact hcell4
          go_wp2_with fail
          refine (awake_any _).mono ?_
          rintro e w' ⟨rfl, rfl⟩
          go_wp2_with fail
          go_ret
          exact ⟨rfl, below_step (below_step hb03 hb4) hb5⟩
end Go.Proofs.Ythfaokiiciebdaa
