/- The walk of ChunkPlays: whatever is put and asked, a box answers and stands as the document's. No condition. -/
import Derived.Test.YtdhkdmnhkldebaaPlay
namespace Go.Proofs.Ytdhkdmnhkldebaa
open Go.RowKit
set_option linter.unusedVariables false

theorem opsAt_below {w w' : World} {ad : Option Addr} {L : List OpR} (h : OpsAt w ad L) (hb : Below w.heap.size w w') : OpsAt w' ad L := by
  rcases h with h | ⟨b, o, h1, h2, h3⟩
  · exact Or.inl h
  · exact Or.inr ⟨b, o, h1, Nat.lt_of_lt_of_le h2 hb.size, fun i hi => opAt_below (h3 i hi) h2 hb⟩

set_option maxRecDepth 100000 in
set_option maxHeartbeats 800000 in
theorem chunkPlays_walk (n : Int) (oa : Option Addr) (oc : Nat) (L : List OpR) (w : World) (hn : (Lit.int .i64 n).wf = true) (hL : L.length ≤ maxLen) (ho : OpsAt w oa L) :
    Calls Try.prog 9 #[.int .i64 n, .slice oa L.length oc] w fun e w' => e = .returned (.bool true) ∧ Below w.heap.size w w' := by
  unfold maxLen at hL
  have HB := Lib.hid (int_bounds hn)
  have HA := Lib.hid (fun w => awake_any w)
  have Ho := Lib.hid ho
  clear hn ho
  by_cases hbad : n < 1 ∨ 4096 < n
  · have HN := Lib.hid (new_no n w hbad)
    have hd : (decide (n < 1) || decide (4096 < n)) = true := by simp only [Bool.or_eq_true, decide_eq_true_eq]; exact hbad
    clear Ho hL
    rcases hbad with hb | hb
    · go_enter Try.func9, Try.ntmps9
      go_wp2_with fail
      refine HN.out.mono ?_
      rintro e w1 ⟨rfl, rfl⟩
      go_wp2_with fail
      refine (HA.out _).mono ?_
      rintro e w1 ⟨rfl, hb1⟩
      go_wp2_with fail
      go_ret
      exact ⟨rfl, hb1⟩
    · go_enter Try.func9, Try.ntmps9
      go_wp2_with fail
      refine HN.out.mono ?_
      rintro e w1 ⟨rfl, rfl⟩
      go_wp2_with fail
      refine (HA.out _).mono ?_
      rintro e w1 ⟨rfl, hb1⟩
      go_wp2_with fail
      go_ret
      exact ⟨rfl, hb1⟩
  · obtain ⟨n, rfl⟩ := Int.eq_ofNat_of_zero_le (show 0 ≤ n by omega)
    have hn1 : 1 ≤ n := by omega
    have hn4 : n ≤ 4096 := by omega
    have hd0 : ¬ ((n : Int) < 1) := by omega
    have hd1 : ¬ (4096 < (n : Int)) := by omega
    have HN := Lib.hid (new_known n w hn1 hn4)
    clear hbad HB
    by_cases h60 : 60 < n
    · have HL0 := Lib.hid (left_new n)
      clear Ho hL
      go_enter Try.func9, Try.ntmps9
      go_wp2_with fail
      refine HN.out.mono ?_
      rintro e w1 ⟨b, gp, gh, rfl, hbox, hfresh, hb1⟩
      have HOF := Lib.hid (ofOf_any b gp gh _ w1 hbox.out)
      have HLF := Lib.hid (leftOf_any b gp gh _ w1 hbox.out)
      rw [HL0.out] at HLF
      rw [List.length_replicate] at HOF
      clear HN
      go_wp2_with fail
      refine HOF.out.mono ?_
      rintro e w2 ⟨rfl, rfl⟩
      go_wp2_with fail
      refine HLF.out.mono ?_
      rintro e w2 ⟨rfl, rfl⟩
      go_wp2_with fail
      refine (HA.out _).mono ?_
      rintro e w2 ⟨rfl, hb2⟩
      go_wp2_with fail
      go_ret
      exact ⟨rfl, below_step hb1 hb2⟩
    · have h60' : n ≤ 60 := by omega
      have hd6 : ¬ (60 < (n : Int)) := by omega
      have hmk := fun W => make_places n hn4 W
      go_enter Try.func9, Try.ntmps9
      go_wp2_with fail
      refine HN.out.mono ?_
      rintro e w1 ⟨b, gp, gh, rfl, hbox, hfresh, hb1⟩
      clear HN
      go_wp2_with fail
      have hP0 : Play ((w1.alloc (.cells ((List.replicate n none).flatMap pPlace).toArray 64)).alloc (.cells #[.slice (some ⟨w1.heap.size, 0, none⟩) n n] 49)) b gp gh (w1.heap.size + 1) w1.heap.size n (List.replicate n none) := by
        refine ⟨boxAt_same hbox.out (((Below.refl _ _).alloc (Nat.le_refl _) _).alloc (by simp) _), ⟨?_, (Blk.new w1 _ _).alloc _⟩, List.length_replicate, by rw [size_new]; omega⟩
        have h := Blk.new (w1.alloc (.cells ((List.replicate n none).flatMap pPlace).toArray 64)) [.slice (some ⟨w1.heap.size, 0, none⟩) n n] 49
        rw [World.size_alloc] at h
        rw [List.length_replicate]
        exact h
      have HP0 := Lib.hid hP0
      have hw0 := hb1.size
      have hbP : Below w.heap.size w ((w1.alloc (.cells ((List.replicate n none).flatMap pPlace).toArray 64)).alloc (.cells #[.slice (some ⟨w1.heap.size, 0, none⟩) n n] 49)) := below_step hb1 (((Below.refl _ _).alloc (Nat.le_refl _) _).alloc (by simp) _)
      have HBP := Lib.hid hbP
      have hInS : ∀ k, InTwo b gp gh w1.heap.size k → w.heap.size ≤ k := by
        rintro k (hk | rfl)
        · exact hfresh.out k hk
        · exact hw0
      have HIN := Lib.hid hInS
      clear hP0 hbP hInS hmk hbox hfresh hb1
      generalize (w1.alloc (.cells ((List.replicate n none).flatMap pPlace).toArray 64)).alloc (.cells #[.slice (some ⟨w1.heap.size, 0, none⟩) n n] 49) = w2 at *
      generalize w1.heap.size + 1 = q at *
      generalize w1.heap.size = gl at *
      go_loopw [8] (fun i wr => ∃ (k : Nat) (m : List (Option ByteArray)), k ≤ L.length ∧ k ≤ 80 ∧ i = .int .i64 k ∧ Hid (Play wr b gp gh q gl n m) ∧ Hid (Below w.heap.size w wr)) (fun i _ => 80 - (intOf i).toNat)
      case atStart => exact ⟨0, _, Nat.zero_le _, by omega, rfl, HP0, HBP⟩
      case round =>
        obtain ⟨k, m, hk, hk80, rfl, HP, HBR⟩ := hrel
        by_cases hlt : k < L.length ∧ k < 80
        · obtain ⟨hlt1, hlt2⟩ := hlt
          have hor := opsAt_below Ho.out HBR.out
          obtain ⟨ob, oo, rfl, hob, hops⟩ := hor.resolve_left (by intro h; rw [h] at hlt1; simp at hlt1)
          obtain ⟨p0, p1, p2, p3, p4, _, _, _, _, hts⟩ := hops k hlt1
          have HST := Lib.hid (play_step b gp gh q gl n L[k] m wr HP.out hn1 h60' hts)
          generalize L[k] = x at *
          have Hlt := Lib.hid hlt1
          clear hops hor hts
          go_wp2_with fail
          refine HST.out.mono ?_
          rintro e w3 ⟨rfl, ⟨m3, HP3⟩, ht3⟩
          have HB3 := Lib.hid (touch_step HBR.out HIN.out ht3)
          have HLF := Lib.hid (leftOf_any b gp gh m3 w3 HP3.out.box)
          have HLM := Lib.hid (play_lack b gp gh q gl n m3 w3 HP3.out h60')
          clear HST ht3 p0 p1 p2 p3 p4 HP HBR
          go_wp2_with fail
          refine HLF.out.mono ?_
          rintro e w4 ⟨rfl, rfl⟩
          go_wp2_with fail
          refine HLM.out.mono ?_
          rintro e w4 ⟨va, vc, rfl, hb4⟩
          have HP4 := Lib.hid (HP3.out.below hb4)
          have HB4 := Lib.hid (below_step HB3.out hb4)
          have HOF := Lib.hid (ofOf_any b gp gh m3 w4 HP4.out.box)
          rw [HP4.out.len] at HOF
          clear HP3 HB3 HLF HLM hb4
          go_wp2_with fail
          refine HOF.out.mono ?_
          rintro e w5 ⟨rfl, rfl⟩
          go_wp2_with fail
          go_roundw
          case rel => exact ⟨k + 1, m3, by omega, by omega, by go_num, HP4, HB4⟩
          case measure => simp [intOf]; omega
        · by_cases hlt1 : k < L.length
          · have hge : ¬ (k < 80) := fun h => hlt ⟨hlt1, h⟩
            clear hlt
            go_wp2_with fail
            refine (HA.out _).mono ?_
            rintro e w3 ⟨rfl, hb3⟩
            go_wp2_with fail
            go_ret
            exact ⟨rfl, below_step HBR.out hb3⟩
          · clear hlt
            go_wp2_with fail
            refine (HA.out _).mono ?_
            rintro e w3 ⟨rfl, hb3⟩
            go_wp2_with fail
            go_ret
            exact ⟨rfl, below_step HBR.out hb3⟩
end Go.Proofs.Ytdhkdmnhkldebaa
