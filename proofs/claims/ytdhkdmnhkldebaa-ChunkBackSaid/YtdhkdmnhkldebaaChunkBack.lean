/- The walk of ChunkBack: the parts of a text, put in in any order and any often, come together to it. No condition. -/
import Derived.Test.YtdhkdmnhkldebaaText
import Derived.Test.YtdhkdmnhkldebaaParts
namespace Go.Proofs.Ytdhkdmnhkldebaa
open Go.RowKit

theorem cutParts_at (s : ByteArray) (k i : Nat) (h : i < (cutParts s k).length) : (cutParts s k)[i] = (((i : Nat) : Int), ((npieces s.size k : Nat) : Int), piece s k i) := by simp [cutParts]

def BackInv (s : ByteArray) (k b gp gh : Nat) (wr : World) (m : List (Option ByteArray)) : Prop := BoxAt wr b gp gh m ∧ Fits s k m

/-- one part, put in -/
theorem back_put (s : ByteArray) (k b gp gh i n : Nat) (m : List (Option ByteArray)) (w : World) (hk : 1 ≤ k) (hs : s.size ≤ 20000) (hn : npieces s.size k = n) (hn2 : n ≤ 500) (h : BackInv s k b gp gh w m) (hi : i < n) :
    Calls Try.prog 15 #[.pointer (some ⟨b, 0, none⟩), .agg #[.int .i64 (i : Int), .int .i64 (n : Int), .string (piece s k i)]] w fun e w' =>
      ∃ m', e = .returned (.int .i64 0) ∧ Hid (BackInv s k b gp gh w' m') ∧ Hid (∀ j, j < n → m'.getD j none = none → m.getD j none = none ∧ j ≠ i) ∧ Touch (InBox b gp gh) w w' := by
  have hml : m.length = n := h.2.1.trans hn
  obtain ⟨m', hp, hf, hj⟩ := fits_put hk hs h.2 (i := i) (by omega)
  rw [hml] at hp hj
  refine (put_known b gp gh m m' i n (piece s k i) 0 w h.1 (by omega) (by have := fits_size hk h.2; omega) (by have := piece_size s k i; unfold maxLen; omega) hp).mono ?_
  rintro e w' ⟨he, hb, ht⟩
  exact ⟨m', he, ⟨hb.out, hf⟩, hj, ht⟩

set_option maxRecDepth 100000 in
set_option maxHeartbeats 4000000 in
theorem chunkBack_walk (s0 : ByteArray) (size : Int) (a2 : Option Addr) (len2 cap2 : Nat) (z2 : List Int) (w : World) (hs0 : s0.size ≤ maxLen) (hz : (Lit.int .i64 size).wf = true) (hi2 : IsInts .i64 w a2 len2 cap2 z2) :
    Calls Try.prog 7 #[.string s0, .int .i64 size, .slice a2 len2 cap2] w fun e w' => e = .returned (.bool true) ∧ Below w.heap.size w w' := by
  unfold maxLen at hs0
  obtain ⟨hat2, hlen2, hwf2, hm2, _, _⟩ := isInts_at hi2
  unfold maxLen at hm2
  have Hat2 := Lib.hid hat2
  have Hlen2 := Lib.hid hlen2
  have hb := int_bounds hz
  have Hb := Lib.hid hb
  clear hb hz hi2 hat2 hlen2 hwf2
  go_enter Try.func7, Try.ntmps7
  go_upto_if 18 with (fail)
  go_cut [0] (fun v wx => ∃ s : ByteArray, v = .string s ∧ s.size ≤ 20000 ∧ w = wx)
  case first =>
    by_cases h : s0.size ≤ 20000
    · go_wp2
      go_meet
      exact ⟨_, rfl, h, rfl⟩
    · go_wp2
      go_meet
      exact ⟨_, rfl, by simp; omega, rfl⟩
  case rest =>
    obtain ⟨s, rfl, hs, rfl⟩ := hcut
    go_wp2_with fail
    refine (cut_any s size _ (by unfold maxLen; omega) Hb.out).mono ?_
    rintro e w1 ⟨v1, rfl, hown1, hb1⟩
    obtain ⟨ad1, cap1, rfl, hat1⟩ := readsParts_own hown1
    have Hat1 := Lib.hid hat1
    clear hown1 hat1
    have hcut2 : ((cutOf s size).1 = [] ∧ (cutOf s size).2 ≠ 0) ∨ ∃ k : Nat, size = (k : Int) ∧ 1 ≤ k ∧ npieces s.size k ≤ 4096 ∧ cutOf s size = (cutParts s k, 0) := by
      by_cases h1 : size < 1
      · left; rw [cutOf, if_pos h1]; exact ⟨rfl, by simp⟩
      · obtain ⟨k, rfl⟩ := Int.eq_ofNat_of_zero_le (show 0 ≤ size by omega)
        by_cases h3 : 4096 < npieces s.size k
        · left; rw [cutOf, if_neg h1, if_neg (by omega), Int.toNat_natCast, if_pos h3]; exact ⟨rfl, by simp⟩
        · right; exact ⟨k, rfl, by omega, by omega, by rw [cutOf, if_neg h1, if_neg (by omega), Int.toNat_natCast, if_neg h3]⟩
    rcases hcut2 with ⟨hc1, hc2⟩ | ⟨k, rfl, hk, hn4, hc⟩
    · obtain ⟨e2, he2⟩ : ∃ e2, e2 = (cutOf s size).2 := ⟨_, rfl⟩
      rw [← he2] at hc2 ⊢
      rw [hc1]
      have hne : ((e2 : Int) != 0) = true := by rw [bne_iff_ne]; omega
      clear hc1 hc2 he2
      go_wp2
      go_ret
      exact ⟨rfl, hb1⟩
    · rw [hc] at Hat1 ⊢
      have Hat1 : Hid (PartsAt w1 ad1 (cutParts s k)) := Hat1
      obtain ⟨n, hn⟩ : ∃ n, n = npieces s.size k := ⟨_, rfl⟩
      have hln : (cutParts s k).length = n := by rw [cutParts_length, hn]
      have hn1 : 1 ≤ n := by rw [hn]; unfold npieces; omega
      rw [← hn] at hn4
      have Hn := Lib.hid hn.symm
      have Hln := Lib.hid hln
      rw [hln]
      clear hc hn hln
      by_cases h500 : n ≤ 500
      · obtain ⟨b1, o1, rfl, hb1s, hc1⟩ := Hat1.out.resolve_left (by intro h; have := Hln.out; rw [h] at this; simp at this; omega)
        have hof : w1.cell? ⟨b1, o1 + 1, none⟩ = some (.int .i64 (n : Int)) := by
          have h := (hc1 0 (by rw [Hln.out]; omega)).2.1
          rw [cutParts_at, Hn.out] at h
          simpa using h
        have hn0 : ((n : Int) == 0) = false := by simp; omega
        clear hc1
        go_wp2_with fail
        refine (new_known n _ hn1 (by omega)).mono ?_
        rintro e w2 ⟨b, gp, gh, rfl, hbox2, hfresh, hb2⟩
        have hinv2 : Hid (BackInv s k b gp gh w2 (List.replicate n none)) := by
          have h := fits_new s k
          rw [Hn.out] at h
          exact ⟨hbox2.out, h⟩
        have hb02 := below_step hb1 hb2
        clear hbox2
        have hbw2 := hb2
        go_wp2
        go_loopw [11] (fun i wr => ∃ (i' : Nat) (m : List (Option ByteArray)), i = .int .i64 i' ∧ i' ≤ len2 ∧ i' ≤ 300 ∧ Hid (BackInv s k b gp gh wr m) ∧ Below w1.heap.size w1 wr) (fun i _ => 300 - (intOf i).toNat)
        case atStart => exact ⟨0, _, rfl, by omega, by omega, hinv2, hb2⟩
        case round =>
          obtain ⟨i, m, rfl, hi1, hi3, hinv, hbr⟩ := hrel
          by_cases hlt : i < len2 ∧ i < 300
          · obtain ⟨hlt1, hlt3⟩ := hlt
            have hatr := Lib.hid (intsAt_below Hat2.out (below_step hb1 hbr))
            obtain ⟨b2, o2, rfl, hb2s, hc2⟩ := hatr.out.resolve_left (by intro h; have := Hlen2.out; rw [h] at this; simp at this; omega)
            have hil : i < (z2.take len2).length := by rw [Hlen2.out]; exact hlt1
            obtain ⟨z, hz⟩ : ∃ z, z = (z2.take len2)[i] := ⟨_, rfl⟩
            have hci : wr.cell? ⟨b2, o2 + i, none⟩ = some (.int .i64 z) := by rw [hz]; exact hc2 i hil
            clear hz hc2
            by_cases hz0 : z < 0
            · go_wp2
              go_roundw
              case rel => exact ⟨i + 1, m, by go_num, by omega, by omega, hinv, hbr⟩
              case measure => simp [intOf]; omega
            · by_cases hzn : (n : Int) ≤ z
              · go_wp2
                go_roundw
                case rel => exact ⟨i + 1, m, by go_num, by omega, by omega, hinv, hbr⟩
                case measure => simp [intOf]; omega
              · obtain ⟨z, rfl⟩ := Int.eq_ofNat_of_zero_le (show 0 ≤ z by omega)
                have hzl : z < n := by omega
                obtain ⟨x0, x1, x2⟩ : wr.cell? ⟨b1, o1 + z * 3, none⟩ = some (.int .i64 (z : Int)) ∧ wr.cell? ⟨b1, o1 + z * 3 + 1, none⟩ = some (.int .i64 (n : Int)) ∧ wr.cell? ⟨b1, o1 + z * 3 + 2, none⟩ = some (.string (piece s k z)) := by
                  rw [hbr.cell (p := ⟨b1, o1 + z * 3, none⟩) hb1s, hbr.cell (p := ⟨b1, o1 + z * 3 + 1, none⟩) hb1s, hbr.cell (p := ⟨b1, o1 + z * 3 + 2, none⟩) hb1s]
                  obtain ⟨b', o', he, _, hc⟩ := Hat1.out.resolve_left (by intro h; have := Hln.out; rw [h] at this; simp at this; omega)
                  simp only [Option.some.injEq, Addr.mk.injEq] at he
                  obtain ⟨rfl, rfl, _⟩ := he
                  have h := hc z (by rw [Hln.out]; exact hzl)
                  rw [cutParts_at, Hn.out] at h
                  exact h
                go_wp2_with fail
                refine (back_put s k b gp gh z n m _ hk hs Hn.out h500 hinv.out hzl).mono ?_
                rintro e w3 ⟨m', rfl, hinv3, _, ht3⟩
                have hb3 := touch_step hbr hfresh.out ht3
                go_wp2
                go_roundw
                case rel => exact ⟨i + 1, m', by go_num, by omega, by omega, hinv3, hb3⟩
                case measure => simp [intOf]; omega
          · have hcond : (decide ((i : Int) < (len2 : Int)) && decide ((i : Int) < 300)) = false := by
              simp only [Bool.and_eq_false_iff, decide_eq_false_iff_not]; omega
            obtain ⟨wo, rfl⟩ : ∃ wo : World, wo = wr := ⟨_, rfl⟩
            have hml : m.length = n := hinv.out.2.1.trans Hn.out
            obtain ⟨L, hL⟩ : ∃ L, L = firstTo m (n : Int) m.length := ⟨_, rfl⟩
            have hLm := Lib.hid (show ∀ x, x ∈ L ↔ x < n ∧ m.getD x none = none by
              intro x
              rw [hL, firstTo_all m n (by omega), lackTo_mem, hml])
            have hLl : L.length ≤ n := by rw [hL]; have := firstTo_length m n m.length; omega
            have HL := Lib.hid hL
            have Hml := Lib.hid hml
            clear hL hml
            rcases (show (i < len2 ∧ 300 ≤ i) ∨ len2 ≤ i by omega) with ⟨hx1, hx2⟩ | hx1
            all_goals
              clear hlt hcond
              go_wp2_with fail
              refine (missing_any b gp gh m n _ hinv.out.1 (by rw [Hml.out]; omega)).mono ?_
              rintro e w3 ⟨v3, rfl, hown3, hb3⟩
              rw [← HL.out] at hown3
              obtain ⟨ad3, cap3, rfl, _, hcm3, hlen3, hnil3, hsome3⟩ := row_open hown3
              have Hnil3 := Lib.hid hnil3
              have Hsome3 := Lib.hid hsome3
              have hinv3 : Hid (BackInv s k b gp gh w3 m) := ⟨boxAt_same hinv.out.1 hb3, hinv.out.2⟩
              have hb13 := below_step hbr hb3
              have hbx : Hid (∀ q, InBox b gp gh q → q < wo.heap.size) := by
                have hi := hinv.out.1
                intro q hq
                rcases hq with rfl | rfl | rfl
                · exact hi.1.lt
                · exact hi.2.1.lt
                · exact hi.2.2.lt
              have hL500 : L.length ≤ 500 := by omega
              clear hown3 hlen3 hnil3 hsome3
              go_wp2
              go_loopw [13] (fun i wr => ∃ (j : Nat) (m2 : List (Option ByteArray)), i = .int .i64 ((j : Int) - 1) ∧ j ≤ L.length ∧ Hid (BackInv s k b gp gh wr m2) ∧ Hid (∀ x, x < n → m2.getD x none = none → x ∈ L.take j) ∧ Touch (InBox b gp gh) w3 wr) (fun i _ => (intOf i + 1).toNat)
              case atStart => exact ⟨L.length, m, rfl, Nat.le_refl _, hinv3, (by intro x hx hn; rw [List.take_of_length_le (Nat.le_refl _)]; exact (hLm.out x).2 ⟨hx, hn⟩), Touch.refl _ _⟩
              case round =>
                obtain ⟨j, m2, rfl, hj, hinv4, hrest, ht4⟩ := hrel
                have hb14 := touch_step hb13 hfresh.out ht4
                cases j with
                | succ j =>
                  have hjL : j < L.length := by omega
                  obtain ⟨x, hx⟩ : ∃ x, x = L[j] := ⟨_, rfl⟩
                  have hxn : x < n := by rw [hx]; exact ((hLm.out _).1 (List.getElem_mem hjL)).1
                  have htk := Lib.hid (show L.take (j + 1) = L.take j ++ [x] by rw [hx, List.take_succ_eq_append_getElem hjL])
                  obtain ⟨g3, rfl, hg1, hg2, hc3⟩ : ∃ g, ad3 = some ⟨g, 0, none⟩ ∧ wo.heap.size ≤ g ∧ g < w3.heap.size ∧ ∀ q, q < L.length → w3.cell? ⟨g, q, none⟩ = (numCells L)[q]? := by
                    cases ad3 with
                    | none => have := Hnil3.out rfl; omega
                    | some y => obtain ⟨g, rfl, h1, h2, h3⟩ := Hsome3.out y rfl; exact ⟨g, rfl, h1, h2, h3⟩
                  have hcx : wr.cell? ⟨g3, j, none⟩ = some (.int .i64 (x : Nat)) := by
                    rw [ht4.cell (p := ⟨g3, j, none⟩) hg2 (by intro hq; have := hbx.out _ hq; have hh : g3 < wo.heap.size := this; omega), hc3 j hjL, hx]
                    unfold numCells
                    rw [List.getElem?_map, List.getElem?_eq_getElem hjL]
                    rfl
                  obtain ⟨x0, x1, x2⟩ : wr.cell? ⟨b1, o1 + x * 3, none⟩ = some (.int .i64 (x : Int)) ∧ wr.cell? ⟨b1, o1 + x * 3 + 1, none⟩ = some (.int .i64 (n : Int)) ∧ wr.cell? ⟨b1, o1 + x * 3 + 2, none⟩ = some (.string (piece s k x)) := by
                    rw [hb14.cell (p := ⟨b1, o1 + x * 3, none⟩) hb1s, hb14.cell (p := ⟨b1, o1 + x * 3 + 1, none⟩) hb1s, hb14.cell (p := ⟨b1, o1 + x * 3 + 2, none⟩) hb1s]
                    obtain ⟨b', o', he, _, hc⟩ := Hat1.out.resolve_left (by intro h; have := Hln.out; rw [h] at this; simp at this; omega)
                    simp only [Option.some.injEq, Addr.mk.injEq] at he
                    obtain ⟨rfl, rfl, _⟩ := he
                    have h := hc x (by rw [Hln.out]; exact hxn)
                    rw [cutParts_at, Hn.out] at h
                    exact h
                  have e1 : (((j + 1 : Nat) : Int) - 1) = (j : Int) := by omega
                  rw [e1]
                  clear hx hc3 e1
                  go_wp2_with fail
                  refine (back_put s k b gp gh x n m2 _ hk hs Hn.out h500 hinv4.out hxn).mono ?_
                  rintro e w5 ⟨m3, rfl, hinv5, hfill, ht5⟩
                  go_wp2
                  go_roundw
                  case rel =>
                    refine ⟨j, m3, rfl, by omega, hinv5, ?_, ht4.trans ht5⟩
                    intro y hy hn0'
                    have h1 := hfill.out y hy hn0'
                    have h2 := hrest.out y hy h1.1
                    rw [htk.out, List.mem_append, List.mem_singleton] at h2
                    exact h2.resolve_right h1.2
                  case measure => simp [intOf]
                | zero =>
                  have hm2l : m2.length = n := hinv4.out.2.1.trans Hn.out
                  have hfull := fits_full hk hinv4.out.2 (by
                    intro y hy hn0'
                    have := hrest.out y (by omega) hn0'
                    simp at this)
                  have Hfull := Lib.hid hfull
                  have Hm2l := Lib.hid hm2l
                  have Hsz := Lib.hid (fits_size hk hinv4.out.2)
                  clear hfull hm2l
                  go_wp2_with fail
                  refine (text_all b gp gh m2 _ hinv4.out.1 Hfull.out.2.1 (by rw [Hm2l.out]; omega) (by rw [Hm2l.out]; omega) (by have := Hsz.out; omega)).mono ?_
                  rintro e w5 ⟨rfl, hb5⟩
                  rw [Hfull.out.1]
                  have hbox5 := Lib.hid (boxAt_same hinv4.out.1 hb5)
                  go_wp2_with fail
                  refine (leftOf_any b gp gh m2 _ hbox5.out).mono ?_
                  rintro e w6 ⟨rfl, rfl⟩
                  rw [Hfull.out.2.1]
                  go_wp2_with fail
                  refine (missing_any b gp gh m2 9 _ hbox5.out (by rw [Hm2l.out]; omega)).mono ?_
                  rintro e w6 ⟨v6, rfl, hown6, hb6⟩
                  rw [Hfull.out.2.2 9] at hown6
                  obtain ⟨ad6, cap6, rfl⟩ := row_shape hown6
                  have h60 : ([] : List Nat).length = 0 := rfl
                  rw [h60]
                  clear hown6 h60
                  go_wp2_with fail
                  refine (awake_any _).mono ?_
                  rintro e w7 ⟨rfl, hb7⟩
                  go_wp2_with fail
                  go_ret
                  exact ⟨rfl, below_step hb1 (below_step (below_step (below_step hb14 hb5) hb6) hb7)⟩
      · have hgt : (500 : Int) < (n : Int) := by omega
        have hn0 : ((n : Int) == 0) = false := by simp; omega
        go_wp2_with (go_at_call 13; refine (awake_any _).mono ?_; rintro e w' ⟨rfl, hb⟩)
        go_ret
        exact ⟨rfl, below_step hb1 hb⟩
end Go.Proofs.Ytdhkdmnhkldebaa
