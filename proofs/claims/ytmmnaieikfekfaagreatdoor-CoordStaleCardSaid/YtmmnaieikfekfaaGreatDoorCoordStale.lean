/- The walk of CoordStale: a coordinator gives up just when a vault of its own tells of a greater ballot. No condition. -/
import Derived.Test.YtmmnaieikfekfaaGreatDoorStaleLast
import Derived.Test.YtmmnaieikfekfaaGreatDoorOpenMops
import Derived.Deep.MidRow
namespace Go.Proofs.YtmmnaieikfekfaaGreatDoor
open Go Go.RowKit
set_option linter.unusedVariables false

theorem MOpAt.range {w : World} {b o : Nat} {kd fr : Int} {m0 m1 m2 m3 m4 m5 m6 m7 m8 m9 m10 m11 m12 m13 tx k0 k1 k2 : Value} (h : MOpAt w b o kd fr m0 m1 m2 m3 m4 m5 m6 m7 m8 m9 m10 m11 m12 m13 tx k0 k1 k2) : w.rangeAt b o [.int .i64 kd, .int .i64 fr, m0, m1, m2, m3, m4, m5, m6, m7, m8, m9, m10, m11, m12, m13, tx, k0, k1, k2] := by
  obtain ⟨h0, h1, h2, h3, h4, h5, h6, h7, h8, h9, h10, h11, h12, h13, h14, h15, h16, h17, h18, h19⟩ := h
  intro j v hv
  match j, hv with
  | 0, hv => injection hv with hv; rw [← hv]; exact h0
  | 1, hv => injection hv with hv; rw [← hv]; exact h1
  | 2, hv => injection hv with hv; rw [← hv]; exact h2
  | 3, hv => injection hv with hv; rw [← hv]; exact h3
  | 4, hv => injection hv with hv; rw [← hv]; exact h4
  | 5, hv => injection hv with hv; rw [← hv]; exact h5
  | 6, hv => injection hv with hv; rw [← hv]; exact h6
  | 7, hv => injection hv with hv; rw [← hv]; exact h7
  | 8, hv => injection hv with hv; rw [← hv]; exact h8
  | 9, hv => injection hv with hv; rw [← hv]; exact h9
  | 10, hv => injection hv with hv; rw [← hv]; exact h10
  | 11, hv => injection hv with hv; rw [← hv]; exact h11
  | 12, hv => injection hv with hv; rw [← hv]; exact h12
  | 13, hv => injection hv with hv; rw [← hv]; exact h13
  | 14, hv => injection hv with hv; rw [← hv]; exact h14
  | 15, hv => injection hv with hv; rw [← hv]; exact h15
  | 16, hv => injection hv with hv; rw [← hv]; exact h16
  | 17, hv => injection hv with hv; rw [← hv]; exact h17
  | 18, hv => injection hv with hv; rw [← hv]; exact h18
  | 19, hv => injection hv with hv; rw [← hv]; exact h19
  | j + 20, hv => cases hv

set_option maxRecDepth 100000 in
set_option maxHeartbeats 8000000 in
theorem coordStale_walk (sa : Option Addr) (sl sc : Nat) (x0 : Value) (fr to_ bal : Int) (x4 x5 x6 x7 x8 x9 x10 x11 x12 x13 : Value) (ka ga : Int) (aa : Option Addr) (ca : Nat) (fa : List TFile) (w : World)
    (hs : MOpsAt w sa sl) (hsl : sl ≤ maxLen) (hla : fa.length ≤ maxLen) (ha : TfsAt w aa fa) (hsa : ∀ f ∈ fa, f.path.size ≤ maxLen ∧ f.data.size ≤ maxLen) :
    Calls Tryz.prog 10 #[.slice sa sl sc, .agg #[x0, .int .i64 fr, .int .i64 to_, .int .i64 bal, x4, x5, x6, x7, x8, x9, x10, x11, x12, x13], .agg #[.int .i64 ka, .int .i64 ga, .slice aa fa.length ca]] w fun e w' => e = .returned (.bool true) ∧ Below w.heap.size w w' := by
  have Hs := Lib.hid hs
  unfold maxLen at hsl
  have Ha := Lib.hid ha
  have Hla := Lib.hid hla
  have Hfa := Lib.hid (show FewFiles (fewL fa) from ⟨by rw [fewL_len]; omega, fun f hf => ⟨by have := (fewL_ok hsa f hf).1; unfold maxLen at this; omega, (fewL_ok hsa f hf).2⟩⟩)
  have hb0 := ((Below.refl w.heap.size w).alloc (Nat.le_refl _) (.cells #[x0, .int .i64 fr, .int .i64 to_, .int .i64 bal, x4, x5, x6, x7, x8, x9, x10, x11, x12, x13] 61)).alloc (by simp) (.cells #[.int .i64 ka, .int .i64 ga, .slice aa fa.length ca] 40)
  have Q1 := (Blk.new w [x0, .int .i64 fr, .int .i64 to_, .int .i64 bal, x4, x5, x6, x7, x8, x9, x10, x11, x12, x13] 61).alloc (.cells #[.int .i64 ka, .int .i64 ga, .slice aa fa.length ca] 40)
  have Q2 := Blk.new (w.alloc (.cells #[x0, .int .i64 fr, .int .i64 to_, .int .i64 bal, x4, x5, x6, x7, x8, x9, x10, x11, x12, x13] 61)) [.int .i64 ka, .int .i64 ga, .slice aa fa.length ca] 40
  rw [show (w.alloc (.cells #[x0, .int .i64 fr, .int .i64 to_, .int .i64 bal, x4, x5, x6, x7, x8, x9, x10, x11, x12, x13] 61)).heap.size = w.heap.size + 1 by simp] at Q2
  have HB0 := Lib.hid hb0
  have HQ1 := Lib.hid Q1
  have HQ2 := Lib.hid Q2
  clear hs ha hsa hla hb0 Q1 Q2
  go_enter Tryz.func10, Tryz.ntmps10
  go_wp2_with fail
  have Q1 := HQ1.out
  have Q2 := HQ2.out
  have B0 := HB0.out
  generalize (w.alloc (.cells #[x0, .int .i64 fr, .int .i64 to_, .int .i64 bal, x4, x5, x6, x7, x8, x9, x10, x11, x12, x13] 61)).alloc (.cells #[.int .i64 ka, .int .i64 ga, .slice aa fa.length ca] 40) = w0 at Q1 Q2 B0 ⊢
  have hq0 : w.heap.size ≤ w.heap.size := Nat.le_refl _
  have hq1 : w.heap.size ≤ w.heap.size + 1 := Nat.le_succ _
  generalize hqm : w.heap.size + 1 = qk at Q2 hq1 ⊢
  have Hqm := Lib.hid hqm
  clear hqm
  generalize hqm : w.heap.size = qm at Q1 ⊢
  have Hqm2 := Lib.hid hqm
  clear hqm
  have HQ1' := Lib.hid Q1
  have HQ2' := Lib.hid Q2
  have HB0' := Lib.hid B0
  clear HQ1 HQ2 HB0 Q1 Q2 B0 hq0 hq1
  refine (fresh_ok 1 3 5 _ (by unfold NewOk BalOk; omega)).mono ?_
  rintro e w1 ⟨wb, bk, mp, c, t, rfl, hW, hbk, hmp, hc, ht, hwb0, hc0, ht0, hb1⟩
  have HS1 := Lib.hid (st_fresh hW hc ht hwb0 hc0 ht0 hb1)
  have Hc0 := Lib.hid hc0
  clear hW hbk hmp hc ht hb1 hwb0 hc0 ht0
  go_upto_block 0 with fail
  go_cut [] (fun wx => Hid (∃ sa' sc' L K, St w0 c t wb bk sa' sc' L K wx ∧ K ≤ 90))
  case first =>
    go_wp2_with fail
    go_loopw [8] (fun i wr => ∃ k : Nat, i = .int .i64 k ∧ k ≤ sl ∧ k ≤ 30 ∧ Hid (∃ sa' sc' L K, St w0 c t wb bk sa' sc' L K wr ∧ K ≤ 3 * k ∧ (∀ v ∈ L, v < 3) ∧ L.length ≤ 3)) (fun i _ => 30 - (intOf i).toNat)
    case atStart => exact ⟨0, rfl, Nat.zero_le _, by omega, Lib.hid ⟨_, _, _, _, HS1.out, by omega, (fun v hv => by cases hv), by simp⟩⟩
    case round =>
      obtain ⟨k, rfl, hk, hk30, HX⟩ := hrel
      clear HS1
      obtain ⟨sa', sc', L, K, hS, hK, hL3, hl3⟩ := HX.out
      have HS := Lib.hid hS
      have HL3 := Lib.hid hL3
      have hbw := HB0'.out.trans (hS.below.mono HB0'.out.size)
      clear hS hL3 HX
      by_cases hlt : k < sl ∧ k < 30
      · obtain ⟨hlt1, hlt2⟩ := hlt
        rcases Hs.out.below hbw with h0 | ⟨b, off, rfl, hb, hops⟩
        · exact absurd h0 (by omega)
        obtain ⟨kd, o, m0, m1, m2, m3, m4, m5, m6, m7, m8, m9, m10, m11, m12, m13, tx, k0, k1, k2, hop⟩ := hops k hlt1
        have hrg := Lib.hid hop.range
        have hinf : (Tryz.prog.info? 65).map (·.size) = some 20 := by kernel_rfl
        have p0 := hop.1
        clear hop
        have h0b : w.heap.size ≤ w.heap.size := Nat.le_refl _
        clear hops hb h0b
        by_cases k0_ : kd = 0
        · subst k0_
          have HT := Lib.hid (st_tick w0 c t wb bk sa' sc' L K (.int .i64 o) m0 m1 m2 m3 m4 m5 m6 m7 m8 m9 m10 m11 m12 m13 tx k0 k1 k2 wr HS.out)
          clear HS
          go_upto_region 8 with fail
          apply wp_region_lit
          iterate 12 go_step
          refine wpList_load_mid rfl 65 _ rfl b (off + k * 20) rfl _ _ hrg.out Tryz.underlying65 rfl hinf ?_
          go_wp2_with fail
          refine HT.out.mono ?_
          rintro e w2 ⟨r, sa2, sc2, L2, rfl, hL2, hl2, hS2⟩
          have HX2 := Lib.hid (show ∃ sa' sc' L K, St w0 c t wb bk sa' sc' L K w2 ∧ K ≤ 3 * (k + 1) ∧ (∀ v ∈ L, v < 3) ∧ L.length ≤ 3 from ⟨_, _, _, _, hS2, by omega, hL2, hl2⟩)
          clear hL2 hl2 hS2 HT
          go_wp2_with fail
          go_roundw
          case rel => exact ⟨k + 1, by go_num, by omega, by omega, HX2⟩
          case measure => simp [intOf]; omega
        · have e0 : (kd == 0) = false := beq_eq_false_iff_ne.2 k0_
          by_cases k5_ : kd = 5
          · subst k5_
            have HT := Lib.hid (st_five w0 c t wb bk sa' sc' L K o m0 m1 m2 m3 m4 m5 m6 m7 m8 m9 m10 m11 m12 m13 tx k0 k1 k2 wr HS.out (by omega) HL3.out hl3)
            clear HS k0_
            go_upto_region 8 with fail
            apply wp_region_lit
            iterate 12 go_step
            refine wpList_load_mid rfl 65 _ rfl b (off + k * 20) rfl _ _ hrg.out Tryz.underlying65 rfl hinf ?_
            go_wp2_with fail
            refine HT.out.mono ?_
            rintro e w2 ⟨r, rfl, hS2⟩
            have HX2 := Lib.hid (show ∃ sa' sc' L K, St w0 c t wb bk sa' sc' L K w2 ∧ K ≤ 3 * (k + 1) ∧ (∀ v ∈ L, v < 3) ∧ L.length ≤ 3 from ⟨_, _, _, _, hS2, by omega, HL3.out, hl3⟩)
            clear hS2 HT
            go_wp2_with fail
            go_roundw
            case rel => exact ⟨k + 1, by go_num, by omega, by omega, HX2⟩
            case measure => simp [intOf]; omega
          · have e5 : (kd == 5) = false := beq_eq_false_iff_ne.2 k5_
            have HX2 := Lib.hid (show ∃ sa' sc' L K, St w0 c t wb bk sa' sc' L K wr ∧ K ≤ 3 * (k + 1) ∧ (∀ v ∈ L, v < 3) ∧ L.length ≤ 3 from ⟨_, _, _, _, HS.out, by omega, HL3.out, hl3⟩)
            clear HS k0_ k5_
            go_wp2_with fail
            go_roundw
            case rel => exact ⟨k + 1, by go_num, by omega, by omega, HX2⟩
            case measure => simp [intOf]; omega
      · have HX2 := Lib.hid (show ∃ sa' sc' L K, St w0 c t wb bk sa' sc' L K wr ∧ K ≤ 90 from ⟨_, _, _, _, HS.out, by omega⟩)
        clear HS hbw
        go_wp2_with fail
        all_goals go_meet
        all_goals exact HX2
  case rest =>
    obtain ⟨sa', sc', L, K, hS, _⟩ := hcut.out
    obtain ⟨S, sv, av, hon, hcl, han, hsk⟩ := sk_start hS HQ1'.out HQ2'.out HB0'.out (Nat.le_of_eq Hqm2.out)
    have hqml : qm < wc.heap.size := Nat.lt_of_lt_of_le HQ1'.out.lt hS.below.size
    have hq0 : wc.cell? ⟨qm, 0, none⟩ = some x0 := (HQ1'.out.below hS.below).cell 0
    have hqf : wc.frozen? ⟨qm, 0, none⟩ = false := (HQ1'.out.below hS.below).free 0
    have HSk := Lib.hid hsk
    have Hon := Lib.hid hon
    have Hcl := Lib.hid hcl
    have Han := Lib.hid han
    have HKA := Lib.hid (fun w' S' (h : Sk w w.heap.size c wb qm qk (worldV c bk 1 3 sv av) (nackArr fr to_ bal x4 x5 x6 x7 x8 x9 x10 x11 x12 x13) [.int .i64 ka, .int .i64 ga, .slice aa fa.length ca] S' w') => h.cells)
    have HF := Lib.hid (fun w' (h : Sk w w.heap.size c wb qm qk (worldV c bk 1 3 sv av) (nackArr fr to_ bal x4 x5 x6 x7 x8 x9 x10 x11 x12 x13) [.int .i64 ka, .int .i64 ga, .slice aa fa.length ca] S w') => sk_few ka ga aa ca fa h Ha.out Hla.out)
    have HAk := Lib.hid (fun w' x y (hr : Hid (w'.ownsRow 0 101 3 (.slice x (fewL fa).length y) (fewL fa).length (tfsVals (fewL fa)))) (h : Sk w w.heap.size c wb qm qk (worldV c bk 1 3 sv av) (nackArr fr to_ bal x4 x5 x6 x7 x8 x9 x10 x11 x12 x13) [.int .i64 ka, .int .i64 ga, .slice aa fa.length ca] S w') => sk_ask ka ga x y (fewL fa) Hfa.out (by rw [fewL_len]; omega) hr h Hon.out Hcl.out Han.out)
    clear hS hsk hon hcl han HQ1' HQ2' HB0' hcut HS1
    go_upto_region 10 with fail
    generalize wc.setCell ⟨qm, 0, none⟩ (.int .i64 3) = w2 at HSk ⊢
    have hA0 := HSk.out.quiet HSk.out.below.size (Below.refl _ _).drew
    have hc0 := HKA.out _ _ hA0
    go_region_held3 (fun w' => w'.cell? ⟨wb, 0, none⟩ = some (.pointer (some ⟨c, 0, none⟩)) ∧ w'.cell? ⟨qk, 0, none⟩ = some (.int .i64 ka) ∧ w'.cell? ⟨qk, 1, none⟩ = some (.int .i64 ga) ∧ w'.cell? ⟨qk, 2, none⟩ = some (.slice aa fa.length ca))
      (first | with_reducible exact hc0 | with_reducible exact HKA.out _ _ (by assumption) | go_keep)
      (first
        | (go_at_call 21; refine (HF.out _ (by assumption)).mono ?_; rintro e w6 ⟨fx, fy, rfl, hr6, hA6⟩)
        | (go_at_call 23; refine (HAk.out _ _ _ (by assumption) (by assumption)).mono ?_; rintro e w7 ⟨rfl, S7, hK7, hA7⟩))
    have HS7 := Lib.hid hA7
    have HK7 := Lib.hid hK7
    have hwb7 : w7.cell? ⟨wb, 0, none⟩ = some (.pointer (some ⟨c, 0, none⟩)) := (HKA.out _ _ hA7).1
    clear hA6 hA7 hA0 hc0 hK7 hr6 HF HAk HSk Hon Hcl Han hq0 hqf hqml
    go_upto_region 11 with fail
    go_wp2_with fail
    refine (sk_take HS7.out HK7.out).mono ?_
    rintro e w8 ⟨E, is, rfl, S8, hT8, hA8⟩
    have HS8 := Lib.hid (hA8.quiet hA8.below.size ((Below.refl w8.heap.size w8).alloc (Nat.le_refl _) (.cells #[.int .i64 E, .int .i64 0, .int .i64 0, .slice none 0 0, .slice none 0 0] 34)))
    have HT8 := Lib.hid hT8
    have HE8 := Lib.hid (Blk.new w8 [.int .i64 E, .int .i64 0, .int .i64 0, .slice none 0 0, .slice none 0 0] 34)
    clear hT8 hA8 HS7 HK7 hwb7
    go_upto_region 12 with fail
    generalize w8.alloc (.cells #[.int .i64 E, .int .i64 0, .int .i64 0, .slice none 0 0, .slice none 0 0] 34) = w9 at HS8 HE8 ⊢
    generalize w8.heap.size = ge at HE8 ⊢
    have hwb9 : w9.cell? ⟨wb, 0, none⟩ = some (.pointer (some ⟨c, 0, none⟩)) := (HKA.out _ _ HS8.out).1
    have HKM := Lib.hid (fun w' S' (h : Sk w w.heap.size c wb qm qk (worldV c bk 1 3 sv av) (nackArr fr to_ bal x4 x5 x6 x7 x8 x9 x10 x11 x12 x13) [.int .i64 ka, .int .i64 ga, .slice aa fa.length ca] S' w') => (show w'.cell? ⟨wb, 0, none⟩ = some (.pointer (some ⟨c, 0, none⟩)) ∧ w'.cell? ⟨qm, 0, none⟩ = some (.int .i64 3) ∧ w'.cell? ⟨qm, 1, none⟩ = some (.int .i64 fr) ∧ w'.cell? ⟨qm, 2, none⟩ = some (.int .i64 to_) ∧ w'.cell? ⟨qm, 3, none⟩ = some (.int .i64 bal) ∧ w'.cell? ⟨qm, 4, none⟩ = some (x4) ∧ w'.cell? ⟨qm, 5, none⟩ = some (x5) ∧ w'.cell? ⟨qm, 6, none⟩ = some (x6) ∧ w'.cell? ⟨qm, 7, none⟩ = some (x7) ∧ w'.cell? ⟨qm, 8, none⟩ = some (x8) ∧ w'.cell? ⟨qm, 9, none⟩ = some (x9) ∧ w'.cell? ⟨qm, 10, none⟩ = some (x10) ∧ w'.cell? ⟨qm, 11, none⟩ = some (x11) ∧ w'.cell? ⟨qm, 12, none⟩ = some (x12) ∧ w'.cell? ⟨qm, 13, none⟩ = some (x13) from ⟨(HKA.out _ _ h).1, h.msgs⟩))
    by_cases hs : to_ = 1 ∧ 0 ≤ fr ∧ fr < 3 ∧ 21 < bal
    · have HN := Lib.hid (fun w' (h : Sk w w.heap.size c wb qm qk (worldV c bk 1 3 sv av) (nackArr fr to_ bal x4 x5 x6 x7 x8 x9 x10 x11 x12 x13) [.int .i64 ka, .int .i64 ga, .slice aa fa.length ca] S8 w') => sk_nack_yes fr to_ bal x4 x5 x6 x7 x8 x9 x10 x11 x12 x13 h HT8.out hs)
      have Hst := Lib.hid hs
      clear hs
      have hA0 := HS8.out.quiet HS8.out.below.size (Below.refl _ _).drew
      have hc0 := HKM.out _ _ hA0
      have HE9 := Lib.hid (HE8.out.drew)
      have HEK := Lib.hid (fun w' w'' S' cs (h : Sk w w.heap.size c wb qm qk (worldV c bk 1 3 sv av) (nackArr fr to_ bal x4 x5 x6 x7 x8 x9 x10 x11 x12 x13) [.int .i64 ka, .int .i64 ga, .slice aa fa.length ca] S' w') (hE : Blk w' ge cs 34) (hT : Touch (fun k => k = c) w' w'') => hE.touch hT (fun e => hE.ne h.at_.1 (by decide) e))
      go_region_held3 (fun w' => w'.cell? ⟨wb, 0, none⟩ = some (.pointer (some ⟨c, 0, none⟩)) ∧ w'.cell? ⟨qm, 0, none⟩ = some (.int .i64 3) ∧ w'.cell? ⟨qm, 1, none⟩ = some (.int .i64 fr) ∧ w'.cell? ⟨qm, 2, none⟩ = some (.int .i64 to_) ∧ w'.cell? ⟨qm, 3, none⟩ = some (.int .i64 bal) ∧ w'.cell? ⟨qm, 4, none⟩ = some (x4) ∧ w'.cell? ⟨qm, 5, none⟩ = some (x5) ∧ w'.cell? ⟨qm, 6, none⟩ = some (x6) ∧ w'.cell? ⟨qm, 7, none⟩ = some (x7) ∧ w'.cell? ⟨qm, 8, none⟩ = some (x8) ∧ w'.cell? ⟨qm, 9, none⟩ = some (x9) ∧ w'.cell? ⟨qm, 10, none⟩ = some (x10) ∧ w'.cell? ⟨qm, 11, none⟩ = some (x11) ∧ w'.cell? ⟨qm, 12, none⟩ = some (x12) ∧ w'.cell? ⟨qm, 13, none⟩ = some (x13))
        (first | with_reducible exact hc0 | with_reducible exact HKM.out _ _ (by assumption) | go_keep)
        (first
          | (go_at_call 25; refine (HN.out _ (by assumption)).mono ?_; rintro e w10 ⟨rfl, hT10, S10, hG10, hA10⟩))
      obtain ⟨g0, _, m1, m2, m3, _⟩ := HKM.out _ _ hA10
      have HS10 := Lib.hid hA10
      have HG10 := Lib.hid hG10
      have HE10 := Lib.hid (HEK.out _ _ _ _ hA0 HE9.out hT10)
      have Hat10 := Lib.hid hA10.at_
      have HB := Lib.hid (fun w' (h : CoordAt w' c S10) => (ballotOf_any c S10 w' h (by have := hG10.1; omega)).mono (R' := fun e w'' => e = .returned (.int .i64 21) ∧ w' = w'') (fun e w'' ⟨he, hw⟩ => ⟨by rw [he, hG10.2.1], hw⟩))
      have h2 : 0 ≤ fr := Hst.out.2.1
      have h3 : fr < 3 := Hst.out.2.2.1
      have h4 : 21 < bal := Hst.out.2.2.2
      have e1 : (to_ == 1) = true := by rw [beq_iff_eq]; exact Hst.out.1
      clear hA10 hG10 hT10 hA0 hc0 HN HE9 HS8
      go_upto_region 13 with fail
      go_quiet ((go_at_call 18; first | exact quiet_left (HB.out _ (Hat10.out.drewN _)) | exact quiet_add_left (HB.out _ (Hat10.out.drewN _))))
      go_upto_region 14 with fail
      have HS11 := Lib.hid (HS10.out.quiet HS10.out.below.size (below_drewN (Below.refl _ _) nq))
      have HE11 := Lib.hid (HE10.out.below (below_drewN (Below.refl _ _) nq))
      have HTk := Lib.hid (sk_take_gone HS11.out (is := is) (by obtain ⟨a1, a2, a3, a4, a5⟩ := HG10.out; exact ⟨a1, a2, a3, a4, a5⟩))
      generalize w10.drewN nq = w11 at HS11 HE11 HTk ⊢
      have hwb11 := (HKA.out _ _ HS11.out).1
      clear g0 m1 m2 m3 HS10 Hat10 HE10 HB
      go_wp2_with fail
      refine HTk.out.mono ?_
      rintro e w12 ⟨F, rfl, hF, hT12, S12, hn12, hp12, hA12⟩
      have HF := Lib.hid hF
      have Hn12 := Lib.hid hn12
      have Hp12 := Lib.hid hp12
      have hb12 : Below w12.heap.size w12 (w12.alloc (.cells #[.int .i64 F, .int .i64 0, .int .i64 0, .slice none 0 0, .slice none 0 0] 34)) := (Below.refl w12.heap.size w12).alloc (Nat.le_refl _) _
      have HS12 := Lib.hid (hA12.quiet hA12.below.size hb12)
      have HE12 := Lib.hid ((HEK.out _ _ _ _ HS11.out HE11.out hT12).below hb12)
      have HX12 := Lib.hid (Blk.new w12 [.int .i64 F, .int .i64 0, .int .i64 0, .slice none 0 0, .slice none 0 0] 34)
      clear hA12 HS11 HE11 hwb11 hF hn12 hp12 hT12 hb12 HTk HEK HKM
      go_upto_region 15 with fail
      generalize w12.alloc (.cells #[.int .i64 F, .int .i64 0, .int .i64 0, .slice none 0 0, .slice none 0 0] 34) = w13 at HS12 HE12 HX12 ⊢
      generalize w12.heap.size = gx at HX12 ⊢
      have hwb13 := (HKA.out _ _ HS12.out).1
      go_wp2_with fail
      refine (off_any c S12 w13 HS12.out.at_ (by have := Hn12.out; omega)).mono ?_
      rintro e w14 ⟨rfl, rfl⟩
      rw [show (S12.phase == 0) = true by rw [Hp12.out]; rfl]
      go_upto_region 19 with fail
      obtain ⟨Q, hQ⟩ : ∃ Q : World → Prop, Q = fun w' => Sk w w.heap.size c wb qm qk (worldV c bk 1 3 sv av) (nackArr fr to_ bal x4 x5 x6 x7 x8 x9 x10 x11 x12 x13) [.int .i64 ka, .int .i64 ga, .slice aa fa.length ca] S12 w' ∧ Blk w' ge [.int .i64 E, .int .i64 0, .int .i64 0, .slice none 0 0, .slice none 0 0] 34 ∧ Blk w' gx [.int .i64 F, .int .i64 0, .int .i64 0, .slice none 0 0, .slice none 0 0] 34 := ⟨_, rfl⟩
      have hQB : ∀ w' w'', Q w' → Below w'.heap.size w' w'' → Q w'' := by
        intro w' w'' h hb
        rw [hQ] at h ⊢
        exact ⟨h.1.quiet h.1.below.size hb, h.2.1.below hb, h.2.2.below hb⟩
      have HQC := Lib.hid (show ∀ w', Q w' → w'.cell? ⟨wb, 0, none⟩ = some (.pointer (some ⟨c, 0, none⟩)) ∧ w'.cell? ⟨qk, 0, none⟩ = some (.int .i64 ka) ∧ w'.cell? ⟨qk, 1, none⟩ = some (.int .i64 ga) ∧ w'.cell? ⟨qk, 2, none⟩ = some (.slice aa fa.length ca) ∧ w'.cell? ⟨ge, 0, none⟩ = some (.int .i64 E) ∧ w'.cell? ⟨gx, 0, none⟩ = some (.int .i64 F) from fun w' h => by
        rw [hQ] at h
        obtain ⟨a1, a2, a3, a4⟩ := HKA.out _ _ h.1
        exact ⟨a1, a2, a3, a4, h.2.1.cell 0, h.2.2.cell 0⟩)
      have HQw := Lib.hid (show ∀ w', Q w' → Below w.heap.size w w' from fun w' h => by rw [hQ] at h; exact h.1.below)
      have hn12 : (1 : Int) ≤ S12.n := by have := Hn12.out; omega
      have HTick := Lib.hid (show ∀ w', Q w' → Calls Tryz.prog 24 #[.pointer (some ⟨c, 0, none⟩)] w' fun e w'' => e = .returned (.slice none 0 0) ∧ w' = w'' from fun w' h => by rw [hQ] at h; exact tick_off c S12 w' h.1.at_ hn12 Hp12.out)
      have HLd := Lib.hid (show ∀ w', Q w' → Calls Tryz.prog 19 #[.pointer (some ⟨c, 0, none⟩)] w' fun e w'' => e = .returned (.bool false) ∧ w' = w'' from fun w' h => by
        rw [hQ] at h
        exact (leads_any c S12 w' h.1.at_ hn12).mono (fun e w'' ⟨he, hw⟩ => ⟨by rw [he, Hp12.out]; rfl, hw⟩))
      have HAsk := Lib.hid (show ∀ w', Q w' → Calls Tryz.prog 23 #[.pointer (some ⟨c, 0, none⟩), .agg #[.int .i64 ka, .int .i64 ga, .slice aa fa.length ca]] w' fun e w'' => e = .returned (.int .i64 16) ∧ Q w'' from fun w' h => by
        have h' := h
        rw [hQ] at h
        exact (ask_off c S12 ka ga aa fa.length ca w' h.1.at_ hn12 Hp12.out).mono (fun e w'' ⟨he, hb⟩ => ⟨he, hQB _ _ h' hb⟩))
      have HAw := Lib.hid (show ∀ w', Q w' → Calls Tryz.prog 15 #[] w' fun e w'' => e = .returned (.bool true) ∧ Q w'' from fun w' h => (awake_any w').mono (fun e w'' ⟨he, hb⟩ => ⟨he, hQB _ _ h hb⟩))
      have hQ0 : Q w13.drew := by rw [hQ]; exact ⟨HS12.out.quiet HS12.out.below.size (Below.refl _ _).drew, HE12.out.drew, HX12.out.drew⟩
      have HE0 := Lib.hid (show is = true → (E != 0) = true from fun h => by rw [bne_iff_ne]; exact (HT8.out.2.2.1 h).1)
      clear hQ hQB hn12 Hn12 Hp12 HS12 HE12 HX12 HT8 HKA hwb13 Hst h2 h3 h4 e1
      cases is with
      | true =>
        have hE0 := HE0.out rfl
        clear HE0 HF
        have hc0 := HQC.out _ hQ0
        refine wp_region_noPanic ?_
        refine wp_region_held_drew (S := (fun w' => w'.cell? ⟨wb, 0, none⟩ = some (.pointer (some ⟨c, 0, none⟩)) ∧ w'.cell? ⟨qk, 0, none⟩ = some (.int .i64 ka) ∧ w'.cell? ⟨qk, 1, none⟩ = some (.int .i64 ga) ∧ w'.cell? ⟨qk, 2, none⟩ = some (.slice aa fa.length ca) ∧ w'.cell? ⟨ge, 0, none⟩ = some (.int .i64 E) ∧ w'.cell? ⟨gx, 0, none⟩ = some (.int .i64 F))) (by kernel_rfl) ?_ (fun hHeld => ?_)
        · ((try dsimp only); (first | with_reducible exact hc0 | with_reducible exact HQC.out _ (by assumption) | go_keep))
        refine held_take (i := 0) (v := ?_) rfl (by kernel_rfl) (by kernel_rfl) (by kernel_rfl) (fun _ _ _ h => h) (by rfl) (fun w hSw => ?_) (by assumption) ?_
        rotate_left
        · ((try dsimp only at hSw); go_simp; (try with_reducible rfl))
        (try simp only [Act.put, List.setIfInBounds_toArray, List.set_cons_zero, List.set_cons_succ])
        refine held_take (i := 1) (v := ?_) rfl (by kernel_rfl) (by kernel_rfl) (by kernel_rfl) (fun _ _ _ h => h) (by rfl) (fun w hSw => ?_) (by assumption) ?_
        rotate_left
        · ((try dsimp only at hSw); go_simp; (try with_reducible rfl))
        (try simp only [Act.put, List.setIfInBounds_toArray, List.set_cons_zero, List.set_cons_succ])
        refine held_take (i := 2) (v := ?_) rfl (by kernel_rfl) (by kernel_rfl) (by kernel_rfl) (fun _ _ _ h => h) (by rfl) (fun w hSw => ?_) (by assumption) ?_
        rotate_left
        · ((try dsimp only at hSw); go_simp; (try with_reducible rfl))
        (try simp only [Act.put, List.setIfInBounds_toArray, List.set_cons_zero, List.set_cons_succ])
        refine held_take (i := 3) (v := ?_) rfl (by kernel_rfl) (by kernel_rfl) (by kernel_rfl) (fun _ _ _ h => h) (by rfl) (fun w hSw => ?_) (by assumption) ?_
        rotate_left
        · ((try dsimp only at hSw); go_simp; (try with_reducible rfl))
        (try simp only [Act.put, List.setIfInBounds_toArray, List.set_cons_zero, List.set_cons_succ])
        refine held_take (i := 4) (v := ?_) rfl (by kernel_rfl) (by kernel_rfl) (by kernel_rfl) (fun _ _ _ h => h) (by rfl) (fun w hSw => ?_) (by assumption) ?_
        rotate_left
        · ((try dsimp only at hSw); go_simp; (try with_reducible rfl))
        (try simp only [Act.put, List.setIfInBounds_toArray, List.set_cons_zero, List.set_cons_succ])
        refine held_take (i := 5) (v := ?_) rfl (by kernel_rfl) (by kernel_rfl) (by kernel_rfl) (fun _ _ _ h => h) (by rfl) (fun w hSw => ?_) (by assumption) ?_
        rotate_left
        · ((try dsimp only at hSw); go_simp; (try with_reducible rfl))
        (try simp only [Act.put, List.setIfInBounds_toArray, List.set_cons_zero, List.set_cons_succ])
        refine held_take (i := 6) (v := ?_) rfl (by kernel_rfl) (by kernel_rfl) (by kernel_rfl) (fun _ _ _ h => h) (by rfl) (fun w hSw => ?_) (by assumption) ?_
        rotate_left
        · ((try dsimp only at hSw); go_simp; (try with_reducible rfl))
        (try simp only [Act.put, List.setIfInBounds_toArray, List.set_cons_zero, List.set_cons_succ])
        refine held_take (i := 7) (v := ?_) rfl (by kernel_rfl) (by kernel_rfl) (by kernel_rfl) (fun _ _ _ h => h) (by rfl) (fun w hSw => ?_) (by assumption) ?_
        rotate_left
        · ((try dsimp only at hSw); go_simp; (try with_reducible rfl))
        (try simp only [Act.put, List.setIfInBounds_toArray, List.set_cons_zero, List.set_cons_succ])
        refine held_take (i := 8) (v := ?_) rfl (by kernel_rfl) (by kernel_rfl) (by kernel_rfl) (fun _ _ _ h => h) (by rfl) (fun w hSw => ?_) (by assumption) ?_
        rotate_left
        · ((try dsimp only at hSw); go_simp; (try with_reducible rfl))
        (try simp only [Act.put, List.setIfInBounds_toArray, List.set_cons_zero, List.set_cons_succ])
        refine held_take (i := 9) (v := ?_) rfl (by kernel_rfl) (by kernel_rfl) (by kernel_rfl) (fun _ _ _ h => h) (by rfl) (fun w hSw => ?_) (by assumption) ?_
        rotate_left
        · ((try dsimp only at hSw); go_simp; (try with_reducible rfl))
        (try simp only [Act.put, List.setIfInBounds_toArray, List.set_cons_zero, List.set_cons_succ])
        refine held_take (i := 10) (v := ?_) rfl (by kernel_rfl) (by kernel_rfl) (by kernel_rfl) (fun _ _ _ h => h) (by rfl) (fun w hSw => ?_) (by assumption) ?_
        rotate_left
        · ((try dsimp only at hSw); go_simp; (try with_reducible rfl))
        (try simp only [Act.put, List.setIfInBounds_toArray, List.set_cons_zero, List.set_cons_succ])
        refine held_take (i := 11) (v := ?_) rfl (by kernel_rfl) (by kernel_rfl) (by kernel_rfl) (fun _ _ _ h => h) (by rfl) (fun w hSw => ?_) (by assumption) ?_
        rotate_left
        · ((try dsimp only at hSw); go_simp; (try with_reducible rfl))
        (try simp only [Act.put, List.setIfInBounds_toArray, List.set_cons_zero, List.set_cons_succ])
        refine held_take (i := 12) (v := ?_) rfl (by kernel_rfl) (by kernel_rfl) (by kernel_rfl) (fun _ _ _ h => h) (by rfl) (fun w hSw => ?_) (by assumption) ?_
        rotate_left
        · ((try dsimp only at hSw); go_simp; (try with_reducible rfl))
        (try simp only [Act.put, List.setIfInBounds_toArray, List.set_cons_zero, List.set_cons_succ])
        refine held_take (i := 13) (v := ?_) rfl (by kernel_rfl) (by kernel_rfl) (by kernel_rfl) (fun _ _ _ h => h) (by rfl) (fun w hSw => ?_) (by assumption) ?_
        rotate_left
        · ((try dsimp only at hSw); go_simp; (try with_reducible rfl))
        (try simp only [Act.put, List.setIfInBounds_toArray, List.set_cons_zero, List.set_cons_succ])
        refine held_skip (i := 14) rfl (by kernel_rfl) (by kernel_rfl) (by kernel_rfl) (fun _ _ _ h => h) (by first | rfl | kernel_rfl) (by assumption) ?_
        (try simp only [Act.put, List.setIfInBounds_toArray, List.set_cons_zero, List.set_cons_succ])
        refine held_skip (i := 15) rfl (by kernel_rfl) (by kernel_rfl) (by kernel_rfl) (fun _ _ _ h => h) (by first | rfl | kernel_rfl) (by assumption) ?_
        (try simp only [Act.put, List.setIfInBounds_toArray, List.set_cons_zero, List.set_cons_succ])
        refine held_skip (i := 16) rfl (by kernel_rfl) (by kernel_rfl) (by kernel_rfl) (fun _ _ _ h => h) (by first | rfl | kernel_rfl) (by assumption) ?_
        (try simp only [Act.put, List.setIfInBounds_toArray, List.set_cons_zero, List.set_cons_succ])
        refine held_skip (i := 17) rfl (by kernel_rfl) (by kernel_rfl) (by kernel_rfl) (fun _ _ _ h => h) (by first | rfl | kernel_rfl) (by assumption) ?_
        (try simp only [Act.put, List.setIfInBounds_toArray, List.set_cons_zero, List.set_cons_succ])
        refine held_skip (i := 18) rfl (by kernel_rfl) (by kernel_rfl) (by kernel_rfl) (fun _ _ _ h => h) (by first | rfl | kernel_rfl) (by assumption) ?_
        (try simp only [Act.put, List.setIfInBounds_toArray, List.set_cons_zero, List.set_cons_succ])
        refine held_skip (i := 19) rfl (by kernel_rfl) (by kernel_rfl) (by kernel_rfl) (fun _ _ _ h => h) (by first | rfl | kernel_rfl) (by assumption) ?_
        (try simp only [Act.put, List.setIfInBounds_toArray, List.set_cons_zero, List.set_cons_succ])
        refine held_skip (i := 20) rfl (by kernel_rfl) (by kernel_rfl) (by kernel_rfl) (fun _ _ _ h => h) (by first | rfl | kernel_rfl) (by assumption) ?_
        (try simp only [Act.put, List.setIfInBounds_toArray, List.set_cons_zero, List.set_cons_succ])
        refine held_skip (i := 21) rfl (by kernel_rfl) (by kernel_rfl) (by kernel_rfl) (fun _ _ _ h => h) (by first | rfl | kernel_rfl) (by assumption) ?_
        (try simp only [Act.put, List.setIfInBounds_toArray, List.set_cons_zero, List.set_cons_succ])
        refine held_skip (i := 22) rfl (by kernel_rfl) (by kernel_rfl) (by kernel_rfl) (fun _ _ _ h => h) (by first | rfl | kernel_rfl) (by assumption) ?_
        (try simp only [Act.put, List.setIfInBounds_toArray, List.set_cons_zero, List.set_cons_succ])
        refine held_skip (i := 23) rfl (by kernel_rfl) (by kernel_rfl) (by kernel_rfl) (fun _ _ _ h => h) (by first | rfl | kernel_rfl) (by assumption) ?_
        (try simp only [Act.put, List.setIfInBounds_toArray, List.set_cons_zero, List.set_cons_succ])
        refine held_take (i := 24) (v := ?_) rfl (by kernel_rfl) (by kernel_rfl) (by kernel_rfl) (fun _ _ _ h => h) (by rfl) (fun w hSw => ?_) (by assumption) ?_
        rotate_left
        · ((try dsimp only at hSw); go_simp; (try with_reducible rfl))
        (try simp only [Act.put, List.setIfInBounds_toArray, List.set_cons_zero, List.set_cons_succ])
        refine held_take (i := 25) (v := ?_) rfl (by kernel_rfl) (by kernel_rfl) (by kernel_rfl) (fun _ _ _ h => h) (by rfl) (fun w hSw => ?_) (by assumption) ?_
        rotate_left
        · ((try dsimp only at hSw); go_simp; (try with_reducible rfl))
        (try simp only [Act.put, List.setIfInBounds_toArray, List.set_cons_zero, List.set_cons_succ])
        refine held_take (i := 26) (v := ?_) rfl (by kernel_rfl) (by kernel_rfl) (by kernel_rfl) (fun _ _ _ h => h) (by rfl) (fun w hSw => ?_) (by assumption) ?_
        rotate_left
        · ((try dsimp only at hSw); go_simp; (try with_reducible rfl))
        (try simp only [Act.put, List.setIfInBounds_toArray, List.set_cons_zero, List.set_cons_succ])
        refine held_take (i := 27) (v := ?_) rfl (by kernel_rfl) (by kernel_rfl) (by kernel_rfl) (fun _ _ _ h => h) (by rfl) (fun w hSw => ?_) (by assumption) ?_
        rotate_left
        · ((try dsimp only at hSw); go_simp; (try with_reducible rfl))
        (try simp only [Act.put, List.setIfInBounds_toArray, List.set_cons_zero, List.set_cons_succ])
        refine held_take (i := 28) (v := ?_) rfl (by kernel_rfl) (by kernel_rfl) (by kernel_rfl) (fun _ _ _ h => h) (by rfl) (fun w hSw => ?_) (by assumption) ?_
        rotate_left
        · ((try dsimp only at hSw); go_simp; (try with_reducible rfl))
        (try simp only [Act.put, List.setIfInBounds_toArray, List.set_cons_zero, List.set_cons_succ])
        refine held_take (i := 29) (v := ?_) rfl (by kernel_rfl) (by kernel_rfl) (by kernel_rfl) (fun _ _ _ h => h) (by rfl) (fun w hSw => ?_) (by assumption) ?_
        rotate_left
        · ((try dsimp only at hSw); go_simp; (try with_reducible rfl))
        (try simp only [Act.put, List.setIfInBounds_toArray, List.set_cons_zero, List.set_cons_succ])
        refine held_take (i := 30) (v := ?_) rfl (by kernel_rfl) (by kernel_rfl) (by kernel_rfl) (fun _ _ _ h => h) (by rfl) (fun w hSw => ?_) (by assumption) ?_
        rotate_left
        · ((try dsimp only at hSw); go_simp; (try with_reducible rfl))
        (try simp only [Act.put, List.setIfInBounds_toArray, List.set_cons_zero, List.set_cons_succ])
        refine wpAnyH_ready (rs := [31]) (by kernel_rfl) (by simp) ?_
        refine held_cons rfl (fun K hK => ?_) (AllReadyH.nil)
        go_simp
        ((first
            | (go_at_call 24; refine (HTick.out _ (by assumption)).mono ?_; rintro e wt ⟨rfl, rfl⟩)
            | (go_at_call 19; refine (HLd.out _ (by assumption)).mono ?_; rintro e wt ⟨rfl, rfl⟩)
            | (go_at_call 23; refine (HAsk.out _ (by assumption)).mono ?_; rintro e wt ⟨rfl, hQt⟩)
            | (go_at_call 15; refine (HAw.out _ (by assumption)).mono ?_; rintro e wu ⟨rfl, hQu⟩)))
        go_wp2_with fail
        refine hK.out _ _ ?_ (fun hHeld => ?_)
        · ((try dsimp only); (first | with_reducible exact hc0 | with_reducible exact HQC.out _ (by assumption) | go_keep))
        clear hK K
        (try simp only [Act.put, List.setIfInBounds_toArray, List.set_cons_zero, List.set_cons_succ])
        refine held_take (i := 32) (v := ?_) rfl (by kernel_rfl) (by kernel_rfl) (by kernel_rfl) (fun _ _ _ h => h) (by rfl) (fun w hSw => ?_) (by assumption) ?_
        rotate_left
        · ((try dsimp only at hSw); go_simp; (try with_reducible rfl))
        (try simp only [Act.put, List.setIfInBounds_toArray, List.set_cons_zero, List.set_cons_succ])
        refine held_take (i := 33) (v := ?_) rfl (by kernel_rfl) (by kernel_rfl) (by kernel_rfl) (fun _ _ _ h => h) (by rfl) (fun w hSw => ?_) (by assumption) ?_
        rotate_left
        · ((try dsimp only at hSw); go_simp; (try with_reducible rfl))
        (try simp only [Act.put, List.setIfInBounds_toArray, List.set_cons_zero, List.set_cons_succ])
        refine held_take (i := 34) (v := ?_) rfl (by kernel_rfl) (by kernel_rfl) (by kernel_rfl) (fun _ _ _ h => h) (by rfl) (fun w hSw => ?_) (by assumption) ?_
        rotate_left
        · ((try dsimp only at hSw); go_simp; (try with_reducible rfl))
        (try simp only [Act.put, List.setIfInBounds_toArray, List.set_cons_zero, List.set_cons_succ])
        refine held_take (i := 35) (v := ?_) rfl (by kernel_rfl) (by kernel_rfl) (by kernel_rfl) (fun _ _ _ h => h) (by rfl) (fun w hSw => ?_) (by assumption) ?_
        rotate_left
        · ((try dsimp only at hSw); go_simp; (try with_reducible rfl))
        (try simp only [Act.put, List.setIfInBounds_toArray, List.set_cons_zero, List.set_cons_succ])
        refine held_take (i := 36) (v := ?_) rfl (by kernel_rfl) (by kernel_rfl) (by kernel_rfl) (fun _ _ _ h => h) (by rfl) (fun w hSw => ?_) (by assumption) ?_
        rotate_left
        · ((try dsimp only at hSw); go_simp; (try with_reducible rfl))
        (try simp only [Act.put, List.setIfInBounds_toArray, List.set_cons_zero, List.set_cons_succ])
        refine held_take (i := 37) (v := ?_) rfl (by kernel_rfl) (by kernel_rfl) (by kernel_rfl) (fun _ _ _ h => h) (by rfl) (fun w hSw => ?_) (by assumption) ?_
        rotate_left
        · ((try dsimp only at hSw); go_simp; (try with_reducible rfl))
        (try simp only [Act.put, List.setIfInBounds_toArray, List.set_cons_zero, List.set_cons_succ])
        refine held_take (i := 38) (v := ?_) rfl (by kernel_rfl) (by kernel_rfl) (by kernel_rfl) (fun _ _ _ h => h) (by rfl) (fun w hSw => ?_) (by assumption) ?_
        rotate_left
        · ((try dsimp only at hSw); go_simp; (try with_reducible rfl))
        (try simp only [Act.put, List.setIfInBounds_toArray, List.set_cons_zero, List.set_cons_succ])
        refine held_take (i := 39) (v := ?_) rfl (by kernel_rfl) (by kernel_rfl) (by kernel_rfl) (fun _ _ _ h => h) (by rfl) (fun w hSw => ?_) (by assumption) ?_
        rotate_left
        · ((try dsimp only at hSw); go_simp; (try with_reducible rfl))
        (try simp only [Act.put, List.setIfInBounds_toArray, List.set_cons_zero, List.set_cons_succ])
        refine held_take (i := 40) (v := ?_) rfl (by kernel_rfl) (by kernel_rfl) (by kernel_rfl) (fun _ _ _ h => h) (by rfl) (fun w hSw => ?_) (by assumption) ?_
        rotate_left
        · ((try dsimp only at hSw); go_simp; (try with_reducible rfl))
        (try simp only [Act.put, List.setIfInBounds_toArray, List.set_cons_zero, List.set_cons_succ])
        refine wpAnyH_ready (rs := [41]) (by kernel_rfl) (by simp) ?_
        refine held_cons rfl (fun K hK => ?_) (AllReadyH.nil)
        go_simp
        ((first
            | (go_at_call 24; refine (HTick.out _ (by assumption)).mono ?_; rintro e wt ⟨rfl, rfl⟩)
            | (go_at_call 19; refine (HLd.out _ (by assumption)).mono ?_; rintro e wt ⟨rfl, rfl⟩)
            | (go_at_call 23; refine (HAsk.out _ (by assumption)).mono ?_; rintro e wt ⟨rfl, hQt⟩)
            | (go_at_call 15; refine (HAw.out _ (by assumption)).mono ?_; rintro e wu ⟨rfl, hQu⟩)))
        go_wp2_with fail
        refine hK.out _ _ ?_ (fun hHeld => ?_)
        · ((try dsimp only); (first | with_reducible exact hc0 | with_reducible exact HQC.out _ (by assumption) | go_keep))
        clear hK K
        (try simp only [Act.put, List.setIfInBounds_toArray, List.set_cons_zero, List.set_cons_succ])
        refine held_take (i := 42) (v := ?_) rfl (by kernel_rfl) (by kernel_rfl) (by kernel_rfl) (fun _ _ _ h => h) (by rfl) (fun w hSw => ?_) (by assumption) ?_
        rotate_left
        · ((try dsimp only at hSw); go_simp; (try with_reducible rfl))
        (try simp only [Act.put, List.setIfInBounds_toArray, List.set_cons_zero, List.set_cons_succ])
        refine held_take (i := 43) (v := ?_) rfl (by kernel_rfl) (by kernel_rfl) (by kernel_rfl) (fun _ _ _ h => h) (by rfl) (fun w hSw => ?_) (by assumption) ?_
        rotate_left
        · ((try dsimp only at hSw); go_simp; (try with_reducible rfl))
        (try simp only [Act.put, List.setIfInBounds_toArray, List.set_cons_zero, List.set_cons_succ])
        refine held_take (i := 44) (v := ?_) rfl (by kernel_rfl) (by kernel_rfl) (by kernel_rfl) (fun _ _ _ h => h) (by rfl) (fun w hSw => ?_) (by assumption) ?_
        rotate_left
        · ((try dsimp only at hSw); go_simp; (try with_reducible rfl))
        (try simp only [Act.put, List.setIfInBounds_toArray, List.set_cons_zero, List.set_cons_succ])
        refine held_take (i := 45) (v := ?_) rfl (by kernel_rfl) (by kernel_rfl) (by kernel_rfl) (fun _ _ _ h => h) (by rfl) (fun w hSw => ?_) (by assumption) ?_
        rotate_left
        · ((try dsimp only at hSw); go_simp; (try with_reducible rfl))
        (try simp only [Act.put, List.setIfInBounds_toArray, List.set_cons_zero, List.set_cons_succ])
        refine held_take (i := 46) (v := ?_) rfl (by kernel_rfl) (by kernel_rfl) (by kernel_rfl) (fun _ _ _ h => h) (by rfl) (fun w hSw => ?_) (by assumption) ?_
        rotate_left
        · ((try dsimp only at hSw); go_simp; (try with_reducible rfl))
        (try simp only [Act.put, List.setIfInBounds_toArray, List.set_cons_zero, List.set_cons_succ])
        refine held_take (i := 47) (v := ?_) rfl (by kernel_rfl) (by kernel_rfl) (by kernel_rfl) (fun _ _ _ h => h) (by rfl) (fun w hSw => ?_) (by assumption) ?_
        rotate_left
        · ((try dsimp only at hSw); go_simp; (try with_reducible rfl))
        (try simp only [Act.put, List.setIfInBounds_toArray, List.set_cons_zero, List.set_cons_succ])
        refine held_take (i := 48) (v := ?_) rfl (by kernel_rfl) (by kernel_rfl) (by kernel_rfl) (fun _ _ _ h => h) (by rfl) (fun w hSw => ?_) (by assumption) ?_
        rotate_left
        · ((try dsimp only at hSw); go_simp; (try with_reducible rfl))
        (try simp only [Act.put, List.setIfInBounds_toArray, List.set_cons_zero, List.set_cons_succ])
        refine wpAnyH_ready (rs := [49]) (by kernel_rfl) (by simp) ?_
        refine held_cons rfl (fun K hK => ?_) (AllReadyH.nil)
        go_simp
        ((first
            | (go_at_call 24; refine (HTick.out _ (by assumption)).mono ?_; rintro e wt ⟨rfl, rfl⟩)
            | (go_at_call 19; refine (HLd.out _ (by assumption)).mono ?_; rintro e wt ⟨rfl, rfl⟩)
            | (go_at_call 23; refine (HAsk.out _ (by assumption)).mono ?_; rintro e wt ⟨rfl, hQt⟩)
            | (go_at_call 15; refine (HAw.out _ (by assumption)).mono ?_; rintro e wu ⟨rfl, hQu⟩)))
        go_wp2_with fail
        refine hK.out _ _ ?_ (fun hHeld => ?_)
        · ((try dsimp only); (first | with_reducible exact hc0 | with_reducible exact HQC.out _ (by assumption) | go_keep))
        clear hK K
        (try simp only [Act.put, List.setIfInBounds_toArray, List.set_cons_zero, List.set_cons_succ])
        refine held_take (i := 50) (v := ?_) rfl (by kernel_rfl) (by kernel_rfl) (by kernel_rfl) (fun _ _ _ h => h) (by rfl) (fun w hSw => ?_) (by assumption) ?_
        rotate_left
        · ((try dsimp only at hSw); go_simp; (try with_reducible rfl))
        (try simp only [Act.put, List.setIfInBounds_toArray, List.set_cons_zero, List.set_cons_succ])
        refine held_take (i := 51) (v := ?_) rfl (by kernel_rfl) (by kernel_rfl) (by kernel_rfl) (fun _ _ _ h => h) (by rfl) (fun w hSw => ?_) (by assumption) ?_
        rotate_left
        · ((try dsimp only at hSw); go_simp; (try with_reducible rfl))
        (try simp only [Act.put, List.setIfInBounds_toArray, List.set_cons_zero, List.set_cons_succ])
        refine held_take (i := 52) (v := ?_) rfl (by kernel_rfl) (by kernel_rfl) (by kernel_rfl) (fun _ _ _ h => h) (by rfl) (fun w hSw => ?_) (by assumption) ?_
        rotate_left
        · ((try dsimp only at hSw); go_simp; (try with_reducible rfl))
        (try simp only [Act.put, List.setIfInBounds_toArray, List.set_cons_zero, List.set_cons_succ])
        refine wpAnyH_ready (rs := [53]) (by kernel_rfl) (by simp) ?_
        refine held_cons rfl (fun K hK => ?_) (AllReadyH.nil)
        go_simp
        ((first
            | (go_at_call 24; refine (HTick.out _ (by assumption)).mono ?_; rintro e wt ⟨rfl, rfl⟩)
            | (go_at_call 19; refine (HLd.out _ (by assumption)).mono ?_; rintro e wt ⟨rfl, rfl⟩)
            | (go_at_call 23; refine (HAsk.out _ (by assumption)).mono ?_; rintro e wt ⟨rfl, hQt⟩)
            | (go_at_call 15; refine (HAw.out _ (by assumption)).mono ?_; rintro e wu ⟨rfl, hQu⟩)))
        go_wp2_with fail
        refine hK.out _ _ ?_ (fun hHeld => ?_)
        · ((try dsimp only); (first | with_reducible exact hc0 | with_reducible exact HQC.out _ (by assumption) | go_keep))
        clear hK K
        (try simp only [Act.put, List.setIfInBounds_toArray, List.set_cons_zero, List.set_cons_succ])
        refine held_take (i := 54) (v := ?_) rfl (by kernel_rfl) (by kernel_rfl) (by kernel_rfl) (fun _ _ _ h => h) (by rfl) (fun w hSw => ?_) (by assumption) ?_
        rotate_left
        · ((try dsimp only at hSw); go_simp; (try with_reducible rfl))
        (try simp only [Act.put, List.setIfInBounds_toArray, List.set_cons_zero, List.set_cons_succ])
        refine held_take (i := 55) (v := ?_) rfl (by kernel_rfl) (by kernel_rfl) (by kernel_rfl) (fun _ _ _ h => h) (by rfl) (fun w hSw => ?_) (by assumption) ?_
        rotate_left
        · ((try dsimp only at hSw); go_simp; (try with_reducible rfl))
        (try simp only [Act.put, List.setIfInBounds_toArray, List.set_cons_zero, List.set_cons_succ])
        refine wpAnyH_done (by kernel_rfl) ?_ _
        all_goals (refine NoPanic.normal ?_)
        have HF9 := Lib.hid (HQw.out _ hQu)
        go_wp2_with fail
        go_ret
        exact ⟨rfl, HF9.out⟩
      | false =>
        obtain rfl := HF.out rfl
        clear HE0 HF
        have hc0 := HQC.out _ hQ0
        refine wp_region_noPanic ?_
        refine wp_region_held_drew (S := (fun w' => w'.cell? ⟨wb, 0, none⟩ = some (.pointer (some ⟨c, 0, none⟩)) ∧ w'.cell? ⟨qk, 0, none⟩ = some (.int .i64 ka) ∧ w'.cell? ⟨qk, 1, none⟩ = some (.int .i64 ga) ∧ w'.cell? ⟨qk, 2, none⟩ = some (.slice aa fa.length ca) ∧ w'.cell? ⟨ge, 0, none⟩ = some (.int .i64 E) ∧ w'.cell? ⟨gx, 0, none⟩ = some (.int .i64 16))) (by kernel_rfl) ?_ (fun hHeld => ?_)
        · ((try dsimp only); (first | with_reducible exact hc0 | with_reducible exact HQC.out _ (by assumption) | go_keep))
        refine held_take (i := 0) (v := ?_) rfl (by kernel_rfl) (by kernel_rfl) (by kernel_rfl) (fun _ _ _ h => h) (by rfl) (fun w hSw => ?_) (by assumption) ?_
        rotate_left
        · ((try dsimp only at hSw); go_simp; (try with_reducible rfl))
        (try simp only [Act.put, List.setIfInBounds_toArray, List.set_cons_zero, List.set_cons_succ])
        refine held_take (i := 1) (v := ?_) rfl (by kernel_rfl) (by kernel_rfl) (by kernel_rfl) (fun _ _ _ h => h) (by rfl) (fun w hSw => ?_) (by assumption) ?_
        rotate_left
        · ((try dsimp only at hSw); go_simp; (try with_reducible rfl))
        (try simp only [Act.put, List.setIfInBounds_toArray, List.set_cons_zero, List.set_cons_succ])
        refine held_take (i := 2) (v := ?_) rfl (by kernel_rfl) (by kernel_rfl) (by kernel_rfl) (fun _ _ _ h => h) (by rfl) (fun w hSw => ?_) (by assumption) ?_
        rotate_left
        · ((try dsimp only at hSw); go_simp; (try with_reducible rfl))
        (try simp only [Act.put, List.setIfInBounds_toArray, List.set_cons_zero, List.set_cons_succ])
        refine held_take (i := 3) (v := ?_) rfl (by kernel_rfl) (by kernel_rfl) (by kernel_rfl) (fun _ _ _ h => h) (by rfl) (fun w hSw => ?_) (by assumption) ?_
        rotate_left
        · ((try dsimp only at hSw); go_simp; (try with_reducible rfl))
        (try simp only [Act.put, List.setIfInBounds_toArray, List.set_cons_zero, List.set_cons_succ])
        refine held_take (i := 4) (v := ?_) rfl (by kernel_rfl) (by kernel_rfl) (by kernel_rfl) (fun _ _ _ h => h) (by rfl) (fun w hSw => ?_) (by assumption) ?_
        rotate_left
        · ((try dsimp only at hSw); go_simp; (try with_reducible rfl))
        (try simp only [Act.put, List.setIfInBounds_toArray, List.set_cons_zero, List.set_cons_succ])
        refine held_skip (i := 5) rfl (by kernel_rfl) (by kernel_rfl) (by kernel_rfl) (fun _ _ _ h => h) (by first | rfl | kernel_rfl) (by assumption) ?_
        (try simp only [Act.put, List.setIfInBounds_toArray, List.set_cons_zero, List.set_cons_succ])
        refine held_skip (i := 6) rfl (by kernel_rfl) (by kernel_rfl) (by kernel_rfl) (fun _ _ _ h => h) (by first | rfl | kernel_rfl) (by assumption) ?_
        (try simp only [Act.put, List.setIfInBounds_toArray, List.set_cons_zero, List.set_cons_succ])
        refine held_skip (i := 7) rfl (by kernel_rfl) (by kernel_rfl) (by kernel_rfl) (fun _ _ _ h => h) (by first | rfl | kernel_rfl) (by assumption) ?_
        (try simp only [Act.put, List.setIfInBounds_toArray, List.set_cons_zero, List.set_cons_succ])
        refine held_take (i := 8) (v := ?_) rfl (by kernel_rfl) (by kernel_rfl) (by kernel_rfl) (fun _ _ _ h => h) (by rfl) (fun w hSw => ?_) (by assumption) ?_
        rotate_left
        · ((try dsimp only at hSw); go_simp; (try with_reducible rfl))
        (try simp only [Act.put, List.setIfInBounds_toArray, List.set_cons_zero, List.set_cons_succ])
        refine held_take (i := 9) (v := ?_) rfl (by kernel_rfl) (by kernel_rfl) (by kernel_rfl) (fun _ _ _ h => h) (by rfl) (fun w hSw => ?_) (by assumption) ?_
        rotate_left
        · ((try dsimp only at hSw); go_simp; (try with_reducible rfl))
        (try simp only [Act.put, List.setIfInBounds_toArray, List.set_cons_zero, List.set_cons_succ])
        refine held_skip (i := 10) rfl (by kernel_rfl) (by kernel_rfl) (by kernel_rfl) (fun _ _ _ h => h) (by first | rfl | kernel_rfl) (by assumption) ?_
        (try simp only [Act.put, List.setIfInBounds_toArray, List.set_cons_zero, List.set_cons_succ])
        refine held_skip (i := 11) rfl (by kernel_rfl) (by kernel_rfl) (by kernel_rfl) (fun _ _ _ h => h) (by first | rfl | kernel_rfl) (by assumption) ?_
        (try simp only [Act.put, List.setIfInBounds_toArray, List.set_cons_zero, List.set_cons_succ])
        refine held_take (i := 12) (v := ?_) rfl (by kernel_rfl) (by kernel_rfl) (by kernel_rfl) (fun _ _ _ h => h) (by rfl) (fun w hSw => ?_) (by assumption) ?_
        rotate_left
        · ((try dsimp only at hSw); go_simp; (try with_reducible rfl))
        (try simp only [Act.put, List.setIfInBounds_toArray, List.set_cons_zero, List.set_cons_succ])
        refine held_take (i := 13) (v := ?_) rfl (by kernel_rfl) (by kernel_rfl) (by kernel_rfl) (fun _ _ _ h => h) (by rfl) (fun w hSw => ?_) (by assumption) ?_
        rotate_left
        · ((try dsimp only at hSw); go_simp; (try with_reducible rfl))
        (try simp only [Act.put, List.setIfInBounds_toArray, List.set_cons_zero, List.set_cons_succ])
        refine held_take (i := 14) (v := ?_) rfl (by kernel_rfl) (by kernel_rfl) (by kernel_rfl) (fun _ _ _ h => h) (by rfl) (fun w hSw => ?_) (by assumption) ?_
        rotate_left
        · ((try dsimp only at hSw); go_simp; (try with_reducible rfl))
        (try simp only [Act.put, List.setIfInBounds_toArray, List.set_cons_zero, List.set_cons_succ])
        refine held_take (i := 15) (v := ?_) rfl (by kernel_rfl) (by kernel_rfl) (by kernel_rfl) (fun _ _ _ h => h) (by rfl) (fun w hSw => ?_) (by assumption) ?_
        rotate_left
        · ((try dsimp only at hSw); go_simp; (try with_reducible rfl))
        (try simp only [Act.put, List.setIfInBounds_toArray, List.set_cons_zero, List.set_cons_succ])
        refine held_take (i := 16) (v := ?_) rfl (by kernel_rfl) (by kernel_rfl) (by kernel_rfl) (fun _ _ _ h => h) (by rfl) (fun w hSw => ?_) (by assumption) ?_
        rotate_left
        · ((try dsimp only at hSw); go_simp; (try with_reducible rfl))
        (try simp only [Act.put, List.setIfInBounds_toArray, List.set_cons_zero, List.set_cons_succ])
        refine held_take (i := 17) (v := ?_) rfl (by kernel_rfl) (by kernel_rfl) (by kernel_rfl) (fun _ _ _ h => h) (by rfl) (fun w hSw => ?_) (by assumption) ?_
        rotate_left
        · ((try dsimp only at hSw); go_simp; (try with_reducible rfl))
        (try simp only [Act.put, List.setIfInBounds_toArray, List.set_cons_zero, List.set_cons_succ])
        refine held_take (i := 18) (v := ?_) rfl (by kernel_rfl) (by kernel_rfl) (by kernel_rfl) (fun _ _ _ h => h) (by rfl) (fun w hSw => ?_) (by assumption) ?_
        rotate_left
        · ((try dsimp only at hSw); go_simp; (try with_reducible rfl))
        (try simp only [Act.put, List.setIfInBounds_toArray, List.set_cons_zero, List.set_cons_succ])
        refine held_take (i := 19) (v := ?_) rfl (by kernel_rfl) (by kernel_rfl) (by kernel_rfl) (fun _ _ _ h => h) (by rfl) (fun w hSw => ?_) (by assumption) ?_
        rotate_left
        · ((try dsimp only at hSw); go_simp; (try with_reducible rfl))
        (try simp only [Act.put, List.setIfInBounds_toArray, List.set_cons_zero, List.set_cons_succ])
        refine held_take (i := 20) (v := ?_) rfl (by kernel_rfl) (by kernel_rfl) (by kernel_rfl) (fun _ _ _ h => h) (by rfl) (fun w hSw => ?_) (by assumption) ?_
        rotate_left
        · ((try dsimp only at hSw); go_simp; (try with_reducible rfl))
        (try simp only [Act.put, List.setIfInBounds_toArray, List.set_cons_zero, List.set_cons_succ])
        refine held_take (i := 21) (v := ?_) rfl (by kernel_rfl) (by kernel_rfl) (by kernel_rfl) (fun _ _ _ h => h) (by rfl) (fun w hSw => ?_) (by assumption) ?_
        rotate_left
        · ((try dsimp only at hSw); go_simp; (try with_reducible rfl))
        (try simp only [Act.put, List.setIfInBounds_toArray, List.set_cons_zero, List.set_cons_succ])
        refine held_take (i := 22) (v := ?_) rfl (by kernel_rfl) (by kernel_rfl) (by kernel_rfl) (fun _ _ _ h => h) (by rfl) (fun w hSw => ?_) (by assumption) ?_
        rotate_left
        · ((try dsimp only at hSw); go_simp; (try with_reducible rfl))
        (try simp only [Act.put, List.setIfInBounds_toArray, List.set_cons_zero, List.set_cons_succ])
        refine held_take (i := 23) (v := ?_) rfl (by kernel_rfl) (by kernel_rfl) (by kernel_rfl) (fun _ _ _ h => h) (by rfl) (fun w hSw => ?_) (by assumption) ?_
        rotate_left
        · ((try dsimp only at hSw); go_simp; (try with_reducible rfl))
        (try simp only [Act.put, List.setIfInBounds_toArray, List.set_cons_zero, List.set_cons_succ])
        refine held_take (i := 24) (v := ?_) rfl (by kernel_rfl) (by kernel_rfl) (by kernel_rfl) (fun _ _ _ h => h) (by rfl) (fun w hSw => ?_) (by assumption) ?_
        rotate_left
        · ((try dsimp only at hSw); go_simp; (try with_reducible rfl))
        (try simp only [Act.put, List.setIfInBounds_toArray, List.set_cons_zero, List.set_cons_succ])
        refine held_take (i := 25) (v := ?_) rfl (by kernel_rfl) (by kernel_rfl) (by kernel_rfl) (fun _ _ _ h => h) (by rfl) (fun w hSw => ?_) (by assumption) ?_
        rotate_left
        · ((try dsimp only at hSw); go_simp; (try with_reducible rfl))
        (try simp only [Act.put, List.setIfInBounds_toArray, List.set_cons_zero, List.set_cons_succ])
        refine held_take (i := 26) (v := ?_) rfl (by kernel_rfl) (by kernel_rfl) (by kernel_rfl) (fun _ _ _ h => h) (by rfl) (fun w hSw => ?_) (by assumption) ?_
        rotate_left
        · ((try dsimp only at hSw); go_simp; (try with_reducible rfl))
        (try simp only [Act.put, List.setIfInBounds_toArray, List.set_cons_zero, List.set_cons_succ])
        refine held_take (i := 27) (v := ?_) rfl (by kernel_rfl) (by kernel_rfl) (by kernel_rfl) (fun _ _ _ h => h) (by rfl) (fun w hSw => ?_) (by assumption) ?_
        rotate_left
        · ((try dsimp only at hSw); go_simp; (try with_reducible rfl))
        (try simp only [Act.put, List.setIfInBounds_toArray, List.set_cons_zero, List.set_cons_succ])
        refine held_take (i := 28) (v := ?_) rfl (by kernel_rfl) (by kernel_rfl) (by kernel_rfl) (fun _ _ _ h => h) (by rfl) (fun w hSw => ?_) (by assumption) ?_
        rotate_left
        · ((try dsimp only at hSw); go_simp; (try with_reducible rfl))
        (try simp only [Act.put, List.setIfInBounds_toArray, List.set_cons_zero, List.set_cons_succ])
        refine held_take (i := 29) (v := ?_) rfl (by kernel_rfl) (by kernel_rfl) (by kernel_rfl) (fun _ _ _ h => h) (by rfl) (fun w hSw => ?_) (by assumption) ?_
        rotate_left
        · ((try dsimp only at hSw); go_simp; (try with_reducible rfl))
        (try simp only [Act.put, List.setIfInBounds_toArray, List.set_cons_zero, List.set_cons_succ])
        refine held_take (i := 30) (v := ?_) rfl (by kernel_rfl) (by kernel_rfl) (by kernel_rfl) (fun _ _ _ h => h) (by rfl) (fun w hSw => ?_) (by assumption) ?_
        rotate_left
        · ((try dsimp only at hSw); go_simp; (try with_reducible rfl))
        (try simp only [Act.put, List.setIfInBounds_toArray, List.set_cons_zero, List.set_cons_succ])
        refine wpAnyH_ready (rs := [31]) (by kernel_rfl) (by simp) ?_
        refine held_cons rfl (fun K hK => ?_) (AllReadyH.nil)
        go_simp
        ((first
            | (go_at_call 24; refine (HTick.out _ (by assumption)).mono ?_; rintro e wt ⟨rfl, rfl⟩)
            | (go_at_call 19; refine (HLd.out _ (by assumption)).mono ?_; rintro e wt ⟨rfl, rfl⟩)
            | (go_at_call 23; refine (HAsk.out _ (by assumption)).mono ?_; rintro e wt ⟨rfl, hQt⟩)
            | (go_at_call 15; refine (HAw.out _ (by assumption)).mono ?_; rintro e wu ⟨rfl, hQu⟩)))
        go_wp2_with fail
        refine hK.out _ _ ?_ (fun hHeld => ?_)
        · ((try dsimp only); (first | with_reducible exact hc0 | with_reducible exact HQC.out _ (by assumption) | go_keep))
        clear hK K
        (try simp only [Act.put, List.setIfInBounds_toArray, List.set_cons_zero, List.set_cons_succ])
        refine held_take (i := 32) (v := ?_) rfl (by kernel_rfl) (by kernel_rfl) (by kernel_rfl) (fun _ _ _ h => h) (by rfl) (fun w hSw => ?_) (by assumption) ?_
        rotate_left
        · ((try dsimp only at hSw); go_simp; (try with_reducible rfl))
        (try simp only [Act.put, List.setIfInBounds_toArray, List.set_cons_zero, List.set_cons_succ])
        refine held_take (i := 33) (v := ?_) rfl (by kernel_rfl) (by kernel_rfl) (by kernel_rfl) (fun _ _ _ h => h) (by rfl) (fun w hSw => ?_) (by assumption) ?_
        rotate_left
        · ((try dsimp only at hSw); go_simp; (try with_reducible rfl))
        (try simp only [Act.put, List.setIfInBounds_toArray, List.set_cons_zero, List.set_cons_succ])
        refine held_take (i := 34) (v := ?_) rfl (by kernel_rfl) (by kernel_rfl) (by kernel_rfl) (fun _ _ _ h => h) (by rfl) (fun w hSw => ?_) (by assumption) ?_
        rotate_left
        · ((try dsimp only at hSw); go_simp; (try with_reducible rfl))
        (try simp only [Act.put, List.setIfInBounds_toArray, List.set_cons_zero, List.set_cons_succ])
        refine held_take (i := 35) (v := ?_) rfl (by kernel_rfl) (by kernel_rfl) (by kernel_rfl) (fun _ _ _ h => h) (by rfl) (fun w hSw => ?_) (by assumption) ?_
        rotate_left
        · ((try dsimp only at hSw); go_simp; (try with_reducible rfl))
        (try simp only [Act.put, List.setIfInBounds_toArray, List.set_cons_zero, List.set_cons_succ])
        refine held_take (i := 36) (v := ?_) rfl (by kernel_rfl) (by kernel_rfl) (by kernel_rfl) (fun _ _ _ h => h) (by rfl) (fun w hSw => ?_) (by assumption) ?_
        rotate_left
        · ((try dsimp only at hSw); go_simp; (try with_reducible rfl))
        (try simp only [Act.put, List.setIfInBounds_toArray, List.set_cons_zero, List.set_cons_succ])
        refine held_take (i := 37) (v := ?_) rfl (by kernel_rfl) (by kernel_rfl) (by kernel_rfl) (fun _ _ _ h => h) (by rfl) (fun w hSw => ?_) (by assumption) ?_
        rotate_left
        · ((try dsimp only at hSw); go_simp; (try with_reducible rfl))
        (try simp only [Act.put, List.setIfInBounds_toArray, List.set_cons_zero, List.set_cons_succ])
        refine held_take (i := 38) (v := ?_) rfl (by kernel_rfl) (by kernel_rfl) (by kernel_rfl) (fun _ _ _ h => h) (by rfl) (fun w hSw => ?_) (by assumption) ?_
        rotate_left
        · ((try dsimp only at hSw); go_simp; (try with_reducible rfl))
        (try simp only [Act.put, List.setIfInBounds_toArray, List.set_cons_zero, List.set_cons_succ])
        refine held_take (i := 39) (v := ?_) rfl (by kernel_rfl) (by kernel_rfl) (by kernel_rfl) (fun _ _ _ h => h) (by rfl) (fun w hSw => ?_) (by assumption) ?_
        rotate_left
        · ((try dsimp only at hSw); go_simp; (try with_reducible rfl))
        (try simp only [Act.put, List.setIfInBounds_toArray, List.set_cons_zero, List.set_cons_succ])
        refine held_take (i := 40) (v := ?_) rfl (by kernel_rfl) (by kernel_rfl) (by kernel_rfl) (fun _ _ _ h => h) (by rfl) (fun w hSw => ?_) (by assumption) ?_
        rotate_left
        · ((try dsimp only at hSw); go_simp; (try with_reducible rfl))
        (try simp only [Act.put, List.setIfInBounds_toArray, List.set_cons_zero, List.set_cons_succ])
        refine wpAnyH_ready (rs := [41]) (by kernel_rfl) (by simp) ?_
        refine held_cons rfl (fun K hK => ?_) (AllReadyH.nil)
        go_simp
        ((first
            | (go_at_call 24; refine (HTick.out _ (by assumption)).mono ?_; rintro e wt ⟨rfl, rfl⟩)
            | (go_at_call 19; refine (HLd.out _ (by assumption)).mono ?_; rintro e wt ⟨rfl, rfl⟩)
            | (go_at_call 23; refine (HAsk.out _ (by assumption)).mono ?_; rintro e wt ⟨rfl, hQt⟩)
            | (go_at_call 15; refine (HAw.out _ (by assumption)).mono ?_; rintro e wu ⟨rfl, hQu⟩)))
        go_wp2_with fail
        refine hK.out _ _ ?_ (fun hHeld => ?_)
        · ((try dsimp only); (first | with_reducible exact hc0 | with_reducible exact HQC.out _ (by assumption) | go_keep))
        clear hK K
        (try simp only [Act.put, List.setIfInBounds_toArray, List.set_cons_zero, List.set_cons_succ])
        refine held_take (i := 42) (v := ?_) rfl (by kernel_rfl) (by kernel_rfl) (by kernel_rfl) (fun _ _ _ h => h) (by rfl) (fun w hSw => ?_) (by assumption) ?_
        rotate_left
        · ((try dsimp only at hSw); go_simp; (try with_reducible rfl))
        (try simp only [Act.put, List.setIfInBounds_toArray, List.set_cons_zero, List.set_cons_succ])
        refine held_take (i := 43) (v := ?_) rfl (by kernel_rfl) (by kernel_rfl) (by kernel_rfl) (fun _ _ _ h => h) (by rfl) (fun w hSw => ?_) (by assumption) ?_
        rotate_left
        · ((try dsimp only at hSw); go_simp; (try with_reducible rfl))
        (try simp only [Act.put, List.setIfInBounds_toArray, List.set_cons_zero, List.set_cons_succ])
        refine held_take (i := 44) (v := ?_) rfl (by kernel_rfl) (by kernel_rfl) (by kernel_rfl) (fun _ _ _ h => h) (by rfl) (fun w hSw => ?_) (by assumption) ?_
        rotate_left
        · ((try dsimp only at hSw); go_simp; (try with_reducible rfl))
        (try simp only [Act.put, List.setIfInBounds_toArray, List.set_cons_zero, List.set_cons_succ])
        refine held_take (i := 45) (v := ?_) rfl (by kernel_rfl) (by kernel_rfl) (by kernel_rfl) (fun _ _ _ h => h) (by rfl) (fun w hSw => ?_) (by assumption) ?_
        rotate_left
        · ((try dsimp only at hSw); go_simp; (try with_reducible rfl))
        (try simp only [Act.put, List.setIfInBounds_toArray, List.set_cons_zero, List.set_cons_succ])
        refine held_take (i := 46) (v := ?_) rfl (by kernel_rfl) (by kernel_rfl) (by kernel_rfl) (fun _ _ _ h => h) (by rfl) (fun w hSw => ?_) (by assumption) ?_
        rotate_left
        · ((try dsimp only at hSw); go_simp; (try with_reducible rfl))
        (try simp only [Act.put, List.setIfInBounds_toArray, List.set_cons_zero, List.set_cons_succ])
        refine held_take (i := 47) (v := ?_) rfl (by kernel_rfl) (by kernel_rfl) (by kernel_rfl) (fun _ _ _ h => h) (by rfl) (fun w hSw => ?_) (by assumption) ?_
        rotate_left
        · ((try dsimp only at hSw); go_simp; (try with_reducible rfl))
        (try simp only [Act.put, List.setIfInBounds_toArray, List.set_cons_zero, List.set_cons_succ])
        refine held_take (i := 48) (v := ?_) rfl (by kernel_rfl) (by kernel_rfl) (by kernel_rfl) (fun _ _ _ h => h) (by rfl) (fun w hSw => ?_) (by assumption) ?_
        rotate_left
        · ((try dsimp only at hSw); go_simp; (try with_reducible rfl))
        (try simp only [Act.put, List.setIfInBounds_toArray, List.set_cons_zero, List.set_cons_succ])
        refine wpAnyH_ready (rs := [49]) (by kernel_rfl) (by simp) ?_
        refine held_cons rfl (fun K hK => ?_) (AllReadyH.nil)
        go_simp
        ((first
            | (go_at_call 24; refine (HTick.out _ (by assumption)).mono ?_; rintro e wt ⟨rfl, rfl⟩)
            | (go_at_call 19; refine (HLd.out _ (by assumption)).mono ?_; rintro e wt ⟨rfl, rfl⟩)
            | (go_at_call 23; refine (HAsk.out _ (by assumption)).mono ?_; rintro e wt ⟨rfl, hQt⟩)
            | (go_at_call 15; refine (HAw.out _ (by assumption)).mono ?_; rintro e wu ⟨rfl, hQu⟩)))
        go_wp2_with fail
        refine hK.out _ _ ?_ (fun hHeld => ?_)
        · ((try dsimp only); (first | with_reducible exact hc0 | with_reducible exact HQC.out _ (by assumption) | go_keep))
        clear hK K
        (try simp only [Act.put, List.setIfInBounds_toArray, List.set_cons_zero, List.set_cons_succ])
        refine held_take (i := 50) (v := ?_) rfl (by kernel_rfl) (by kernel_rfl) (by kernel_rfl) (fun _ _ _ h => h) (by rfl) (fun w hSw => ?_) (by assumption) ?_
        rotate_left
        · ((try dsimp only at hSw); go_simp; (try with_reducible rfl))
        (try simp only [Act.put, List.setIfInBounds_toArray, List.set_cons_zero, List.set_cons_succ])
        refine held_take (i := 51) (v := ?_) rfl (by kernel_rfl) (by kernel_rfl) (by kernel_rfl) (fun _ _ _ h => h) (by rfl) (fun w hSw => ?_) (by assumption) ?_
        rotate_left
        · ((try dsimp only at hSw); go_simp; (try with_reducible rfl))
        (try simp only [Act.put, List.setIfInBounds_toArray, List.set_cons_zero, List.set_cons_succ])
        refine held_take (i := 52) (v := ?_) rfl (by kernel_rfl) (by kernel_rfl) (by kernel_rfl) (fun _ _ _ h => h) (by rfl) (fun w hSw => ?_) (by assumption) ?_
        rotate_left
        · ((try dsimp only at hSw); go_simp; (try with_reducible rfl))
        (try simp only [Act.put, List.setIfInBounds_toArray, List.set_cons_zero, List.set_cons_succ])
        refine wpAnyH_ready (rs := [53]) (by kernel_rfl) (by simp) ?_
        refine held_cons rfl (fun K hK => ?_) (AllReadyH.nil)
        go_simp
        ((first
            | (go_at_call 24; refine (HTick.out _ (by assumption)).mono ?_; rintro e wt ⟨rfl, rfl⟩)
            | (go_at_call 19; refine (HLd.out _ (by assumption)).mono ?_; rintro e wt ⟨rfl, rfl⟩)
            | (go_at_call 23; refine (HAsk.out _ (by assumption)).mono ?_; rintro e wt ⟨rfl, hQt⟩)
            | (go_at_call 15; refine (HAw.out _ (by assumption)).mono ?_; rintro e wu ⟨rfl, hQu⟩)))
        go_wp2_with fail
        refine hK.out _ _ ?_ (fun hHeld => ?_)
        · ((try dsimp only); (first | with_reducible exact hc0 | with_reducible exact HQC.out _ (by assumption) | go_keep))
        clear hK K
        (try simp only [Act.put, List.setIfInBounds_toArray, List.set_cons_zero, List.set_cons_succ])
        refine held_take (i := 54) (v := ?_) rfl (by kernel_rfl) (by kernel_rfl) (by kernel_rfl) (fun _ _ _ h => h) (by rfl) (fun w hSw => ?_) (by assumption) ?_
        rotate_left
        · ((try dsimp only at hSw); go_simp; (try with_reducible rfl))
        (try simp only [Act.put, List.setIfInBounds_toArray, List.set_cons_zero, List.set_cons_succ])
        refine held_take (i := 55) (v := ?_) rfl (by kernel_rfl) (by kernel_rfl) (by kernel_rfl) (fun _ _ _ h => h) (by rfl) (fun w hSw => ?_) (by assumption) ?_
        rotate_left
        · ((try dsimp only at hSw); go_simp; (try with_reducible rfl))
        (try simp only [Act.put, List.setIfInBounds_toArray, List.set_cons_zero, List.set_cons_succ])
        refine wpAnyH_done (by kernel_rfl) ?_ _
        all_goals (refine NoPanic.normal ?_)
        have HF9 := Lib.hid (HQw.out _ hQu)
        go_wp2_with fail
        go_ret
        exact ⟨rfl, HF9.out⟩
    · have HN := Lib.hid (fun w' (h : Sk w w.heap.size c wb qm qk (worldV c bk 1 3 sv av) (nackArr fr to_ bal x4 x5 x6 x7 x8 x9 x10 x11 x12 x13) [.int .i64 ka, .int .i64 ga, .slice aa fa.length ca] S8 w') => sk_nack_no fr to_ bal x4 x5 x6 x7 x8 x9 x10 x11 x12 x13 h HT8.out hs)
      have hA0 := HS8.out.quiet HS8.out.below.size (Below.refl _ _).drew
      have hc0 := HKM.out _ _ hA0
      go_region_held3 (fun w' => w'.cell? ⟨wb, 0, none⟩ = some (.pointer (some ⟨c, 0, none⟩)) ∧ w'.cell? ⟨qm, 0, none⟩ = some (.int .i64 3) ∧ w'.cell? ⟨qm, 1, none⟩ = some (.int .i64 fr) ∧ w'.cell? ⟨qm, 2, none⟩ = some (.int .i64 to_) ∧ w'.cell? ⟨qm, 3, none⟩ = some (.int .i64 bal) ∧ w'.cell? ⟨qm, 4, none⟩ = some (x4) ∧ w'.cell? ⟨qm, 5, none⟩ = some (x5) ∧ w'.cell? ⟨qm, 6, none⟩ = some (x6) ∧ w'.cell? ⟨qm, 7, none⟩ = some (x7) ∧ w'.cell? ⟨qm, 8, none⟩ = some (x8) ∧ w'.cell? ⟨qm, 9, none⟩ = some (x9) ∧ w'.cell? ⟨qm, 10, none⟩ = some (x10) ∧ w'.cell? ⟨qm, 11, none⟩ = some (x11) ∧ w'.cell? ⟨qm, 12, none⟩ = some (x12) ∧ w'.cell? ⟨qm, 13, none⟩ = some (x13))
        (first | with_reducible exact hc0 | with_reducible exact HKM.out _ _ (by assumption) | go_keep)
        (first
          | (go_at_call 25; refine (HN.out _ (by assumption)).mono ?_; rintro e w10 ⟨rfl, hA10⟩))
      obtain ⟨g0, _, m1, m2, m3, _⟩ := HKM.out _ _ hA10
      have HS10 := Lib.hid hA10
      have H8n := Lib.hid (show S8.n = 3 from HT8.out.1.1)
      have H8a := Lib.hid HT8.out.2.1
      have H8p := Lib.hid HT8.out.1.2.1
      have HB := Lib.hid (fun w' (h : CoordAt w' c S8) => (ballotOf_any c S8 w' h (by have := H8n.out; omega)).mono (R' := fun e w'' => e = .returned (.int .i64 21) ∧ w' = w'') (fun e w'' ⟨he, hw⟩ => ⟨by rw [he, HT8.out.1.2.2.2.2], hw⟩))
      have Hat10 := Lib.hid hA10.at_
      clear hA10 hA0 hc0 HN
      rcases (show to_ ≠ 1 ∨ (to_ = 1 ∧ ¬ 0 ≤ fr) ∨ (to_ = 1 ∧ 0 ≤ fr ∧ ¬ fr < 3) ∨ (to_ = 1 ∧ 0 ≤ fr ∧ fr < 3 ∧ ¬ 21 < bal) by omega) with h | ⟨h, h2⟩ | ⟨h, h2, h3⟩ | ⟨h, h2, h3, h4⟩
      case' inl => have e1 : (to_ == 1) = false := beq_eq_false_iff_ne.2 h
      case' inr.inl => have e1 : (to_ == 1) = true := by rw [beq_iff_eq]; exact h
      case' inr.inr.inl => have e1 : (to_ == 1) = true := by rw [beq_iff_eq]; exact h
      case' inr.inr.inr => have e1 : (to_ == 1) = true := by rw [beq_iff_eq]; exact h
      all_goals clear hs h
      all_goals go_upto_region 13 with fail
      all_goals go_quiet ((go_at_call 18; first | exact quiet_left (HB.out _ (Hat10.out.drewN _)) | exact quiet_add_left (HB.out _ (Hat10.out.drewN _))))
      all_goals go_upto_region 14 with fail
      all_goals
        have HS11 := Lib.hid (HS10.out.quiet HS10.out.below.size (below_drewN (Below.refl _ _) nq))
        generalize w10.drewN nq = w11 at HS11 ⊢
        have hwb11 := (HKA.out _ _ HS11.out).1
        clear g0 m1 m2 m3 HS10 Hat10
        go_wp2_with fail
        refine (sk_take_none HS11.out H8n.out H8a.out).mono ?_
        rintro e w12 ⟨rfl, _, hA12⟩
        have HS12 := Lib.hid (hA12.quiet hA12.below.size ((Below.refl w12.heap.size w12).alloc (Nat.le_refl _) (.cells #[.int .i64 0, .int .i64 0, .int .i64 0, .slice none 0 0, .slice none 0 0] 34)))
        clear hA12 HS11 hwb11
        go_upto_region 15 with fail
        generalize w12.alloc (.cells #[.int .i64 0, .int .i64 0, .int .i64 0, .slice none 0 0, .slice none 0 0] 34) = w13 at HS12 ⊢
        have hwb13 := (HKA.out _ _ HS12.out).1
        go_wp2_with fail
        refine (off_any c S8 w13 HS12.out.at_ (by have := H8n.out; omega)).mono ?_
        rintro e w14 ⟨rfl, rfl⟩
        rw [H8p.out]
        go_wp2_with fail
        refine (awake_any _).mono ?_
        rintro e w15 ⟨rfl, hb15⟩
        go_wp2_with fail
        go_ret
        exact ⟨rfl, below_step HS12.out.below hb15⟩
end Go.Proofs.YtmmnaieikfekfaaGreatDoor
