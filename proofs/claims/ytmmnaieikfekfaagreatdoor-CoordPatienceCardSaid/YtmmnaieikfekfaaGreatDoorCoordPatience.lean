/- The walk of CoordPatience: a call to which no vault ever says anything fails behind just forty ticks. No condition. -/
import Derived.Test.YtmmnaieikfekfaaGreatDoorRight
namespace Go.Proofs.YtmmnaieikfekfaaGreatDoor
open Go Go.RowKit
set_option linter.unusedVariables false

/-- a coordinator that nobody has promised anything, the statement's struct beside it, all behind w0 -/
structure Pat (w0 : World) (c t wb : Nat) (V : List Value) (S : CSt) (w : World) : Prop where
  at_ : CoordAt w c S
  tally : TallyAt w t 5 (List.replicate 9 false)
  blk : Blk w wb V 49
  below : Below w0.heap.size w0 w
  c0 : w0.heap.size ≤ c
theorem Pat.quiet {w0 : World} {c t wb : Nat} {V : List Value} {S : CSt} {w w' : World} (h : Pat w0 c t wb V S w) (hb : Below w.heap.size w w') : Pat w0 c t wb V S w' :=
  ⟨h.at_.below hb, tallyAt_below h.tally hb, h.blk.below hb, below_step h.below hb, h.c0⟩
theorem Pat.touch {w0 : World} {c t wb : Nat} {V : List Value} {S S' : CSt} {w w' : World} (h : Pat w0 c t wb V S w) (hC : CoordAt w' c S') (hT : Touch (fun k => k = c) w w') : Pat w0 c t wb V S' w' :=
  ⟨hC, ⟨h.tally.1.touch hT (fun e => h.tally.1.ne h.at_.1 (by decide) e), h.tally.2⟩, h.blk.touch hT (fun e => h.blk.ne h.at_.1 (by decide) e), h.below.trans (hT.below h.below.size (fun k hk e => by have := h.c0; omega)), h.c0⟩

set_option maxRecDepth 100000 in
set_option maxHeartbeats 4000000 in
theorem coordPatience_walk (kind before : Int) (w : World) (hwk : (Lit.int .i64 kind).wf = true) (hwb : (Lit.int .i64 before).wf = true) :
    Calls Tryz.prog 5 #[.int .i64 kind, .int .i64 before] w fun e w' => e = .returned (.bool true) ∧ Below w.heap.size w w' := by
  by_cases hok : 1 ≤ kind ∧ kind ≤ 6 ∧ 0 ≤ before ∧ before ≤ 100
  · obtain ⟨hk1, hk6, hb0, hb100⟩ := hok
    obtain ⟨n, rfl⟩ := Int.eq_ofNat_of_zero_le hb0
    clear hwk hwb hb0
    go_enter Tryz.func5, Tryz.ntmps5
    go_wp2_with fail
    refine (fresh_ok 2 5 3 _ (by unfold NewOk BalOk; omega)).mono ?_
    rintro e w1 ⟨wb, bk, mp, c, t, rfl, hW, hbk, hmp, hc, ht, hwb0, hc0, ht0, hb1⟩
    have HP1 := Lib.hid (show Pat w c t wb (worldVals c bk 2 5) _ w1 from ⟨hc, ht, hW, hb1, hc0⟩)
    clear hW hbk hmp hc ht hb1
    go_wp2_with fail
    go_loopw [6] (fun i wr => ∃ k : Nat, i = .int .i64 k ∧ k ≤ n ∧ Hid (Pat w c t wb (worldVals c bk 2 5) (newCoord 2 5 3 (.pointer (some ⟨bk, 0, none⟩)) (.pointer (some ⟨t, 0, none⟩))) wr)) (fun i _ => n - (intOf i).toNat)
    case atStart => exact ⟨0, rfl, Nat.zero_le _, HP1⟩
    case round =>
      obtain ⟨k, rfl, hk, HP⟩ := hrel
      clear HP1
      have hwc : wr.cell? ⟨wb, 0, none⟩ = some (.pointer (some ⟨c, 0, none⟩)) := HP.out.blk.cell 0
      by_cases hlt : k < n
      · go_wp2_with fail
        refine (noCall_tick c t _ (List.replicate 9 false) 5 wr HP.out.at_ rfl (by omega) (by omega) rfl HP.out.tally rfl rfl).mono ?_
        rintro e w2 ⟨v, rfl, _, hb2⟩
        have HP2 := Lib.hid (HP.out.quiet hb2)
        clear HP hwc hb2
        go_wp2_with fail
        go_roundw
        case rel => exact ⟨k + 1, by go_num, by omega, HP2⟩
        case measure => simp [intOf]; omega
      · obtain rfl : k = n := by omega
        clear hlt hk hb100
        have hR : RightSays c kind 0 (.slice none 0 0) 0 wr := by
          have h := rightSays (b := c) (kind := kind) (gen := 0) (x := none) (y := 0) (l := []) (base := 0) (World.ownsRow_nil wr 0 101 3) HP.out.at_ ⟨by simp, fun f hf => by cases hf⟩
          have e : rightE kind 0 [] = 0 := by
            unfold rightE
            split
            · rfl
            · split
              · rfl
              · split
                · rfl
                · omega
          rw [e] at h
          exact h
        have HA := Lib.hid ((ask_any c _ kind 0 (.slice none 0 0) [] 0 0 wr HP.out.at_ (show (1 : Int) ≤ 5 by omega) rfl rfl rfl rfl (World.ownsRow_nil wr 0 101 3) (by simp) hR).mono (R' := fun e w' => e = .returned (.int .i64 0) ∧ ∃ ka, Hid (Pat w c t wb (worldVals c bk 2 5) ((newCoord 2 5 3 (.pointer (some ⟨bk, 0, none⟩)) (.pointer (some ⟨t, 0, none⟩))).asked (.pointer (some ⟨ka, 0, none⟩))) w')) (fun e w' ⟨he, hT, hy, _⟩ => by
          obtain ⟨ka, hC⟩ := hy rfl
          exact ⟨he, ka, Lib.hid (HP.out.touch hC hT)⟩))
        clear hR hk1 hk6
        go_wp2_with fail
        refine HA.out.mono ?_
        rintro e w2 ⟨rfl, ka, HP2⟩
        clear HA HP hwc
        go_wp2_with fail
        go_loopw [7, 8, 9] (fun i _ _ wr => ∃ k : Nat, i = .int .i64 k ∧ k ≤ 39 ∧ Hid (Pat w c t wb (worldVals c bk 2 5) { (newCoord 2 5 3 (.pointer (some ⟨bk, 0, none⟩)) (.pointer (some ⟨t, 0, none⟩))).asked (.pointer (some ⟨ka, 0, none⟩)) with left := 40 - (k : Int) } wr)) (fun i _ _ _ => 39 - (intOf i).toNat)
        case atStart => exact ⟨0, rfl, by omega, HP2⟩
        case round =>
          obtain ⟨k, rfl, hk, HP⟩ := hrel
          clear HP2
          have hwc : wr.cell? ⟨wb, 0, none⟩ = some (.pointer (some ⟨c, 0, none⟩)) := HP.out.blk.cell 0
          by_cases hlt : k < 39
          · have HT := Lib.hid ((tick_wait c t ka _ (List.replicate 9 false) 5 wr HP.out.at_ rfl (by omega) (by omega) rfl HP.out.tally rfl rfl (show 2 ≤ 40 - (k : Int) by omega) (show 40 - (k : Int) ≤ 1000 by omega)).mono (R' := fun e w' => ∃ v, e = .returned v ∧ Hid (Pat w c t wb (worldVals c bk 2 5) { (newCoord 2 5 3 (.pointer (some ⟨bk, 0, none⟩)) (.pointer (some ⟨t, 0, none⟩))).asked (.pointer (some ⟨ka, 0, none⟩)) with left := 40 - (k : Int) - 1 } w')) (fun e w' ⟨v, he, _, hC, hT⟩ => ⟨v, he, Lib.hid (HP.out.touch hC hT)⟩))
            go_wp2_with fail
            refine HT.out.mono ?_
            rintro e w3 ⟨v, rfl, HP3⟩
            have hwc3 : w3.cell? ⟨wb, 0, none⟩ = some (.pointer (some ⟨c, 0, none⟩)) := HP3.out.blk.cell 0
            clear HT HP hwc
            go_wp2_with fail
            refine (take_none c _ w3 HP3.out.at_ (show (1 : Int) ≤ 5 by omega) rfl).mono ?_
            rintro e w4 ⟨rfl, hb4⟩
            have HP4 := Lib.hid (HP3.out.quiet hb4)
            clear HP3 hwc3 hb4
            simp only [noAnswer]
            go_wp2_with fail
            have HP5 := Lib.hid (HP4.out.quiet ((Below.refl w4.heap.size w4).alloc (Nat.le_refl _) (.cells #[.int .i64 0, .int .i64 0, .int .i64 0, .slice none 0 0, .slice none 0 0] 34)))
            have e40 : (40 : Int) - (k : Int) - 1 = 40 - ((k + 1 : Nat) : Int) := by omega
            rw [e40] at HP5
            go_roundw
            case rel => exact ⟨k + 1, by go_num, by omega, HP5⟩
            case measure => simp [intOf]; omega
          · obtain rfl : k = 39 := by omega
            have HT := Lib.hid ((tick_end c t ka _ (List.replicate 9 false) 5 wr HP.out.at_ rfl (by omega) (by omega) rfl HP.out.tally rfl rfl rfl (show (40 : Int) - ((39 : Nat) : Int) ≤ 1 by omega) (show -1000 ≤ (40 : Int) - ((39 : Nat) : Int) by omega)).mono (R' := fun e w' => ∃ v a, e = .returned v ∧ Hid (answerAt w' a 17 0 0) ∧ ∃ S, S.n = 5 ∧ S.answer = .pointer (some ⟨a, 0, none⟩) ∧ Hid (Pat w c t wb (worldVals c bk 2 5) S w')) (fun e w' ⟨v, a, he, _, _, hA, hC, hT⟩ => ⟨v, a, he, Lib.hid hA, _, rfl, rfl, Lib.hid (HP.out.touch hC hT)⟩))
            clear hlt hk
            go_wp2_with fail
            refine HT.out.mono ?_
            rintro e w3 ⟨v, a, rfl, HA3, S, hS5, hSa, HP3⟩
            have HS5 := Lib.hid hS5
            have HSa := Lib.hid hSa
            have hwc3 : w3.cell? ⟨wb, 0, none⟩ = some (.pointer (some ⟨c, 0, none⟩)) := HP3.out.blk.cell 0
            clear HT HP hwc hS5 hSa
            have HK := Lib.hid ((take_some c a S 17 0 0 none none 0 0 0 0 w3 HP3.out.at_ (by rw [HS5.out]; omega) HSa.out HA3.out).mono (R' := fun e w' => e = .returned (.tuple #[.agg #[.int .i64 17, .int .i64 0, .int .i64 0, .slice none 0 0, .slice none 0 0], .bool true]) ∧ Hid (Pat w c t wb (worldVals c bk 2 5) { S with answer := .pointer none } w')) (fun e w' ⟨he, hC, hT⟩ => ⟨he, Lib.hid (HP3.out.touch hC hT)⟩))
            go_wp2_with fail
            refine HK.out.mono ?_
            rintro e w4 ⟨rfl, HP4⟩
            clear HK HP3 HA3 hwc3
            have hwc4 : w4.cell? ⟨wb, 0, none⟩ = some (.pointer (some ⟨c, 0, none⟩)) := HP4.out.blk.cell 0
            have hwl4 : wb < w4.heap.size := HP4.out.blk.lt
            have HP5 := Lib.hid (HP4.out.quiet ((Below.refl w4.heap.size w4).alloc (Nat.le_refl _) (.cells (ansVals 17 0 0 (.slice none 0 0) (.slice none 0 0)).toArray 34)))
            have HX5 := Lib.hid (Blk.new w4 (ansVals 17 0 0 (.slice none 0 0) (.slice none 0 0)) 34)
            have HK := Lib.hid (fun (w5 : World) (hP : Pat w c t wb (worldVals c bk 2 5) { S with answer := .pointer none } w5) => take_none c _ w5 hP.at_ (by have := HS5.out; show (1 : Int) ≤ S.n; omega) rfl)
            go_wp2_with fail
            refine (HK.out _ HP5.out).mono ?_
            rintro e w6 ⟨rfl, hb6⟩
            have HP6 := Lib.hid (HP5.out.quiet hb6)
            have HX6 := Lib.hid (HX5.out.below hb6)
            clear HK HP5 HP4 HX5 hwc4 hwl4 hb6
            simp only [noAnswer]
            generalize w4.heap.size = xa at HX6 ⊢
            have hx6 : w6.cell? ⟨xa, 0, none⟩ = some (.int .i64 17) := HX6.out.cell 0
            have hxl6 := HX6.out.lt
            have HP7 := Lib.hid (HP6.out.quiet ((Below.refl w6.heap.size w6).alloc (Nat.le_refl _) (.cells #[.int .i64 0, .int .i64 0, .int .i64 0, .slice none 0 0, .slice none 0 0] 34)))
            go_wp2_with fail
            refine (awake_any _).mono ?_
            rintro e w8 ⟨rfl, hb8⟩
            have HB8 := Lib.hid (HP7.out.quiet hb8).below
            go_wp2_with fail
            go_ret
            exact ⟨rfl, HB8.out⟩
  · have hbad : (decide (kind < 1) || decide (6 < kind) || decide (before < 0) || decide (100 < before)) = true := by
      simp only [Bool.or_eq_true, decide_eq_true_eq]
      omega
    have Hok := Lib.hid hok
    clear hok hwk hwb
    go_enter Tryz.func5, Tryz.ntmps5
    go_wp2_with fail
    all_goals
      first
      | (refine (awake_any _).mono ?_
         rintro e w6 ⟨rfl, hb6⟩
         go_wp2_with fail
         go_ret
         exact ⟨rfl, hb6⟩)
      | (exfalso; have := Hok.out; omega)
end Go.Proofs.YtmmnaieikfekfaaGreatDoor
