/- slices.SortStableFunc at a nil []int with NewTable's comparing closure: nothing happens. No condition. -/
import Derived.Test.YtogobhpnlndcaaaGreatSort4
namespace Go.Proofs.YtogobhpnlndcaaaGreat
open Go Go.RowKit
set_option linter.unusedVariables false

set_option maxRecDepth 100000 in
set_option maxHeartbeats 4000000 in
theorem stable_any (g n m q cp : Nat) (wf : Nat → Nat) (w : World) (h : RowIn w g n m) (hc : CmpAt g q m wf w) (hwf : ∀ j, wf j < 4294967296) (hm : m ≤ 1048576) (hn : n ≤ 1048576) :
    Calls Tryz.prog 98 #[.slice (some ⟨g, 0, none⟩) n cp, .int .i64 (n : Int), cmpFn q] w (SortSays g n m q wf w) := by
  have H := Lib.hid h
  have HC := Lib.hid hc
  have Hwf := Lib.hid hwf
  have Hm := Lib.hid hm
  clear h hc hwf hm
  go_enter Tryz.func98, Tryz.ntmps98
  go_upto_region 2 with fail
  go_loopw [7, 8] (fun av_ bv wr => ∃ a b : Nat, av_ = .int .i64 (a : Int) ∧ bv = .int .i64 (b : Int) ∧ b = a + 20 ∧ a ≤ n ∧ Hid (RowIn wr g n m) ∧ Hid (Touch (fun k => k = g) w wr)) (fun av_ _ _ => n + 1 - (intOf av_).toNat)
  case atStart => exact ⟨0, 20, rfl, rfl, rfl, Nat.zero_le _, H, Lib.hid (Touch.refl _ _)⟩
  case round =>
    obtain ⟨a, b, rfl, rfl, hb, ha, HR, HT⟩ := hrel
    clear H
    have hbb : b ≤ 2097152 := by omega
    have Hb := Lib.hid hb
    have hab : a ≤ b := by omega
    clear hb
    by_cases hbn : b ≤ n
    · have HS := Lib.hid (insertion_any g n m q cp a b wf wr HR.out (HC.out.touch HT.out) Hwf.out Hm.out hab hbn hn)
      go_wp2_with fail
      refine HS.out.mono ?_
      clear HS
      rintro ee w1 ⟨rfl, hR1, hT1⟩
      have HR1 := Lib.hid hR1
      have HT1 := Lib.hid (HT.out.trans hT1)
      clear hR1 hT1 HR HT
      go_wp2_with fail
      go_roundw
      case rel => exact ⟨b, b + 20, rfl, by go_num, rfl, hbn, HR1, HT1⟩
      case measure => have := Hb.out; simp [intOf]; omega
    · have HS := Lib.hid (insertion_any g n m q cp a n wf wr HR.out (HC.out.touch HT.out) Hwf.out Hm.out (by omega) (Nat.le_refl _) hn)
      go_wp2_with fail
      refine HS.out.mono ?_
      clear HS
      rintro ee w1 ⟨rfl, hR1, hT1⟩
      have HR1 := Lib.hid hR1
      have HT1 := Lib.hid (HT.out.trans hT1)
      clear hR1 hT1 HR HT
      go_upto_region 7 with fail
      go_loopw [6] (fun sv_ wr => ∃ s : Nat, sv_ = .int .i64 (s : Int) ∧ 20 ≤ s ∧ s ≤ 2 * n + 20 ∧ Hid (RowIn wr g n m) ∧ Hid (Touch (fun k => k = g) w wr)) (fun sv_ _ => n - (intOf sv_).toNat)
      case atStart => exact ⟨20, rfl, Nat.le_refl _, by omega, HR1, HT1⟩
      case round =>
        obtain ⟨s, rfl, hs1, hs2, HR2, HT2⟩ := hrel
        by_cases hsn : s < n
        · go_upto_region 9 with fail
          go_loopw [7, 8] (fun av_ bv wr => ∃ a b : Nat, av_ = .int .i64 (a : Int) ∧ bv = .int .i64 (b : Int) ∧ b = a + 2 * s ∧ a ≤ n ∧ Hid (RowIn wr g n m) ∧ Hid (Touch (fun k => k = g) w wr)) (fun av_ _ _ => n + 1 - (intOf av_).toNat)
          case atStart => exact ⟨0, 2 * s, rfl, by go_num, by omega, Nat.zero_le _, HR2, HT2⟩
          case round =>
            obtain ⟨a', b', rfl, rfl, hb', ha', HR3, HT3⟩ := hrel
            obtain ⟨c, hc⟩ : ∃ c, c = a' + s := ⟨_, rfl⟩
            have i1 : (a' : Int) + (s : Int) = (c : Int) := by omega
            have hbb' : b' ≤ 16777216 := by omega
            have Hb' := Lib.hid (show b' = a' + 2 * s from hb')
            have i2 : a' < c := by omega
            have i3 : c < b' := by omega
            have hcc : c ≤ 16777216 := by omega
            clear hb' hc
            by_cases hbn' : b' ≤ n
            · have HS := Lib.hid (symMerge_any g n m q cp wf Hwf.out Hm.out hn (b' - a' + 1) a' c b' _ (by omega) HR3.out (HC.out.touch HT3.out) i2 i3 hbn')
              go_wp2_with fail
              refine HS.out.mono ?_
              clear HS
              rintro ee w4 ⟨rfl, hR4, hT4⟩
              have HR4 := Lib.hid hR4
              have HT4 := Lib.hid (HT3.out.trans hT4)
              clear hR4 hT4 HR3 HT3
              go_wp2_with fail
              go_roundw
              case rel => exact ⟨b', b' + 2 * s, rfl, by go_num, rfl, hbn', HR4, HT4⟩
              case measure => have := Hb'.out; simp [intOf]; omega
            · by_cases hcn : c < n
              · have HS := Lib.hid (symMerge_any g n m q cp wf Hwf.out Hm.out hn (n - a' + 1) a' c n _ (by omega) HR3.out (HC.out.touch HT3.out) i2 hcn (Nat.le_refl _))
                go_wp2_with fail
                refine HS.out.mono ?_
                clear HS
                rintro ee w4 ⟨rfl, hR4, hT4⟩
                have HR4 := Lib.hid hR4
                have HT4 := Lib.hid (HT3.out.trans hT4)
                clear hR4 hT4 HR3 HT3
                go_wp2_with fail
                go_roundw
                case rel => exact ⟨s * 2, by go_num, by omega, by omega, HR4, HT4⟩
                case measure => simp [intOf]; omega
              · go_wp2_with fail
                go_roundw
                case rel => exact ⟨s * 2, by go_num, by omega, by omega, HR3, HT3⟩
                case measure => simp [intOf]; omega
        · go_wp2_with fail
          go_end0
          exact ⟨rfl, HR2.out, HT2.out⟩
set_option maxRecDepth 100000 in
theorem sortStable_any (g n m q cp : Nat) (wf : Nat → Nat) (w : World) (h : RowIn w g n m) (hc : CmpAt g q m wf w) (hwf : ∀ j, wf j < 4294967296) (hm : m ≤ 1048576) (hn : n ≤ 1048576) :
    Calls Tryz.prog 78 #[.slice (some ⟨g, 0, none⟩) n cp, cmpFn q] w (SortSays g n m q wf w) := by
  have HS := Lib.hid (stable_any g n m q cp wf w h hc hwf hm hn)
  clear h hc hwf hm
  go_enter Tryz.func78, Tryz.ntmps78
  go_wp2_with fail
  refine HS.out.mono ?_
  clear HS
  rintro ee w1 ⟨rfl, hR1, hT1⟩
  have HR1 := Lib.hid hR1
  have HT1 := Lib.hid hT1
  clear hR1 hT1
  go_wp2_with fail
  go_end0
  exact ⟨rfl, HR1.out, HT1.out⟩
end Go.Proofs.YtogobhpnlndcaaaGreat
namespace Go.Proofs.YtogobhpnlndcaaaGreat
open Go Go.RowKit
set_option linter.unusedVariables false

def NilSays (w : World) (e : Ending) (w' : World) : Prop := e = .returned (.tuple #[]) ∧ Below w.heap.size w w'
set_option maxRecDepth 100000 in
theorem insertNil_any (q : Nat) (w : World) :
    Calls Tryz.prog 107 #[.slice none 0 0, .int .i64 0, .int .i64 0, cmpFn q] w (NilSays w) := by
  unfold cmpFn
  go_enter Tryz.func107, Tryz.ntmps107
  go_wp2
  go_loopw [8] (fun iv_ wr => iv_ = .int .i64 1 ∧ wr = w) (fun iv_ _ => 0)
  case atStart => exact ⟨rfl, rfl⟩
  case round =>
    obtain ⟨rfl, rfl⟩ := hrel
    go_wp2
    go_end0
    exact ⟨rfl, Below.refl _ _⟩
set_option maxRecDepth 100000 in
theorem stableNil_any (q : Nat) (w : World) :
    Calls Tryz.prog 98 #[.slice none 0 0, .int .i64 0, cmpFn q] w (NilSays w) := by
  have HI := Lib.hid (fun w' => insertNil_any q w')
  go_enter Tryz.func98, Tryz.ntmps98
  go_upto_region 2 with fail
  go_loopw [7, 8] (fun av_ bv wr => av_ = .int .i64 0 ∧ bv = .int .i64 20 ∧ wr = w) (fun av_ _ _ => 0)
  case atStart => exact ⟨rfl, rfl, rfl⟩
  case round =>
    obtain ⟨rfl, rfl, rfl⟩ := hrel
    go_wp2_with fail
    refine (HI.out _).mono ?_
    rintro ee w1 ⟨rfl, hb1⟩
    have HB1 := Lib.hid hb1
    clear hb1
    go_upto_region 7 with fail
    go_loopw [6] (fun sv_ wr => sv_ = .int .i64 20 ∧ wr = w1) (fun _ _ => 0)
    case atStart => exact ⟨rfl, rfl⟩
    case round =>
      obtain ⟨rfl, rfl⟩ := hrel
      go_wp2_with fail
      go_end0
      exact ⟨rfl, HB1.out⟩
theorem sortNil_any (q : Nat) (w : World) :
    Calls Tryz.prog 78 #[.slice none 0 0, cmpFn q] w (NilSays w) := by
  have HS := Lib.hid (stableNil_any q w)
  go_enter Tryz.func78, Tryz.ntmps78
  go_wp2_with fail
  refine HS.out.mono ?_
  clear HS
  rintro ee w1 ⟨rfl, hb1⟩
  go_wp2_with fail
  go_end0
  exact ⟨rfl, hb1⟩
end Go.Proofs.YtogobhpnlndcaaaGreat
