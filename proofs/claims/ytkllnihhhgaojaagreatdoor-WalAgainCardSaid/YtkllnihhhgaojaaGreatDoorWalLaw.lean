/- What the log's statements use: texts cut, lists compared. No condition but the sizes. -/
import Derived.Test.YtkllnihhhgaojaaGreatDoorWalSound
namespace Go.Proofs.YtkllnihhhgaojaaGreatDoor
open Go Go.RowKit
set_option linter.unusedVariables false

def wcut (s : ByteArray) : ByteArray := if 300 < s.size then s.extract 0 300 else s
theorem wcut_size (s : ByteArray) : (wcut s).size ≤ 300 := by
  unfold wcut
  split
  · rw [ByteArray.size_extract]; omega
  · omega
theorem wcut_any (s : ByteArray) (w : World) : Calls Tryz.prog 12 #[.string s] w fun e w' => e = .returned (.string (wcut s)) ∧ w = w' := by
  by_cases h : 300 < s.size
  · have e : wcut s = s.extract 0 300 := if_pos h
    have hi : (300 : Int) < (s.size : Int) := by omega
    have hi2 : (300 : Int) ≤ (s.size : Int) := by omega
    rw [e]
    clear e
    go_enter Tryz.func12, Tryz.ntmps12
    go_wp2_with fail
    go_ret
    exact ⟨rfl, rfl⟩
  · have e : wcut s = s := if_neg h
    have hi : ¬ ((300 : Int) < (s.size : Int)) := by omega
    rw [e]
    clear e
    go_enter Tryz.func12, Tryz.ntmps12
    go_wp2_with fail
    go_ret
    exact ⟨rfl, rfl⟩
def beginsB (a b : List ByteArray) (least : Int) : Bool := decide (a.length ≤ b.length ∧ least ≤ a.length ∧ a <+: b)
theorem prefix_take {a b : List ByteArray} (h : a.length ≤ b.length) : a <+: b ↔ ∀ k (hk : k < a.length), a[k] = b[k]'(by omega) := by
  constructor
  · intro h1 k hk
    obtain ⟨c, rfl⟩ := h1
    rw [List.getElem_append_left hk]
  · intro h1
    refine ⟨b.drop a.length, ?_⟩
    apply List.ext_getElem
    · rw [List.length_append, List.length_drop]; omega
    · intro k h2 h3
      by_cases hk : k < a.length
      · rw [List.getElem_append_left hk]; exact h1 k hk
      · rw [List.getElem_append_right (by omega), List.getElem_drop]
        congr 1
        omega
set_option maxRecDepth 100000 in
set_option maxHeartbeats 1000000 in
theorem begins_any (ad : Option Addr) (cap : Nat) (a : List ByteArray) (bd : Option Addr) (bcap : Nat) (b : List ByteArray) (least : Int) (w : World) (ha : StrsAt w ad a) (hb : StrsAt w bd b) (hal : a.length ≤ 1000000000) :
    Calls Tryz.prog 17 #[.slice ad a.length cap, .slice bd b.length bcap, .int .i64 least] w fun e w' => e = .returned (.bool (beginsB a b least)) ∧ Below w.heap.size w w' := by
  by_cases h1 : a.length ≤ b.length ∧ least ≤ a.length
  · have hi1 : ¬ ((b.length : Int) < (a.length : Int)) := by omega
    have hi2 : ¬ ((a.length : Int) < least) := by omega
    have hB : beginsB a b least = decide (a <+: b) := by
      unfold beginsB
      rw [decide_eq_decide]
      exact ⟨fun h => h.2.2, fun h => ⟨h1.1, h1.2, h⟩⟩
    have hpt := prefix_take h1.1
    generalize beginsB a b least = R at hB
    have HR := Lib.hid (show R = true ↔ ∀ k (hk : k < a.length), a[k] = b[k]'(by omega) from by rw [hB, decide_eq_true_eq]; exact hpt)
    have HA := Lib.hid ha
    have HB := Lib.hid hb
    clear hB hpt ha hb
    go_enter Tryz.func17, Tryz.ntmps17
    go_wp2_with fail
    go_loopw [7] (fun i wr => ∃ k : Nat, k ≤ a.length ∧ i = .int .i64 k ∧ Hid (∀ j (hj : j < k) (hja : j < a.length), a[j] = b[j]'(by omega)) ∧ Hid (Below w.heap.size w wr)) (fun i _ => a.length - (intOf i).toNat)
    case atStart => exact ⟨0, Nat.zero_le _, rfl, Lib.hid (fun j hj => by omega), Lib.hid (Below.refl _ _)⟩
    case round =>
      obtain ⟨k, hk, rfl, HE, HW⟩ := hrel
      by_cases hlt : k < a.length
      · have hki : (k : Int) < (a.length : Int) := by omega
        have hkb : (k : Int) < (b.length : Int) := by omega
        rcases strsAt_below HA.out HW.out with h0 | ⟨g, off, rfl, hgl, hc⟩
        · rw [h0] at hlt; simp at hlt
        · rcases strsAt_below HB.out HW.out with h0 | ⟨g2, off2, rfl, hgl2, hc2⟩
          · rw [h0] at h1; simp at h1; rw [h1.1] at hlt; simp at hlt
          · have cs := hc k hlt
            have cs2 := hc2 k (by omega)
            have HEQ : Hid (a[k] = b[k]'(by omega) → ∀ j (hj : j < k + 1) (hja : j < a.length), a[j] = b[j]'(by omega)) := Lib.hid (fun he j hj hja => by
              by_cases e : j = k
              · subst e; exact he
              · exact HE.out j (by omega) hja)
            have HNE : Hid (a[k] ≠ b[k]'(by omega) → R = false) := Lib.hid (fun he => by
              rw [Bool.eq_false_iff]
              exact fun h => he ((HR.out.1 h) k hlt))
            generalize a[k] = s at cs HEQ HNE
            generalize b[k]'(by omega) = t at cs2 HEQ HNE
            clear hc hc2 HE
            have hse := strEq_any s t
            by_cases hst : s = t
            · have hb2 : (s.toList == t.toList) = true := by rw [hse]; exact decide_eq_true hst
              have HE2 := Lib.hid (HEQ.out hst)
              clear HEQ HNE hse hst
              go_wp2_with fail
              go_quiet (fail)
              have HW2 := Lib.hid (below_drewN HW.out nq)
              go_wp2_with fail
              go_roundw
              case rel => exact ⟨k + 1, by omega, by go_num, HE2, HW2⟩
              case measure => simp [intOf]; omega
            · have hb2 : (s.toList == t.toList) = false := by rw [hse]; exact decide_eq_false hst
              have HF := Lib.hid (HNE.out hst)
              clear HEQ HNE hse hst
              go_wp2_with fail
              go_quiet (fail)
              have HW2 := Lib.hid (below_drewN HW.out nq)
              go_wp2_with fail
              go_ret
              exact ⟨by rw [HF.out]; rfl, HW2.out⟩
      · have hki : ¬ ((k : Int) < (a.length : Int)) := by omega
        have HT : Hid (R = true) := Lib.hid (HR.out.2 (fun j hj => HE.out j (by omega) hj))
        go_wp2_with fail
        go_ret
        exact ⟨by rw [HT.out]; rfl, HW.out⟩
  · have hB : beginsB a b least = false := by
      unfold beginsB
      rw [decide_eq_false_iff_not]
      exact fun h => h1 ⟨h.1, h.2.1⟩
    rw [hB]
    clear hB ha hb
    by_cases h2 : b.length < a.length
    · have hi : (b.length : Int) < (a.length : Int) := by omega
      go_enter Tryz.func17, Tryz.ntmps17
      go_wp2_with fail
      go_ret
      exact ⟨rfl, Below.refl _ _⟩
    · have hi : ¬ ((b.length : Int) < (a.length : Int)) := by omega
      have hi2 : (a.length : Int) < least := by omega
      go_enter Tryz.func17, Tryz.ntmps17
      go_wp2_with fail
      go_ret
      exact ⟨rfl, Below.refl _ _⟩
def sameB (a b : List ByteArray) : Bool := decide (a = b)
set_option maxRecDepth 100000 in
set_option maxHeartbeats 1000000 in
theorem same_any (ad : Option Addr) (cap : Nat) (a : List ByteArray) (bd : Option Addr) (bcap : Nat) (b : List ByteArray) (w : World) (ha : StrsAt w ad a) (hb : StrsAt w bd b) (hal : a.length ≤ 1000000000) :
    Calls Tryz.prog 22 #[.slice ad a.length cap, .slice bd b.length bcap] w fun e w' => e = .returned (.bool (sameB a b)) ∧ Below w.heap.size w w' := by
  by_cases hl : a.length = b.length
  · have HB := Lib.hid (begins_any ad cap a bd bcap b 0 w ha hb hal)
    have e : beginsB a b 0 = sameB a b := by
      unfold beginsB sameB
      rw [decide_eq_decide]
      constructor
      · rintro ⟨_, _, h⟩; exact h.eq_of_length hl
      · rintro rfl; exact ⟨Nat.le_refl _, by omega, List.prefix_rfl⟩
    rw [e] at HB
    generalize sameB a b = R at HB ⊢
    rw [← hl] at HB ⊢
    clear e ha hb hl
    go_enter Tryz.func22, Tryz.ntmps22
    go_wp2_with fail
    refine HB.out.mono ?_
    rintro e w1 ⟨rfl, hb1⟩
    have HB1 := Lib.hid hb1
    clear hb1
    go_wp2_with fail
    go_ret
    exact ⟨rfl, HB1.out⟩
  · have e : sameB a b = false := by
      unfold sameB
      rw [decide_eq_false_iff_not]
      exact fun h => hl (congrArg List.length h)
    have hb2 : ((a.length : Int) == (b.length : Int)) = false := by rw [beq_eq_false_iff_ne]; omega
    rw [e]
    clear e ha hb hl
    go_enter Tryz.func22, Tryz.ntmps22
    go_wp2_with fail
    go_ret
    exact ⟨rfl, Below.refl _ _⟩
def wfew (l : List ByteArray) : List ByteArray := (l.map wcut).take 8
set_option maxRecDepth 100000 in
set_option maxHeartbeats 1000000 in
theorem few_any (ad : Option Addr) (cap : Nat) (l : List ByteArray) (w : World) (hl : StrsAt w ad l) (hll : l.length ≤ maxLen) :
    Calls Tryz.prog 18 #[.slice ad l.length cap] w fun e w' => ∃ v, e = .returned v ∧ w'.ownsRow w.heap.size 9 1 v (wfew l).length (strVals (wfew l)) ∧ Below w.heap.size w w' := by
  have HL := Lib.hid hl
  have hll2 : l.length ≤ 9223372036854775807 := hll
  have hwl : (wfew l).length = min 8 l.length := by unfold wfew; rw [List.length_take, List.length_map]
  obtain ⟨M, hM⟩ : ∃ M, M = l.map wcut := ⟨_, rfl⟩
  have HM := Lib.hid hM
  have Hwl := Lib.hid hwl
  clear hl hll hM hwl
  go_enter Tryz.func18, Tryz.ntmps18
  go_wp2_with fail
  go_loopw [3, 4] (fun u i wr => ∃ k : Nat, k ≤ 8 ∧ k ≤ l.length ∧ i = .int .i64 k ∧ Hid (wr.ownsRow w.heap.size 9 1 u k (strVals (M.take k))) ∧ Hid (Below w.heap.size w wr)) (fun _ i _ => 8 - (intOf i).toNat)
  case atStart => exact ⟨0, by omega, by omega, rfl, Lib.hid (World.ownsRow_nil _ _ _ _), Lib.hid (Below.refl _ _)⟩
  case round =>
    obtain ⟨k, hk8, hkl, rfl, HO, HB⟩ := hrel
    by_cases hlt : k < l.length ∧ k < 8
    · obtain ⟨h1, h2⟩ := hlt
      have h1i : (k : Int) < (l.length : Int) := by omega
      have h2i : (k : Int) < 8 := by omega
      rcases strsAt_below HL.out HB.out with h0 | ⟨g, off, rfl, hgl, hc⟩
      · rw [h0] at h1; simp at h1
      · have cs := hc k h1
        have HT : Hid (strVals (M.take (k + 1)) = strVals (M.take k) ++ [.string (wcut l[k])]) := Lib.hid (by
          have hMl : k < M.length := by rw [HM.out, List.length_map]; exact h1
          have hMk : M[k] = wcut l[k] := by
            have := HM.out
            subst this
            rw [List.getElem_map]
          rw [List.take_succ_eq_append_getElem hMl, hMk]
          unfold strVals
          rw [List.map_append]
          rfl)
        generalize l[k] = s at cs HT
        have HC := Lib.hid (fun W => wcut_any s W)
        generalize wcut s = c at HC HT
        have hown := HO.out
        obtain ⟨ua, uc, hu⟩ := row_shape hown
        subst hu
        clear hc HO
        go_wp2_with fail
        refine (HC.out _).mono ?_
        rintro e w1 ⟨rfl, rfl⟩
        clear cs
        go_wp2_with (at_builtin; refine append_one rfl _ _ 22 rfl w.heap.size 9 1 16 Tryz.underlying22 _ info_strD rfl (by decide) _ _ _ rfl hown [.string c] rfl rfl (by simp [Value.oneCell']) ?c1 ?c2 ?c3 ?_)
        case c1 => unfold maxLen; omega
        case c2 => omega
        case c3 => exact HB.out.size
        intro v' w2 hown3 hb3
        rw [← HT.out] at hown3
        have HO4 := Lib.hid hown3
        have HB4 := Lib.hid (HB.out.trans hb3)
        clear hown3 hown hb3 HB
        go_wp2_with fail
        go_roundw
        case rel => exact ⟨k + 1, by omega, by omega, by go_num, HO4, HB4⟩
        case measure => simp [intOf]; omega
    · have hke : k = min 8 l.length := by omega
      have HE : Hid (wr.ownsRow w.heap.size 9 1 _ (wfew l).length (strVals (wfew l))) := Lib.hid (by
        have h := HO.out
        have e : M.take k = wfew l := by
          unfold wfew
          rw [← HM.out, hke, ← List.take_take, List.take_of_length_le (l := M) (by rw [HM.out, List.length_map]; exact Nat.le_refl _)]
        rw [e] at h
        rw [Hwl.out, ← hke]
        exact h)
      clear HO
      have hk1 : k < l.length → ¬ k < 8 := fun h => by omega
      clear hke
      by_cases h1 : k < l.length
      · have h1i : (k : Int) < (l.length : Int) := by omega
        have h2i : ¬ ((k : Int) < 8) := by have := hk1 h1; omega
        clear hk1
        go_wp2_with fail
        go_ret
        exact ⟨_, rfl, HE.out, HB.out⟩
      · have h1i : ¬ ((k : Int) < (l.length : Int)) := by omega
        go_wp2_with fail
        go_ret
        exact ⟨_, rfl, HE.out, HB.out⟩
end Go.Proofs.YtkllnihhhgaojaaGreatDoor
