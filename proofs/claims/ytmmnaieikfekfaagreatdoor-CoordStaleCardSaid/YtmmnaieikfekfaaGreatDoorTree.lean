/- The walks of tree's name, Path, Order, Within, paths, mode, Check. Conditions: texts of at most 2^62 bytes. -/
import Derived.Test.YtmmnaieikfekfaaGreatDoorFiles
import Derived.Test.YtmmnaieikfekfaaGreatDoorShelf
namespace Go.Proofs.YtmmnaieikfekfaaGreatDoor
open Go Go.RowKit
set_option linter.unusedVariables false

theorem strq_eq (a b : ByteArray) : (a.toList == b.toList) = decide (a = b) := by
  rw [Bool.eq_iff_iff, decide_eq_true_iff, beq_iff_eq]
  constructor
  · intro h
    rw [ByteArray.toList_eq, ByteArray.toList_eq] at h
    cases a; cases b
    simp at h
    rw [h]
  · rintro rfl; rfl
theorem strq_ne {a b : ByteArray} (h : a ≠ b) : (a.toList == b.toList) = false := by rw [strq_eq, decide_eq_false h]
theorem lst_ne {s : ByteArray} {l : List UInt8} (h : s ≠ ⟨l.toArray⟩) : ¬ s.toList = l := by
  intro e
  rw [ByteArray.toList_eq] at e
  apply h
  cases s
  simp at e
  rw [← e]
theorem lstq_ne {s : ByteArray} {l : List UInt8} (h : s ≠ ⟨l.toArray⟩) : (s.toList == l) = false := beq_eq_false_iff_ne.2 (lst_ne h)
theorem emptyq_ne {s : ByteArray} (h : s ≠ ⟨#[]⟩) : s.toList.isEmpty = false := by
  have := lst_ne (l := []) h
  cases hs : s.toList with
  | nil => exact absurd hs this
  | cons a b => rfl
theorem strq_same {a b : ByteArray} (h : a = b) : (a.toList == b.toList) = true := by rw [strq_eq, decide_eq_true h]
theorem name_head {s : ByteArray} (h : ¬ (s ≠ ⟨#[]⟩ ∧ s ≠ ⟨#[46]⟩ ∧ s ≠ ⟨#[46, 46]⟩ ∧ s.size ≤ 32)) : nameL s.data.toList = false := by
  unfold nameL
  have e : decide (s.data.toList ≠ [] ∧ s.data.toList ≠ [46] ∧ s.data.toList ≠ [46, 46] ∧ s.data.toList.length ≤ 32) = false := by
    rw [decide_eq_false_iff_not]
    rintro ⟨h1, h2, h3, h4⟩
    refine h ⟨?_, ?_, ?_, by simpa using h4⟩
    · rintro rfl; exact h1 rfl
    · rintro rfl; exact h2 rfl
    · rintro rfl; exact h3 rfl
  rw [e, Bool.false_and]
theorem name_body {s : ByteArray} (h : s ≠ ⟨#[]⟩ ∧ s ≠ ⟨#[46]⟩ ∧ s ≠ ⟨#[46, 46]⟩ ∧ s.size ≤ 32) : nameL s.data.toList = s.data.toList.all okNB := by
  unfold nameL
  obtain ⟨h1, h2, h3, h4⟩ := h
  have hx : ∀ (l : List UInt8), s.data.toList = l → s = ⟨l.toArray⟩ := by
    intro l hl
    cases s
    simp at hl
    rw [← hl]
  have e : decide (s.data.toList ≠ [] ∧ s.data.toList ≠ [46] ∧ s.data.toList ≠ [46, 46] ∧ s.data.toList.length ≤ 32) = true := by
    rw [decide_eq_true_iff]
    exact ⟨fun e => h1 (hx _ e), fun e => h2 (hx _ e), fun e => h3 (hx _ e), by simpa using h4⟩
  rw [e, Bool.true_and]
theorem okTo_step {s : ByteArray} {i : Nat} (hi : i < s.size) (h : (s.data.toList.take i).all okNB = true) (hb : okNB s[i] = true) : (s.data.toList.take (i + 1)).all okNB = true := by
  rw [take_snoc s i hi, List.all_append, h]
  simpa using hb
theorem okTo_bad {s : ByteArray} {i : Nat} (hi : i < s.size) (hb : okNB s[i] = false) : s.data.toList.all okNB = false := by
  rw [List.all_eq_false]
  exact ⟨s[i], by
    have : s[i] = s.data.toList[i]'(by simpa using hi) := rfl
    rw [this]; exact List.getElem_mem _, by rw [hb]; simp⟩

set_option maxRecDepth 100000 in
set_option maxHeartbeats 2000000 in
theorem name_any (s : ByteArray) (w : World) :
    Calls Tryz.prog 149 #[.string s] w fun e w' => e = .returned (.bool (nameL s.data.toList)) ∧ Below w.heap.size w w' := by
  by_cases h : s ≠ ⟨#[]⟩ ∧ s ≠ ⟨#[46]⟩ ∧ s ≠ ⟨#[46, 46]⟩ ∧ s.size ≤ 32
  · have hn := name_body h
    obtain ⟨h1, h2, h3, h4⟩ := h
    have q1 := emptyq_ne h1
    have q2 := lstq_ne (l := [46]) h2
    have q3 := lstq_ne (l := [46, 46]) h3
    have n1 := lst_ne (l := []) h1
    have n2 := lst_ne (l := [46]) h2
    have n3 := lst_ne (l := [46, 46]) h3
    have Hn := Lib.hid hn
    clear h1 h2 h3 hn
    go_enter Tryz.func149, Tryz.ntmps149
    go_wp2
    go_loopw [4] (fun _ wr => ∃ pos : Nat, pos ≤ s.size ∧ wr = w.iter s pos ∧ Hid ((s.data.toList.take pos).all okNB = true)) (fun _ wr => s.size - wr.iterPos w.heap.size)
    case atStart => exact ⟨0, Nat.zero_le _, rfl, Lib.hid rfl⟩
    case round =>
      obtain ⟨pos, hps, rfl, Hok⟩ := hrel
      have hbw := (Below.refl w.heap.size w).alloc (Nat.le_refl _)
      by_cases hlt : pos < s.size
      · by_cases ha : (s[pos]'hlt).toNat < 128
        · have hnx := fun ty => run_next_ascii (P := Tryz.prog) w s pos ty hlt ha
          by_cases hok : okNB (s[pos]'hlt) = true
          · have hk := Lib.hid (okTo_step hlt Hok.out hok)
            have hok2 : 33 ≤ (s[pos]'hlt).toNat ∧ (s[pos]'hlt).toNat ≤ 126 := by simpa [okNB] using hok
            obtain ⟨hk1, hk2⟩ := hok2
            clear hok
            generalize (s[pos]'hlt).toNat = x at ha hnx hk1 hk2
            go_wp2
            go_roundw
            case rel => exact ⟨pos + 1, hlt, rfl, hk⟩
            case measure => rw [World.iterPos_iter, World.iterPos_iter]; omega
          · have hbad := Lib.hid (okTo_bad hlt (by simpa using hok))
            have hok2 : (s[pos]'hlt).toNat < 33 ∨ (126 < (s[pos]'hlt).toNat ∧ 33 ≤ (s[pos]'hlt).toNat) := by
              have : ¬ (33 ≤ (s[pos]'hlt).toNat ∧ (s[pos]'hlt).toNat ≤ 126) := by simpa [okNB] using hok
              omega
            clear hok
            generalize (s[pos]'hlt).toNat = x at ha hnx hok2
            rcases hok2 with h5 | ⟨h5, h6⟩
            all_goals
              go_wp2
              go_ret
              rw [Hn.out, hbad.out]
              exact ⟨rfl, hbw _⟩
        · have hnx := fun ty => run_next_any (P := Tryz.prog) w s pos ty hlt
          obtain ⟨hd1, hd2⟩ := decode_high s pos hlt (by omega)
          have hd3 := decode_le s pos
          have hbad := Lib.hid (okTo_bad hlt (by simp [okNB]; omega))
          generalize (Utf8.decode s pos).1 = x at hnx hd1 hd3
          generalize (Utf8.decode s pos).2 = y at hnx hd2
          go_wp2
          go_ret
          rw [Hn.out, hbad.out]
          exact ⟨rfl, hbw _⟩
      · have hnx := fun ty => run_next_end (P := Tryz.prog) w s pos ty hlt
        have hall := Lib.hid (show s.data.toList.all okNB = true by
          have h := Hok.out
          rw [List.take_of_length_le (by simp; omega)] at h
          exact h)
        go_wp2
        go_ret
        rw [Hn.out, hall.out]
        exact ⟨rfl, hbw _⟩
  · rw [name_head h]
    by_cases h1 : s = ⟨#[]⟩
    · subst h1
      clear h
      go_enter Tryz.func149, Tryz.ntmps149
      go_wp2
      go_ret
      exact ⟨rfl, Below.refl _ _⟩
    by_cases h2 : s = ⟨#[46]⟩
    · subst h2
      clear h
      go_enter Tryz.func149, Tryz.ntmps149
      go_wp2
      go_ret
      exact ⟨rfl, Below.refl _ _⟩
    by_cases h3 : s = ⟨#[46, 46]⟩
    · subst h3
      clear h
      go_enter Tryz.func149, Tryz.ntmps149
      go_wp2
      go_ret
      exact ⟨rfl, Below.refl _ _⟩
    have h4 : 32 < s.size := by
      rcases Nat.lt_or_ge 32 s.size with h' | h'
      · exact h'
      · exact absurd ⟨h1, h2, h3, h'⟩ h
    have q1 := emptyq_ne h1
    have q2 := lstq_ne (l := [46]) h2
    have q3 := lstq_ne (l := [46, 46]) h3
    have n1 := lst_ne (l := []) h1
    have n2 := lst_ne (l := [46]) h2
    have n3 := lst_ne (l := [46, 46]) h3
    clear h h1 h2 h3
    go_enter Tryz.func149, Tryz.ntmps149
    go_wp2
    go_ret
    exact ⟨rfl, Below.refl _ _⟩
theorem drop_cons (s : ByteArray) (k : Nat) (h : k < s.size) : s.data.toList.drop k = s[k] :: s.data.toList.drop (k + 1) := by
  rw [List.drop_eq_getElem_cons (by simpa using h)]; rfl
set_option maxRecDepth 100000 in
set_option maxHeartbeats 2000000 in
theorem order_any (a b : ByteArray) (w : World) (ha : a.size ≤ 9223372036854775807) (hb : b.size ≤ 9223372036854775807) :
    Calls Tryz.prog 132 #[.string a, .string b] w fun e w' => e = .returned (.int .i64 (ordZ a.data.toList b.data.toList)) ∧ ∃ n, w' = w.drewN n := by
  obtain ⟨m, hm, hm1, hm2, hm3⟩ : ∃ m : Nat, min (a.size : Int) (b.size : Int) = (m : Int) ∧ m ≤ a.size ∧ m ≤ b.size ∧ (m = a.size ∨ m = b.size) := ⟨min a.size b.size, by omega, by omega, by omega, by omega⟩
  have hend0 : ordZ (a.data.toList.drop m) (b.data.toList.drop m) = (a.size : Int) - (b.size : Int) := by
    rcases hm3 with h | h
    · rw [List.drop_of_length_le (l := a.data.toList) (by simp; omega), ordZ_nil, List.length_drop, show b.data.toList.length = b.size by simp]
      omega
    · rw [List.drop_of_length_le (l := b.data.toList) (by simp; omega), ordZ_nil2, List.length_drop, show a.data.toList.length = a.size by simp]
      omega
  have hend := Lib.hid hend0
  clear hm3 hend0
  go_enter Tryz.func132, Tryz.ntmps132
  go_wp2
  go_loopw [5, 6, 7, 13] (fun _ _ _ i wr => ∃ k : Nat, (∃ n, wr = w.drewN n) ∧ i = .int .i64 k ∧ k ≤ m ∧ Hid (ordZ a.data.toList b.data.toList = ordZ (a.data.toList.drop k) (b.data.toList.drop k))) (fun _ _ _ i _ => m - (intOf i).toNat)
  case atStart => exact ⟨0, ⟨0, rfl⟩, rfl, Nat.zero_le _, Lib.hid rfl⟩
  case round =>
    obtain ⟨k, ⟨n, rfl⟩, rfl, hk, Hz⟩ := hrel
    by_cases hlt : k < m
    · have hka : k < a.size := by omega
      have hkb : k < b.size := by omega
      have hz := Lib.hid (show ordZ a.data.toList b.data.toList = _ by rw [Hz.out, drop_cons a k hka, drop_cons b k hkb, ordZ_cons])
      have ba := (a[k]'hka).toNat_lt
      have bb := (b[k]'hkb).toNat_lt
      have ka : (k : Int) < (a.size : Int) := by omega
      have kb : (k : Int) < (b.size : Int) := by omega
      by_cases hxy : (a[k]'hka) = (b[k]'hkb)
      · have hz2 := Lib.hid (show ordZ a.data.toList b.data.toList = ordZ (a.data.toList.drop (k + 1)) (b.data.toList.drop (k + 1)) by rw [hz.out, if_pos hxy])
        have e1 : (((a[k]'hka).toNat : Int) == ((b[k]'hkb).toNat : Int)) = true := by rw [hxy]; simp
        clear hz hxy
        go_wp2
        go_quiet (fail)
        go_wp2
        go_roundw
        case rel => exact ⟨k + 1, ⟨_, rfl⟩, by go_num, by omega, hz2⟩
        case measure => simp [intOf]; omega
      · have e1 : (((a[k]'hka).toNat : Int) == ((b[k]'hkb).toNat : Int)) = false := beq_eq_false_iff_ne.2 (toNat_ne hxy)
        by_cases hx47 : (a[k]'hka) = 47
        · have hz2 := Lib.hid (show ordZ a.data.toList b.data.toList = -1 by rw [hz.out, if_neg hxy, if_pos hx47])
          have e2 : (((a[k]'hka).toNat : Int) == 47) = true := by rw [hx47]; rfl
          clear hz hxy hx47
          go_wp2
          go_quiet (fail)
          go_wp2
          go_ret
          exact ⟨ret_int hz2.out.symm, _, rfl⟩
        · have e2 : (((a[k]'hka).toNat : Int) == 47) = false := beq_eq_false_iff_ne.2 (fun e => toNat_ne hx47 e)
          by_cases hy47 : (b[k]'hkb) = 47
          · have hz2 := Lib.hid (show ordZ a.data.toList b.data.toList = 1 by rw [hz.out, if_neg hxy, if_neg hx47, if_pos hy47])
            have e3 : (((b[k]'hkb).toNat : Int) == 47) = true := by rw [hy47]; rfl
            clear hz hxy hx47 hy47
            go_wp2
            go_quiet (fail)
            go_wp2
            go_ret
            exact ⟨ret_int hz2.out.symm, _, rfl⟩
          · have hz2 := Lib.hid (show ordZ a.data.toList b.data.toList = ((a[k]'hka).toNat : Int) - ((b[k]'hkb).toNat : Int) by rw [hz.out, if_neg hxy, if_neg hx47, if_neg hy47])
            have e3 : (((b[k]'hkb).toNat : Int) == 47) = false := beq_eq_false_iff_ne.2 (fun e => toNat_ne hy47 e)
            clear hz hxy hx47 hy47
            go_wp2
            go_quiet (fail)
            go_wp2
            go_ret
            exact ⟨ret_int hz2.out.symm, _, rfl⟩
    · obtain rfl : k = m := by omega
      have hz := Lib.hid (Hz.out.trans hend.out)
      go_wp2
      go_ret
      exact ⟨ret_int hz.out.symm, _, rfl⟩
end Go.Proofs.YtmmnaieikfekfaaGreatDoor
