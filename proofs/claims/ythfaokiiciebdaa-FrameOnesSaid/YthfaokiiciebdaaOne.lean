/- The walks of One: the frame with which bytes begin (frame and barqueref02), by one plain function. Condition: texts of at most 2^40 bytes. -/
import Derived.Test.YthfaokiiciebdaaRefAdd
import Derived.Test.YthfaokiiciebdaaNumber
import Derived.Deep.DeepCutAuto
import Derived.Deep.RegionWith
namespace Go.Proofs.Ythfaokiiciebdaa
open Go.RowKit

/-- the sum of a text, and four bytes' number: behind names that the walk does not open -/
def csum (s : ByteArray) : Nat := Crc.sum 0 s.data.toList
def cnum (s : ByteArray) : Nat := Crc.num s.data.toList
theorem csum_any (s : ByteArray) (w : World) (hs : s.size ≤ maxLen) :
    Calls Try.prog 12 #[.string s] w fun e w' => e = .returned (.int .i64 (csum s)) ∧ w = w' := sum_any s w hs
theorem cnum_any (s : ByteArray) (w : World) (hs : s.size = 4) :
    Calls Try.prog 28 #[.string s] w fun e w' => e = .returned (.int .i64 (cnum s)) ∧ ∃ n, w' = w.drewN n := number_any s w hs
theorem refCsum_any (s : ByteArray) (w : World) (hs : s.size ≤ 1099511627776) :
    Calls Try.prog 13 #[.string s] w fun e w' => e = .returned (.int .i64 (csum s)) ∧ Below w.heap.size w w' := refSum_any s w hs
theorem refCnum_any (s : ByteArray) (w : World) (hs : s.size = 4) :
    Calls Try.prog 29 #[.string s] w fun e w' => e = .returned (.int .i64 (cnum s)) ∧ w = w' := refNumber_any s w hs

def one (s : ByteArray) : ByteArray × Nat × Nat :=
  if s.size = 0 then (ByteArray.empty, 0, 3)
  else if (s.data.toList.getD 0 0).toNat ≠ 181 ∨ (1 < s.size ∧ (s.data.toList.getD 1 0).toNat ≠ 126) then (ByteArray.empty, 0, 5)
  else if s.size < 6 then (ByteArray.empty, 0, 3)
  else if 65536 < cnum (s.extract 2 6) then (ByteArray.empty, 0, 4)
  else if s.size < 10 + cnum (s.extract 2 6) then (ByteArray.empty, 0, 3)
  else if csum (s.extract 2 6 ++ s.extract 10 (10 + cnum (s.extract 2 6))) ≠ cnum (s.extract 6 10) then (ByteArray.empty, 0, 6)
  else (s.extract 10 (10 + cnum (s.extract 2 6)), 10 + cnum (s.extract 2 6), 0)

/-- the ways through One, each with its tests as the walk spells them -/
def OneWay (s : ByteArray) : Prop :=
  (s.size = 0 ∧ one s = (ByteArray.empty, 0, 3)) ∨
  (∃ _ : 0 < s.size, ((s[0].toNat : Int) != 181) = true ∧ one s = (ByteArray.empty, 0, 5)) ∨
  (∃ _ : 1 < s.size, ((s[0].toNat : Int) != 181) = false ∧ ((s[1].toNat : Int) != 126) = true ∧ one s = (ByteArray.empty, 0, 5)) ∨
  (∃ (_ : s.size = 1) (_ : 0 < s.size), ((s[0].toNat : Int) != 181) = false ∧ one s = (ByteArray.empty, 0, 3)) ∨
  (∃ _ : 1 < s.size, ((s[0].toNat : Int) != 181) = false ∧ ((s[1].toNat : Int) != 126) = false ∧ s.size < 6 ∧ one s = (ByteArray.empty, 0, 3)) ∨
  (∃ _ : 1 < s.size, ((s[0].toNat : Int) != 181) = false ∧ ((s[1].toNat : Int) != 126) = false ∧ 6 ≤ s.size ∧ ∃ n, n = cnum (s.extract 2 6) ∧ 65536 < n ∧ n < 4294967296 ∧ one s = (ByteArray.empty, 0, 4)) ∨
  (∃ _ : 1 < s.size, ((s[0].toNat : Int) != 181) = false ∧ ((s[1].toNat : Int) != 126) = false ∧ 6 ≤ s.size ∧ ∃ n, n = cnum (s.extract 2 6) ∧ n ≤ 65536 ∧ s.size < 10 + n ∧ one s = (ByteArray.empty, 0, 3)) ∨
  (∃ _ : 1 < s.size, ((s[0].toNat : Int) != 181) = false ∧ ((s[1].toNat : Int) != 126) = false ∧ 6 ≤ s.size ∧ ∃ n, n = cnum (s.extract 2 6) ∧ n ≤ 65536 ∧ 10 + n ≤ s.size ∧
      csum (s.extract 2 6 ++ s.extract 10 (10 + n)) ≠ cnum (s.extract 6 10) ∧ one s = (ByteArray.empty, 0, 6)) ∨
  (∃ _ : 1 < s.size, ((s[0].toNat : Int) != 181) = false ∧ ((s[1].toNat : Int) != 126) = false ∧ 6 ≤ s.size ∧ ∃ n, n = cnum (s.extract 2 6) ∧ n ≤ 65536 ∧ 10 + n ≤ s.size ∧
      csum (s.extract 2 6 ++ s.extract 10 (10 + n)) = cnum (s.extract 6 10) ∧ one s = (s.extract 10 (10 + n), 10 + n, 0))

theorem getD_at (s : ByteArray) (i : Nat) (h : i < s.size) : s.data.toList.getD i 0 = s[i] := by
  have h' : i < s.data.toList.length := by simpa using h
  rw [List.getD, List.getElem?_eq_getElem h']
  rfl
theorem bne_of {a b : Nat} (h : a ≠ b) : ((a : Int) != (b : Int)) = true := by rw [bne_iff_ne]; omega
theorem bne_no {a b : Nat} (h : a = b) : ((a : Int) != (b : Int)) = false := by subst h; simp

theorem way_empty {s : ByteArray} (h : s.size = 0) (v : one s = (ByteArray.empty, 0, 3)) : OneWay s := Or.inl ⟨h, v⟩
theorem way_first {s : ByteArray} (h : 0 < s.size) (t : ((s[0].toNat : Int) != 181) = true) (v : one s = (ByteArray.empty, 0, 5)) : OneWay s := Or.inr (Or.inl ⟨h, t, v⟩)
theorem way_second {s : ByteArray} (h : 1 < s.size) (t : ((s[0].toNat : Int) != 181) = false) (t1 : ((s[1].toNat : Int) != 126) = true) (v : one s = (ByteArray.empty, 0, 5)) : OneWay s := Or.inr (Or.inr (Or.inl ⟨h, t, t1, v⟩))
theorem way_lone {s : ByteArray} (h : s.size = 1) (h0 : 0 < s.size) (t : ((s[0].toNat : Int) != 181) = false) (v : one s = (ByteArray.empty, 0, 3)) : OneWay s := Or.inr (Or.inr (Or.inr (Or.inl ⟨h, h0, t, v⟩)))
theorem way_short {s : ByteArray} (h : 1 < s.size) (t : ((s[0].toNat : Int) != 181) = false) (t1 : ((s[1].toNat : Int) != 126) = false) (h6 : s.size < 6) (v : one s = (ByteArray.empty, 0, 3)) : OneWay s := Or.inr (Or.inr (Or.inr (Or.inr (Or.inl ⟨h, t, t1, h6, v⟩))))
theorem way_long {s : ByteArray} (h : 1 < s.size) (t : ((s[0].toNat : Int) != 181) = false) (t1 : ((s[1].toNat : Int) != 126) = false) (h6 : 6 ≤ s.size) (n : Nat) (hn : n = cnum (s.extract 2 6)) (hn1 : 65536 < n) (hn2 : n < 4294967296) (v : one s = (ByteArray.empty, 0, 4)) : OneWay s :=
  Or.inr (Or.inr (Or.inr (Or.inr (Or.inr (Or.inl ⟨h, t, t1, h6, n, hn, hn1, hn2, v⟩)))))
theorem way_lacks {s : ByteArray} (h : 1 < s.size) (t : ((s[0].toNat : Int) != 181) = false) (t1 : ((s[1].toNat : Int) != 126) = false) (h6 : 6 ≤ s.size) (n : Nat) (hn : n = cnum (s.extract 2 6)) (hn1 : n ≤ 65536) (hn2 : s.size < 10 + n) (v : one s = (ByteArray.empty, 0, 3)) : OneWay s :=
  Or.inr (Or.inr (Or.inr (Or.inr (Or.inr (Or.inr (Or.inl ⟨h, t, t1, h6, n, hn, hn1, hn2, v⟩))))))
theorem way_sum {s : ByteArray} (h : 1 < s.size) (t : ((s[0].toNat : Int) != 181) = false) (t1 : ((s[1].toNat : Int) != 126) = false) (h6 : 6 ≤ s.size) (n : Nat) (hn : n = cnum (s.extract 2 6)) (hn1 : n ≤ 65536) (hn2 : 10 + n ≤ s.size)
    (hs : csum (s.extract 2 6 ++ s.extract 10 (10 + n)) ≠ cnum (s.extract 6 10)) (v : one s = (ByteArray.empty, 0, 6)) : OneWay s :=
  Or.inr (Or.inr (Or.inr (Or.inr (Or.inr (Or.inr (Or.inr (Or.inl ⟨h, t, t1, h6, n, hn, hn1, hn2, hs, v⟩)))))))
theorem way_ok {s : ByteArray} (h : 1 < s.size) (t : ((s[0].toNat : Int) != 181) = false) (t1 : ((s[1].toNat : Int) != 126) = false) (h6 : 6 ≤ s.size) (n : Nat) (hn : n = cnum (s.extract 2 6)) (hn1 : n ≤ 65536) (hn2 : 10 + n ≤ s.size)
    (hs : csum (s.extract 2 6 ++ s.extract 10 (10 + n)) = cnum (s.extract 6 10)) (v : one s = (s.extract 10 (10 + n), 10 + n, 0)) : OneWay s :=
  Or.inr (Or.inr (Or.inr (Or.inr (Or.inr (Or.inr (Or.inr (Or.inr ⟨h, t, t1, h6, n, hn, hn1, hn2, hs, v⟩)))))))

theorem oneWay (s : ByteArray) : OneWay s := by
  by_cases h0 : s.size = 0
  · exact way_empty h0 (by rw [one, if_pos h0])
  have hp : 0 < s.size := by omega
  by_cases hf : s[0].toNat = 181
  · by_cases h1 : s.size = 1
    · exact way_lone h1 hp (bne_no hf) (by rw [one, if_neg h0, if_neg (by rw [getD_at s 0 hp]; omega), if_pos (by omega)])
    · have hp1 : 1 < s.size := by omega
      by_cases hg : s[1].toNat = 126
      · have hc : ¬ ((s.data.toList.getD 0 0).toNat ≠ 181 ∨ (1 < s.size ∧ (s.data.toList.getD 1 0).toNat ≠ 126)) := by rw [getD_at s 0 hp, getD_at s 1 hp1]; omega
        by_cases h6 : s.size < 6
        · exact way_short hp1 (bne_no hf) (bne_no hg) h6 (by rw [one, if_neg h0, if_neg hc, if_pos h6])
        · have h6' : 6 ≤ s.size := by omega
          have hlt : cnum (s.extract 2 6) < 4294967296 := by
            have := num_lt (s.extract 2 6).data.toList
            unfold cnum
            have h4 : (s.extract 2 6).data.toList.length = 4 := by simp; omega
            rw [h4] at this
            omega
          by_cases hn1 : 65536 < cnum (s.extract 2 6)
          · exact way_long hp1 (bne_no hf) (bne_no hg) h6' _ rfl hn1 hlt (by rw [one, if_neg h0, if_neg hc, if_neg h6, if_pos hn1])
          · by_cases hn2 : s.size < 10 + cnum (s.extract 2 6)
            · exact way_lacks hp1 (bne_no hf) (bne_no hg) h6' _ rfl (by omega) hn2 (by rw [one, if_neg h0, if_neg hc, if_neg h6, if_neg hn1, if_pos hn2])
            · by_cases hs : csum (s.extract 2 6 ++ s.extract 10 (10 + cnum (s.extract 2 6))) = cnum (s.extract 6 10)
              · exact way_ok hp1 (bne_no hf) (bne_no hg) h6' _ rfl (by omega) (by omega) hs (by rw [one, if_neg h0, if_neg hc, if_neg h6, if_neg hn1, if_neg hn2, if_neg (by simpa using hs)])
              · exact way_sum hp1 (bne_no hf) (bne_no hg) h6' _ rfl (by omega) (by omega) hs (by rw [one, if_neg h0, if_neg hc, if_neg h6, if_neg hn1, if_neg hn2, if_pos hs])
      · exact way_second hp1 (bne_no hf) (bne_of hg) (by rw [one, if_neg h0, if_pos (by rw [getD_at s 0 hp, getD_at s 1 hp1]; omega)])
  · exact way_first hp (bne_of hf) (by rw [one, if_neg h0, if_pos (by rw [getD_at s 0 hp]; omega)])

theorem notEmpty (s : ByteArray) (h : 0 < s.size) : s.toList.isEmpty = false := by
  rw [ByteArray.toList_eq]
  cases hq : s.data.toList with
  | nil =>
    have h2 : s.data.size = 0 := by simp at hq; rw [hq]; rfl
    have h3 : 0 < s.data.size := h
    omega
  | cons a l => rfl

def OneSays (s : ByteArray) (w : World) (e : Ending) (w' : World) : Prop :=
  e = .returned (.tuple #[.string (one s).1, .int .i64 ((one s).2.1 : Nat), .int .i64 ((one s).2.2 : Nat)]) ∧ ∃ n, w' = w.drewN n

theorem oneSays {s : ByteArray} {w w' : World} {p : ByteArray} {n e : Nat} (hv : one s = (p, n, e)) (hw : ∃ n, w' = w.drewN n) :
    OneSays s w (.returned (.tuple #[.string p, .int .i64 (n : Int), .int .i64 (e : Int)])) w' := by
  refine ⟨?_, hw⟩
  rw [hv]

set_option maxHeartbeats 1000000 in
theorem one_any (s : ByteArray) (w : World) (hs : s.size ≤ 1099511627776) :
    Calls Try.prog 17 #[.string s] w (OneSays s w) := by
  rcases oneWay s with ⟨h, v⟩ | ⟨h, t, v⟩ | ⟨h, t, t1, v⟩ | ⟨h, h0, t, v⟩ | ⟨h, t, t1, h6, v⟩ | ⟨h, t, t1, h6, n, hn, hn1, hn2, v⟩ | ⟨h, t, t1, h6, n, hn, hn1, hn2, v⟩ | ⟨h, t, t1, h6, n, hn, hn1, hn2, hq, v⟩ | ⟨h, t, t1, h6, n, hn, hn1, hn2, hq, v⟩
  · have V := Lib.hid v
    have he : s.toList.isEmpty = true := by rw [ByteArray.toList_eq]; have h2 : s.data = #[] := Array.size_eq_zero_iff.1 h; rw [h2]; rfl
    clear v h
    go_enter Try.func17, Try.ntmps17
    go_wp2
    go_ret3
    exact oneSays V.out ⟨0, rfl⟩
  · have V := Lib.hid v
    have he := notEmpty s h
    clear v
    go_enter Try.func17, Try.ntmps17
    go_wp2
    go_ret3
    exact oneSays V.out ⟨0, rfl⟩
  · have V := Lib.hid v
    have he := notEmpty s (by omega)
    clear v
    go_enter Try.func17, Try.ntmps17
    go_wp2
    go_ret3
    exact oneSays V.out ⟨0, rfl⟩
  · have V := Lib.hid v
    have he := notEmpty s (by omega)
    have h1 : s.size ≤ 1 := by omega
    clear v h
    go_enter Try.func17, Try.ntmps17
    go_wp2
    go_ret3
    exact oneSays V.out ⟨0, rfl⟩
  · have V := Lib.hid v
    have he := notEmpty s (by omega)
    clear v
    go_enter Try.func17, Try.ntmps17
    go_wp2
    go_ret3
    exact oneSays V.out ⟨0, rfl⟩
  · have V := Lib.hid v
    have he := notEmpty s (by omega)
    have Hn := Lib.hid hn
    clear v hn
    go_enter Try.func17, Try.ntmps17
    go_wp2_with fail
    refine (cnum_any _ _ (by simp; omega)).mono ?_
    rintro e w' ⟨rfl, nq, rfl⟩
    rw [← Hn.out]
    go_wp2
    go_ret3
    exact oneSays V.out ⟨_, rfl⟩
  · have V := Lib.hid v
    have he := notEmpty s (by omega)
    have Hn := Lib.hid hn
    clear v hn
    go_enter Try.func17, Try.ntmps17
    go_wp2_with fail
    refine (cnum_any _ _ (by simp; omega)).mono ?_
    rintro e w' ⟨rfl, nq, rfl⟩
    rw [← Hn.out]
    go_wp2
    go_ret3
    exact oneSays V.out ⟨_, rfl⟩
  · have V := Lib.hid v
    have he := notEmpty s (by omega)
    have Hn := Lib.hid hn
    have hqq := Lib.hid (bne_of hq)
    clear v hn hq
    go_enter Try.func17, Try.ntmps17
    go_wp2_with fail
    refine (cnum_any _ _ (by simp; omega)).mono ?_
    rintro e w' ⟨rfl, nq, rfl⟩
    rw [← Hn.out]
    go_wp2
    go_quiet (first | (go_at_call 12; exact quiet_add_left (csum_any _ _ (by unfold maxLen; simp; omega))) | (go_at_call 28; exact quiet_add (cnum_any _ _ (by simp; omega))))
    have hq2 := hqq.out
    go_wp2
    go_ret3
    first | exact oneSays V.out ⟨_, rfl⟩ | exact oneSays V.out ⟨_, World.drewN_drewN _ _ _⟩
  · have V := Lib.hid v
    have he := notEmpty s (by omega)
    have Hn := Lib.hid hn
    have hqq := Lib.hid (bne_no hq)
    clear v hn hq
    go_enter Try.func17, Try.ntmps17
    go_wp2_with fail
    refine (cnum_any _ _ (by simp; omega)).mono ?_
    rintro e w' ⟨rfl, nq, rfl⟩
    rw [← Hn.out]
    go_wp2
    go_quiet (first | (go_at_call 12; exact quiet_add_left (csum_any _ _ (by unfold maxLen; simp; omega))) | (go_at_call 28; exact quiet_add (cnum_any _ _ (by simp; omega))))
    have hq2 := hqq.out
    go_wp2
    go_ret3
    first | exact oneSays V.out ⟨_, rfl⟩ | exact oneSays V.out ⟨_, World.drewN_drewN _ _ _⟩

def OneSaysB (s : ByteArray) (w : World) (e : Ending) (w' : World) : Prop :=
  e = .returned (.tuple #[.string (one s).1, .int .i64 ((one s).2.1 : Nat), .int .i64 ((one s).2.2 : Nat)]) ∧ Below w.heap.size w w'

theorem oneSaysB {s : ByteArray} {w w' : World} {p : ByteArray} {n e : Nat} (hv : one s = (p, n, e)) (hw : Below w.heap.size w w') :
    OneSaysB s w (.returned (.tuple #[.string p, .int .i64 (n : Int), .int .i64 (e : Int)])) w' := by
  refine ⟨?_, hw⟩
  rw [hv]

set_option maxHeartbeats 1000000 in
theorem refOne_any (s : ByteArray) (w : World) (hs : s.size ≤ 1099511627776) :
    Calls Try.prog 18 #[.string s] w (OneSaysB s w) := by
  rcases oneWay s with ⟨h, v⟩ | ⟨h, t, v⟩ | ⟨h, t, t1, v⟩ | ⟨h, h0, t, v⟩ | ⟨h, t, t1, h6, v⟩ | ⟨h, t, t1, h6, n, hn, hn1, hn2, v⟩ | ⟨h, t, t1, h6, n, hn, hn1, hn2, v⟩ | ⟨h, t, t1, h6, n, hn, hn1, hn2, hq, v⟩ | ⟨h, t, t1, h6, n, hn, hn1, hn2, hq, v⟩
  · have V := Lib.hid v
    have h1 : s.size ≤ 0 := by omega
    clear v h
    go_enter Try.func18, Try.ntmps18
    go_wp2
    go_ret3
    exact oneSaysB V.out (Below.refl _ _)
  · have V := Lib.hid v
    clear v
    go_enter Try.func18, Try.ntmps18
    go_wp2
    go_ret3
    exact oneSaysB V.out (Below.refl _ _)
  · have V := Lib.hid v
    have h0 : 0 < s.size := by omega
    clear v
    go_enter Try.func18, Try.ntmps18
    go_wp2
    go_ret3
    exact oneSaysB V.out (Below.refl _ _)
  · have V := Lib.hid v
    have h1 : s.size ≤ 1 := by omega
    clear v h
    go_enter Try.func18, Try.ntmps18
    go_wp2
    go_ret3
    exact oneSaysB V.out (Below.refl _ _)
  · have V := Lib.hid v
    have h0 : 0 < s.size := by omega
    clear v
    go_enter Try.func18, Try.ntmps18
    go_wp2
    go_ret3
    exact oneSaysB V.out (Below.refl _ _)
  · have V := Lib.hid v
    have h0 : 0 < s.size := by omega
    have Hn := Lib.hid hn
    clear v hn
    go_enter Try.func18, Try.ntmps18
    go_wp2_with fail
    refine (refCnum_any _ _ (by simp; omega)).mono ?_
    rintro e w' ⟨rfl, rfl⟩
    rw [← Hn.out]
    go_wp2
    go_ret3
    exact oneSaysB V.out (Below.refl _ _)
  · have V := Lib.hid v
    have h0 : 0 < s.size := by omega
    have Hn := Lib.hid hn
    clear v hn
    go_enter Try.func18, Try.ntmps18
    go_wp2_with fail
    refine (refCnum_any _ _ (by simp; omega)).mono ?_
    rintro e w' ⟨rfl, rfl⟩
    rw [← Hn.out]
    go_wp2
    go_ret3
    exact oneSaysB V.out (Below.refl _ _)
  · have V := Lib.hid v
    have h0 : 0 < s.size := by omega
    have Hn := Lib.hid hn
    have hqq := Lib.hid (bne_of (Ne.symm hq))
    clear v hn hq
    go_enter Try.func18, Try.ntmps18
    go_wp2_with fail
    refine (refCnum_any _ _ (by simp; omega)).mono ?_
    rintro e w' ⟨rfl, rfl⟩
    rw [← Hn.out]
    go_upto_region 10 with (fail)
    go_cut [48] (fun v wx => v = .bool true ∧ Below w.heap.size w wx)
    case first =>
      have hx1 : IntKind.i64.wrap (10 + (n : Int)) = 10 + (n : Int) := IntWalk.i64_in _ (by omega)
      have hx2 : (0 : Int) ≤ 10 + (n : Int) := by omega
      have hx3 : (10 + (n : Int)).toNat = 10 + n := by omega
      have hx4 : (10 : Int) ≤ (s.size : Int) := by omega
      have hx5 : 10 + (n : Int) ≤ (s.size : Int) := by omega
      have hx6 : (10 : Int) ≤ 10 + (n : Int) := by omega
      have hx7 : ¬ 9223372036854775807 < 4 + n := by omega
      go_region_held3 (fun w' => Below w.heap.size w w') (first | exact (Below.refl _ _).drew | exact below_step (by assumption) (by assumption) | assumption) (first | (go_at_call 13; refine (refCsum_any _ _ (by simp; omega)).mono ?_; rintro e w1 ⟨rfl, hb⟩) | (go_at_call 29; refine (refCnum_any _ _ (by simp; omega)).mono ?_; rintro e w' ⟨rfl, rfl⟩))
      all_goals clear hx1 hx2 hx3 hx4 hx5 hx6 hx7
      all_goals (go_wp2_with fail; go_meet)
      all_goals exact ⟨congrArg Value.bool hqq.out, by assumption⟩
    case rest =>
      obtain ⟨rfl, hb⟩ := hcut
      go_wp2
      go_ret3
      exact oneSaysB V.out hb
  · have V := Lib.hid v
    have h0 : 0 < s.size := by omega
    have Hn := Lib.hid hn
    have hqq := Lib.hid (bne_no hq.symm)
    clear v hn hq
    go_enter Try.func18, Try.ntmps18
    go_wp2_with fail
    refine (refCnum_any _ _ (by simp; omega)).mono ?_
    rintro e w' ⟨rfl, rfl⟩
    rw [← Hn.out]
    go_upto_region 10 with (fail)
    go_cut [48] (fun v wx => v = .bool false ∧ Below w.heap.size w wx)
    case first =>
      have hx1 : IntKind.i64.wrap (10 + (n : Int)) = 10 + (n : Int) := IntWalk.i64_in _ (by omega)
      have hx2 : (0 : Int) ≤ 10 + (n : Int) := by omega
      have hx3 : (10 + (n : Int)).toNat = 10 + n := by omega
      have hx4 : (10 : Int) ≤ (s.size : Int) := by omega
      have hx5 : 10 + (n : Int) ≤ (s.size : Int) := by omega
      have hx6 : (10 : Int) ≤ 10 + (n : Int) := by omega
      have hx7 : ¬ 9223372036854775807 < 4 + n := by omega
      go_region_held3 (fun w' => Below w.heap.size w w') (first | exact (Below.refl _ _).drew | exact below_step (by assumption) (by assumption) | assumption) (first | (go_at_call 13; refine (refCsum_any _ _ (by simp; omega)).mono ?_; rintro e w1 ⟨rfl, hb⟩) | (go_at_call 29; refine (refCnum_any _ _ (by simp; omega)).mono ?_; rintro e w' ⟨rfl, rfl⟩))
      all_goals clear hx1 hx2 hx3 hx4 hx5 hx6 hx7
      all_goals (go_wp2_with fail; go_meet)
      all_goals exact ⟨congrArg Value.bool hqq.out, by assumption⟩
    case rest =>
      obtain ⟨rfl, hb⟩ := hcut
      go_wp2
      go_ret3
      exact oneSaysB V.out hb
/-- a frame that is found has a payload of the length that it says -/
theorem one_ok {s p : ByteArray} {n e : Nat} (h : one s = (p, n, e)) (he : e = 0) : p = s.extract 10 n ∧ 10 ≤ n ∧ n ≤ s.size ∧ n ≤ 65546 := by
  rcases oneWay s with ⟨_, v⟩ | ⟨_, t, v⟩ | ⟨_, t, t1, v⟩ | ⟨_, h0, t, v⟩ | ⟨_, t, t1, h6, v⟩ | ⟨_, t, t1, h6, m, hn, hn1, hn2, v⟩ | ⟨_, t, t1, h6, m, hn, hn1, hn2, v⟩ | ⟨_, t, t1, h6, m, hn, hn1, hn2, hq, v⟩ | ⟨_, t, t1, h6, m, hn, hn1, hn2, hq, v⟩
  all_goals
    rw [h] at v
    simp only [Prod.mk.injEq] at v
    obtain ⟨v1, v2, v3⟩ := v
  all_goals first | omega | skip
  exact ⟨by rw [v1, v2], by omega, by omega, by omega⟩
end Go.Proofs.Ythfaokiiciebdaa
