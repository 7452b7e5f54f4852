/- The walk of DiskFull. No condition. -/
import Derived.Test.YtlmodbaeoheiiaaCuts
namespace Go.Proofs.Ytlmodbaeoheiiaa
open Go.RowKit

def cutT (s : ByteArray) : ByteArray := if 700 < s.size then s.extract 0 700 else s
theorem cutT_size (s : ByteArray) : (cutT s).size ≤ 700 := by
  unfold cutT
  split
  · rw [ByteArray.size_extract]; omega
  · omega
theorem cut_any (s : ByteArray) (w : World) : Calls Try.prog 10 #[.string s] w fun e w' => e = .returned (.string (cutT s)) ∧ w = w' := by
  unfold cutT
  by_cases h : 700 < s.size
  · have h2 : (700 : Int) ≤ (s.size : Int) := by omega
    rw [if_pos h]
    go_enter Try.func10, Try.ntmps10
    go_wp2
    go_ret
    exact ⟨rfl, rfl⟩
  · rw [if_neg h]
    go_enter Try.func10, Try.ntmps10
    go_wp2
    go_ret
    exact ⟨rfl, rfl⟩
/-- a device with one file -/
def devA (n : Int) (wait : List DPiece) (last seen : List UInt8) (fuse : Int) (off : Bool) (count : Int) : PS := ⟨[⟨0, ⟨#[97]⟩, last, seen⟩], wait, n, fuse, off, count, 1⟩
theorem createA (n : Int) : (newP n).create ⟨#[97]⟩ = (0, devA n [] [] [] (-1) false 0) := by kernel_rfl
theorem findA (f : PF) (h : f.name = ⟨#[97]⟩) : findI [f] ⟨#[97]⟩ = some 0 := by
  unfold findI
  rw [List.findIdx?_cons, h]
  simp
theorem usedA (f : PF) : usedP [f] = secs (max f.seen.length f.last.length) := by unfold usedP secsP; simp
theorem writeA {n : Int} {wt : List DPiece} {last seen : List UInt8} {fu : Int} {c : Int} {a : Nat} {t : ByteArray} (h : (a : Int) ≤ 2097152 - (t.size : Int)) :
    (devA n wt last seen fu false c).write ⟨#[97]⟩ a t = if 0 < t.size ∧ n - ((secs (max seen.length last.length) : Nat) : Int) < ((secs (a + t.size) : Nat) : Int) - ((secs (max seen.length last.length) : Nat) : Int) then (7, devA n wt last seen fu false c) else wrGo t.size (devA n wt last seen fu false c) 0 a t := by
  rw [write_eq (P := devA n wt last seen fu false c) (i := 0) rfl (findA _ rfl) h]
  have e1 : usedP (devA n wt last seen fu false c).files = secs (max seen.length last.length) := usedA _
  have e2 : secsI (devA n wt last seen fu false c) 0 = secs (max seen.length last.length) := rfl
  rw [e1, e2]
  rfl
theorem writeA_none {n : Int} {wt : List DPiece} {last seen : List UInt8} {fu : Int} {c : Int} {a : Nat} {t : ByteArray} (h : (a : Int) ≤ 2097152 - (t.size : Int)) (h0 : t.size = 0) : (devA n wt last seen fu false c).write ⟨#[97]⟩ a t = (0, devA n wt last seen fu false c) := by
  rw [writeA h, if_neg (by omega)]
  exact wrGo_done h0
theorem writeA_full {n : Int} {wt : List DPiece} {last seen : List UInt8} {fu : Int} {c : Int} {a : Nat} {t : ByteArray} (h : (a : Int) ≤ 2097152 - (t.size : Int)) (h0 : 0 < t.size) (hf : n < ((secs (a + t.size) : Nat) : Int)) : (devA n wt last seen fu false c).write ⟨#[97]⟩ a t = (7, devA n wt last seen fu false c) := by
  rw [writeA h, if_pos ⟨h0, by omega⟩]
theorem writeA_ok {n : Int} {wt : List DPiece} {last seen : List UInt8} {fu : Int} {c : Int} {a : Nat} {t : ByteArray} (h : (a : Int) ≤ 2097152 - (t.size : Int)) (h0 : 0 < t.size) (hf : ((secs (a + t.size) : Nat) : Int) ≤ n) (hfu : fu < 0 ∨ ((cutsP 0 t.size a t).length : Int) ≤ fu) :
    (devA n wt last seen fu false c).write ⟨#[97]⟩ a t = (0, devA n (wt ++ cutsP 0 t.size a t) last (layB seen a t.data.toList) (if 0 ≤ fu then fu - ((cutsP 0 t.size a t).length : Nat) else fu) false (c + ((cutsP 0 t.size a t).length : Nat))) := by
  rw [writeA h, if_neg (by omega)]
  exact wrGo_all t.size (devA n wt last seen fu false c) 0 a t (Nat.le_refl _) h0 hfu
theorem writeA_off {n : Int} {wt : List DPiece} {last seen : List UInt8} {c : Int} {a : Nat} {t : ByteArray} (h : (a : Int) ≤ 2097152 - (t.size : Int)) (h0 : 0 < t.size) (hf : ((secs (a + t.size) : Nat) : Int) ≤ n) : (devA n wt last seen 0 false c).write ⟨#[97]⟩ a t = (14, devA n wt last seen 0 true c) := by
  rw [writeA h, if_neg (by omega)]
  exact wrGo_off (Nat.le_refl _) h0 rfl
theorem sizeA {n : Int} {wt : List DPiece} {last seen : List UInt8} {fu : Int} {c : Int} : (devA n wt last seen fu false c).size ⟨#[97]⟩ = (((seen.length : Nat) : Int), 0) := by
  rw [size_some (P := devA n wt last seen fu false c) rfl (findA _ rfl)]
  rfl
theorem layB_nil (a : Nat) (t : List UInt8) : (layB [] a t).length = a + t.length := by rw [layB_length]; simp

set_option maxRecDepth 100000 in
set_option maxHeartbeats 1000000 in
theorem diskFull_walk (n a : Int) (s : ByteArray) (w : World) (hn : (Lit.int .i64 n).wf = true) (ha : (Lit.int .i64 a).wf = true) (_hs : s.size ≤ maxLen) :
    Calls Try.prog 4 #[.int .i64 n, .int .i64 a, .string s] w fun e w' => e = .returned (.bool true) ∧ Below w.heap.size w w' := by
  have hcs := cutT_size s
  have HC := Lib.hid (fun w => cut_any s w)
  by_cases hg : n < 0 ∨ 200 < n ∨ a < 0 ∨ 5000 < a
  · have hd : (decide (n < 0) || decide (200 < n) || decide (a < 0) || decide (5000 < a)) = true := by
      simp only [Bool.or_eq_true, decide_eq_true_eq]; omega
    clear hg hn ha _hs
    generalize cutT s = t at *
    go_enter Try.func4, Try.ntmps4
    go_wp2_with fail
    refine (HC.out _).mono ?_
    rintro e w' ⟨rfl, rfl⟩
    go_wp2_with (go_at_call 11; refine (awake_any _).mono ?_; rintro e w9 ⟨rfl, hb9⟩)
    all_goals (go_ret; exact ⟨rfl, hb9⟩)
  · obtain ⟨n, rfl⟩ := Int.eq_ofNat_of_zero_le (show 0 ≤ n by omega)
    obtain ⟨a, rfl⟩ := Int.eq_ofNat_of_zero_le (show 0 ≤ a by omega)
    have hn2 : n ≤ 200 := by omega
    have ha2 : a ≤ 5000 := by omega
    clear hg hn ha _hs
    generalize cutT s = t at *
    have hcr := fun (w1 : World) (b : Nat) (h : Live w.heap.size w b 0 (newP n) w1) => create_live h (by decide) ⟨#[97]⟩
    rw [createA] at hcr
    have HCR := Lib.hid hcr
    have hnew := Lib.hid (new_live (n : Int) w (by omega))
    have htl : (t.data.toList).length = t.size := extract_len t
    have hmx : t.size ≤ maxLen := by unfold maxLen; omega
    have hwf : (Lit.int .i64 (a : Int)).wf = true := by simp [Lit.wf, IntKind.min, IntKind.max, IntKind.bits, IntKind.signed]; omega
    have hran : (a : Int) ≤ 2097152 - (t.size : Int) := by omega
    have hsec : ((a : Int) + (t.size : Int) + 63) / 64 = ((secs (a + t.size) : Nat) : Int) := by unfold secs; omega
    have hw := fun (w1 : World) (b : Nat) (h : Live w.heap.size w b 1 (devA n [] [] [] (-1) false 0) w1) => write_live h (by decide) ⟨#[97]⟩ a t hwf hmx
    clear hwf hmx
    by_cases h0 : t.size = 0
    · rw [writeA_none hran h0] at hw
      have HW := Lib.hid hw
      have hem : t.toList.isEmpty = true := by
        have : t = ByteArray.empty := ByteArray.size_eq_zero_iff.1 h0
        rw [this, ByteArray.toList_eq]; rfl
      have hnil : t.toList = [] := by simpa using hem
      have hsz := fun (w1 : World) (b : Nat) (h : Live w.heap.size w b (1 + t.size) (devA n [] [] [] (-1) false 0) w1) => size_live h (by omega) ⟨#[97]⟩
      rw [sizeA] at hsz
      have hfr := fun (w1 : World) (b : Nat) (h : Live w.heap.size w b (1 + t.size) (devA n [] [] [] (-1) false 0) w1) => free_live h (by omega)
      have HSZ := Lib.hid (show ∀ (w1 : World) (b : Nat) (h : Live w.heap.size w b (1 + t.size) (devA n [] [] [] (-1) false 0) w1), Calls Try.prog 17 #[.pointer (some ⟨b, 0, none⟩), .string ⟨#[97]⟩] w1 fun e w' => e = .returned (.tuple #[.int .i64 0, .int .i64 0]) ∧ w1 = w' from hsz)
      have HFR := Lib.hid (show ∀ (w1 : World) (b : Nat) (h : Live w.heap.size w b (1 + t.size) (devA n [] [] [] (-1) false 0) w1), Calls Try.prog 18 #[.pointer (some ⟨b, 0, none⟩)] w1 fun e w' => e = .returned (.int .i64 (n : Int)) ∧ Live w.heap.size w b (1 + t.size) (devA n [] [] [] (-1) false 0) w' from fun w1 b h => by
        refine (hfr w1 b h).mono ?_
        rintro e w' ⟨rfl, hL⟩
        exact ⟨ret_int (by show (n : Int) - ((0 : Nat) : Int) = _; omega), hL⟩)
      clear hw hcr hsz hfr h0 hsec hran htl hcs
      go_enter Try.func4, Try.ntmps4
      go_wp2_with fail
      refine (HC.out _).mono ?_
      rintro e w' ⟨rfl, rfl⟩
      go_wp2_with fail
      refine hnew.out.mono ?_
      rintro e w1 ⟨b, rfl, L1⟩
      go_wp2_with fail
      refine (HCR.out _ _ L1).mono ?_
      rintro e w2 ⟨rfl, L2⟩
      go_wp2_with fail
      refine (HW.out _ _ L2).mono ?_
      rintro e w3 ⟨rfl, L3⟩
      go_wp2_with fail
      refine (HSZ.out _ _ L3).mono ?_
      rintro e w' ⟨rfl, rfl⟩
      go_wp2_with fail
      refine (HFR.out _ _ L3).mono ?_
      rintro e w4 ⟨rfl, L4⟩
      go_wp2_with fail
      refine (awake_any _).mono ?_
      rintro e w5 ⟨rfl, hb5⟩
      go_wp2_with fail
      go_ret
      exact ⟨rfl, L4.bel.trans (hb5.mono (by obtain ⟨S, _, _, _, _, h5, _⟩ := L4; exact h5))⟩
    · have ht0 : 0 < t.size := by omega
      have hem : t.toList.isEmpty = false := notEmpty t ht0
      have hnil : ¬ t.toList = [] := by intro h; rw [h] at hem; simp at hem
      have hls : (layB [] a t.data.toList).length = a + t.size := by rw [layB_nil, htl]
      obtain ⟨need, hneed⟩ : ∃ need, need = secs (a + t.size) := ⟨_, rfl⟩
      have hn3 : need ≤ 100 := by rw [hneed]; unfold secs; omega
      rw [← hneed] at hsec
      by_cases hfull : n < need
      · rw [writeA_full hran ht0 (by omega)] at hw
        have HW := Lib.hid hw
        have hsz := fun (w1 : World) (b : Nat) (h : Live w.heap.size w b (1 + t.size) (devA n [] [] [] (-1) false 0) w1) => size_live h (by omega) ⟨#[97]⟩
        rw [sizeA] at hsz
        have HSZ := Lib.hid (show ∀ (w1 : World) (b : Nat) (h : Live w.heap.size w b (1 + t.size) (devA n [] [] [] (-1) false 0) w1), Calls Try.prog 17 #[.pointer (some ⟨b, 0, none⟩), .string ⟨#[97]⟩] w1 fun e w' => e = .returned (.tuple #[.int .i64 0, .int .i64 0]) ∧ w1 = w' from hsz)
        have HFR := Lib.hid (show ∀ (w1 : World) (b : Nat) (h : Live w.heap.size w b (1 + t.size) (devA n [] [] [] (-1) false 0) w1), Calls Try.prog 18 #[.pointer (some ⟨b, 0, none⟩)] w1 fun e w' => e = .returned (.int .i64 (n : Int)) ∧ Live w.heap.size w b (1 + t.size) (devA n [] [] [] (-1) false 0) w' from fun w1 b h => by
          refine (free_live h (by omega)).mono ?_
          rintro e w' ⟨rfl, hL⟩
          exact ⟨ret_int (by show (n : Int) - ((0 : Nat) : Int) = _; omega), hL⟩)
        have HWT := Lib.hid (show ∀ (w1 : World) (b : Nat) (h : Live w.heap.size w b (1 + t.size) (devA n [] [] [] (-1) false 0) w1), Calls Try.prog 19 #[.pointer (some ⟨b, 0, none⟩)] w1 fun e w' => e = .returned (.int .i64 0) ∧ w1 = w' from fun w1 b h => waiting_live h)
        clear hw hcr hsz hran htl h0 hls hneed
        go_enter Try.func4, Try.ntmps4
        go_wp2_with fail
        refine (HC.out _).mono ?_
        rintro e w' ⟨rfl, rfl⟩
        go_wp2_with fail
        refine hnew.out.mono ?_
        rintro e w1 ⟨b, rfl, L1⟩
        go_wp2_with fail
        refine (HCR.out _ _ L1).mono ?_
        rintro e w2 ⟨rfl, L2⟩
        go_wp2_with fail
        refine (HW.out _ _ L2).mono ?_
        rintro e w3 ⟨rfl, L3⟩
        go_wp2_with fail
        refine (HSZ.out _ _ L3).mono ?_
        rintro e w' ⟨rfl, rfl⟩
        go_wp2_with fail
        refine (HFR.out _ _ L3).mono ?_
        rintro e w4 ⟨rfl, L4⟩
        go_wp2_with fail
        refine (HWT.out _ _ L4).mono ?_
        rintro e w' ⟨rfl, rfl⟩
        go_wp2_with fail
        refine (awake_any _).mono ?_
        rintro e w5 ⟨rfl, hb5⟩
        go_wp2_with fail
        go_ret
        exact ⟨rfl, L4.bel.trans (hb5.mono (by obtain ⟨S, _, _, _, _, h5, _⟩ := L4; exact h5))⟩
      · rw [writeA_ok hran ht0 (by omega) (Or.inl (by omega))] at hw
        have HW := Lib.hid hw
        obtain ⟨P2, hP2⟩ : ∃ P2, P2 = devA n ([] ++ cutsP 0 t.size a t) [] (layB [] a t.data.toList) (if (0 : Int) ≤ -1 then -1 - ((cutsP 0 t.size a t).length : Nat) else -1) false (0 + ((cutsP 0 t.size a t).length : Nat)) := ⟨_, rfl⟩
        have HSZ := Lib.hid (show ∀ (w1 : World) (b : Nat) (h : Live w.heap.size w b (1 + t.size) P2 w1), Calls Try.prog 17 #[.pointer (some ⟨b, 0, none⟩), .string ⟨#[97]⟩] w1 fun e w' => e = .returned (.tuple #[.int .i64 ((a : Int) + (t.size : Int)), .int .i64 0]) ∧ w1 = w' from fun w1 b h => by
          have := size_live h (by omega) ⟨#[97]⟩
          rw [hP2, sizeA, hls] at this
          rw [show (a : Int) + (t.size : Int) = ((a + t.size : Nat) : Int) by omega]
          exact this)
        have HFR := Lib.hid (show ∀ (w1 : World) (b : Nat) (h : Live w.heap.size w b (1 + t.size) P2 w1), Calls Try.prog 18 #[.pointer (some ⟨b, 0, none⟩)] w1 fun e w' => e = .returned (.int .i64 ((n : Int) - (need : Int))) ∧ Live w.heap.size w b (1 + t.size) P2 w' from fun w1 b h => by
          refine (free_live h (by omega)).mono ?_
          rintro e w' ⟨rfl, hL⟩
          refine ⟨ret_int ?_, hL⟩
          rw [hP2]
          show (n : Int) - ((usedP [_] : Nat) : Int) = _
          rw [usedA]
          show (n : Int) - ((secs (max (layB [] a t.data.toList).length 0) : Nat) : Int) = _
          rw [hls, Nat.max_eq_left (Nat.zero_le _), ← hneed])
        rw [← hP2] at HW
        clear hw hcr hran htl h0 hls hneed hP2
        go_enter Try.func4, Try.ntmps4
        go_wp2_with fail
        refine (HC.out _).mono ?_
        rintro e w' ⟨rfl, rfl⟩
        go_wp2_with fail
        refine hnew.out.mono ?_
        rintro e w1 ⟨b, rfl, L1⟩
        go_wp2_with fail
        refine (HCR.out _ _ L1).mono ?_
        rintro e w2 ⟨rfl, L2⟩
        go_wp2_with fail
        refine (HW.out _ _ L2).mono ?_
        rintro e w3 ⟨rfl, L3⟩
        go_wp2_with fail
        refine (HSZ.out _ _ L3).mono ?_
        rintro e w' ⟨rfl, rfl⟩
        go_wp2_with fail
        refine (HFR.out _ _ L3).mono ?_
        rintro e w4 ⟨rfl, L4⟩
        go_wp2_with fail
        refine (awake_any _).mono ?_
        rintro e w5 ⟨rfl, hb5⟩
        go_wp2_with fail
        go_ret
        exact ⟨rfl, L4.bel.trans (hb5.mono (by obtain ⟨S, _, _, _, _, h5, _⟩ := L4; exact h5))⟩
end Go.Proofs.Ytlmodbaeoheiiaa
