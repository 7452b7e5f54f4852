/- Write and Append, whole. Conditions: sizes, order. -/
import Derived.Test.YtaeklleogniimaaGreatDoorWrite
namespace Go.Proofs.YtaeklleogniimaaGreatDoor
open Go.RowKit
set_option linter.unusedVariables false

def Ready (S : DSt) : Prop := Ordered S.files ∧ S.files.length ≤ 1000000000 ∧ Small S.files ∧ (0 ≤ S.most ∧ S.most ≤ 32768) ∧ S.wait.length ≤ 1000000000 ∧ (0 ≤ S.count ∧ S.count ≤ 1000000000000) ∧ S.fuse ≤ 9223372036854775807
theorem pl_files (S : DSt) : S.pl.files = S.files.map DFile.pl := rfl
theorem secsI_pl {S : DSt} {i : Nat} (hi : i < S.files.length) : secsI S.pl i = secsOf S.files[i] := by
  unfold secsI
  show ((S.files.map DFile.pl)[i]?.map secsP).getD 0 = _
  rw [List.getElem?_map, List.getElem?_eq_getElem hi]
  rfl
set_option maxRecDepth 100000 in
set_option maxHeartbeats 4000000 in
theorem write_any (b : Nat) (S : DSt) (s : ByteArray) (a : Int) (t : ByteArray) (w : World) (h : DiskAt w b S) (hR : Ready S) (ha : (Lit.int .i64 a).wf = true) (ht : t.size ≤ maxLen) :
    Calls Tryz.prog 150 #[.pointer (some ⟨b, 0, none⟩), .string s, .int .i64 a, .string t] w fun e w' => e = .returned (.int .i64 (S.pl.write s a t).1) ∧ ∃ S', Dev b S w S' w' ∧ S'.pl = (S.pl.write s a t).2 := by
  obtain ⟨hor, hl, hsm, hm, hwl, hct, hfu⟩ := hR
  obtain ⟨ha1, ha2⟩ := int_bounds ha
  unfold maxLen at ht
  cases hoff : S.off with
  | true =>
    have e0 : S.pl.write s a t = (14, S.pl) := if_pos hoff
    have hr := ready_any b S w h
    rw [hoff] at hr
    have HR := Lib.hid hr
    have HD := Lib.hid (Dev.refl h)
    rw [e0]
    clear h hr hor hsm hm e0
    go_enter Tryz.func150, Tryz.ntmps150
    go_wp2_with fail
    refine HR.out.mono ?_
    rintro e w' ⟨rfl, rfl⟩
    go_wp2_with fail
    go_ret
    exact ⟨rfl, S, HD.out, rfl⟩
  | false =>
    have hon : ¬ (S.pl.off = true) := by show ¬ (S.off = true); rw [hoff]; decide
    have HR := Lib.hid (ready_on b S w h hoff)
    rcases find_both hor s with ⟨h1, h2⟩ | ⟨i, hi, h1, h2, h3⟩
    · have e0 : S.pl.write s a t = (8, S.pl) := by unfold PS.write; rw [if_neg hon, pl_files, h2]
      have hf := find_any b S s w h hor hl
      rw [h1] at hf
      have HF := Lib.hid hf
      have HD := Lib.hid (Dev.refl h)
      rw [e0]
      clear h hf hor hsm hm e0 h1 h2 hoff hon
      go_enter Tryz.func150, Tryz.ntmps150
      go_wp2_with fail
      refine HR.out.mono ?_
      rintro e w' ⟨rfl, rfl⟩
      go_wp2_with fail
      refine HF.out.mono ?_
      rintro e w' ⟨rfl, rfl⟩
      go_wp2_with fail
      go_ret
      exact ⟨rfl, S, HD.out, rfl⟩
    · by_cases hrg : a < 0 ∨ 2097152 - (t.size : Int) < a
      · have e0 : S.pl.write s a t = (2, S.pl) := by
          unfold PS.write; rw [if_neg hon, pl_files, h2]
          exact if_pos hrg
        have hf := find_any b S s w h hor hl
        rw [h1] at hf
        have HF := Lib.hid hf
        have HD := Lib.hid (Dev.refl h)
        rw [e0]
        clear h hf hor hsm hm e0 h1 h2 h3 hoff hon
        have hd : (decide (a < 0) || decide (2097152 - (t.size : Int) < a)) = true := by simp only [Bool.or_eq_true, decide_eq_true_eq]; exact hrg
        by_cases ha0 : a < 0
        · clear hrg hd
          go_enter Tryz.func150, Tryz.ntmps150
          go_wp2_with fail
          refine HR.out.mono ?_
          rintro e w' ⟨rfl, rfl⟩
          go_wp2_with fail
          refine HF.out.mono ?_
          rintro e w' ⟨rfl, rfl⟩
          go_wp2_with fail
          go_ret
          exact ⟨rfl, S, HD.out, rfl⟩
        · have hgt : 2097152 - (t.size : Int) < a := by omega
          clear hrg hd
          go_enter Tryz.func150, Tryz.ntmps150
          go_wp2_with fail
          refine HR.out.mono ?_
          rintro e w' ⟨rfl, rfl⟩
          go_wp2_with fail
          refine HF.out.mono ?_
          rintro e w' ⟨rfl, rfl⟩
          go_wp2_with fail
          go_ret
          exact ⟨rfl, S, HD.out, rfl⟩
      · obtain ⟨a, rfl⟩ := Int.eq_ofNat_of_zero_le (show 0 ≤ a by omega)
        by_cases hroom : 0 < t.size ∧ S.most - (usedOf S.files : Nat) < ((secs (a + t.size) : Nat) : Int) - ((secsOf S.files[i] : Nat) : Int)
        · have e0 : S.pl.write s (a : Int) t = (7, S.pl) := by
            unfold PS.write; rw [if_neg hon, pl_files, h2]
            show (if _ then _ else _) = _
            rw [if_neg hrg, usedP_pl, secsI_pl hi]
            exact if_pos hroom
          have hf := find_any b S s w h hor hl
          rw [h1] at hf
          have HF := Lib.hid hf
          have hA := h.fat _ (List.getElem_mem hi)
          have hs1 := hsm _ (List.getElem_mem hi)
          have Hfree := Lib.hid (fun n => free_any b S (w.drewN n) (h.drewN n) hl hsm hm)
          have HD := Lib.hid (fun n => (Dev.refl h).below (below_drewN (Below.refl _ _) n))
          have hus : usedOf S.files ≤ 1000000000 * 65537 := Nat.le_trans (usedOf_le hsm) (Nat.mul_le_mul_right _ hl)
          have Hse := Lib.hid (show secsOf S.files[i] = secs (max S.files[i].seen.length S.files[i].last.length) from rfl)
          rw [e0]
          obtain ⟨F, hF⟩ : ∃ F, F = S.files[i] := ⟨_, rfl⟩
          rw [← hF] at hA hs1 Hse hroom HF
          obtain ⟨la, lc, hlv⟩ := row_shape hA.last
          obtain ⟨sa, sc, hsv⟩ := row_shape hA.seen
          have d2 : w.cell? ⟨F.g, 2, none⟩ = some (.slice la F.last.length lc) := by rw [← hlv]; exact hA.blk.cell 2
          have d3 : w.cell? ⟨F.g, 3, none⟩ = some (.slice sa F.seen.length sc) := by rw [← hsv]; exact hA.blk.cell 3
          have hse1 : secs (a + t.size) ≤ 40000 := by unfold secs; omega
          have hse2 : secsOf F ≤ 65537 := by rw [Hse.out]; unfold secs; omega
          obtain ⟨hgo1, hgo2⟩ := hroom
          have hgo1' : (0 : Int) < (t.size : Int) := by omega
          clear h hf hor hsm e0 h1 h2 h3 hoff hon hA hlv hsv hF
          generalize usedOf S.files = U at *
          go_enter Tryz.func150, Tryz.ntmps150
          go_wp2_with fail
          refine HR.out.mono ?_
          rintro e w' ⟨rfl, rfl⟩
          go_wp2_with fail
          refine HF.out.mono ?_
          rintro e w' ⟨rfl, rfl⟩
          have hnr : ¬ (2097152 - (t.size : Int) < (a : Int)) := by omega
          clear hrg
          go_wp2_with fail
          have hat : a + t.size ≤ 2097152 := by omega
          have hwrap : IntKind.i64.wrap ((a : Int) + (t.size : Int)) = (a : Int) + (t.size : Int) := IntWalk.i64_in _ (by omega)
          obtain ⟨hs2, hs3⟩ := hs1
          go_quiet ((go_at_call 220; first | exact quiet_left (sectors_int _ _ (by omega) (by omega)) | exact quiet_add_left (sectors_int _ _ (by omega) (by omega))))
          clear hwrap
          have hmxe : (max (F.seen.length : Int) (F.last.length : Int)).toNat = max F.seen.length F.last.length := by omega
          rw [hmxe, ← Hse.out]
          clear hmxe Hse d2 d3
          generalize secs (a + t.size) = A at *
          generalize secsOf F = B at *
          rw [show wrap64 ((A : Int) - (B : Int)) = (A : Int) - (B : Int) by unfold wrap64; omega]
          go_wp2_with fail
          refine (Hfree.out _).mono ?_
          rintro e w' ⟨rfl, n2, rfl⟩
          go_wp2_with fail
          go_ret
          exact ⟨rfl, S, HD.out _, rfl⟩
        · have e0 : S.pl.write s (a : Int) t = wrGo t.size S.pl i a t := by
            unfold PS.write; rw [if_neg hon, pl_files, h2]
            show (if _ then _ else _) = _
            rw [if_neg hrg, usedP_pl, secsI_pl hi]
            exact if_neg hroom
          rw [e0]
          exact write_some b S s a t i hi S.files[i] rfl w h hor hl hsm hoff hm h1 (by omega) (by omega) hwl hct hfu

def seenI (P : PS) (i : Nat) : Nat := (P.files[i]?.map fun f => f.seen.length).getD 0
def PS.size (P : PS) (s : ByteArray) : Int × Int := if P.off then (0, 14) else match findI P.files s with
  | none => (0, 8)
  | some i => (((seenI P i : Nat) : Int), 0)
theorem size_off {P : PS} (s : ByteArray) (h : P.off = true) : P.size s = (0, 14) := if_pos h
theorem size_none {P : PS} {s : ByteArray} (h : P.off = false) (hf : findI P.files s = none) : P.size s = (0, 8) := by
  unfold PS.size; rw [if_neg (by rw [h]; decide), hf]
theorem size_some {P : PS} {s : ByteArray} {i : Nat} (h : P.off = false) (hf : findI P.files s = some i) : P.size s = (((seenI P i : Nat) : Int), 0) := by
  unfold PS.size; rw [if_neg (by rw [h]; decide), hf]
theorem seenI_pl {S : DSt} {i : Nat} (hi : i < S.files.length) : seenI S.pl i = S.files[i].seen.length := by
  unfold seenI
  rw [pl_files, List.getElem?_map, List.getElem?_eq_getElem hi]
  rfl
theorem size_pl (S : DSt) (s : ByteArray) (hor : Ordered S.files) : sizeVal S s = Value.tuple #[.int .i64 (S.pl.size s).1, .int .i64 (S.pl.size s).2] := by
  cases ho : S.off with
  | true => rw [size_off (P := S.pl) s ho]; unfold sizeVal; rw [if_pos ho]
  | false =>
    have hno : ¬ (S.off = true) := by rw [ho]; decide
    rcases find_both hor s with ⟨h1, h2⟩ | ⟨i, hi, h1, h2, h3⟩
    · rw [size_none (P := S.pl) ho h2]; unfold sizeVal; rw [if_neg hno, h1]
    · rw [size_some (P := S.pl) ho h2, seenI_pl hi]; unfold sizeVal; rw [if_neg hno, h1]
theorem size_any2 (b : Nat) (S : DSt) (s : ByteArray) (w : World) (h : DiskAt w b S) (hor : Ordered S.files) (hl : S.files.length ≤ 1000000000) :
    Calls Tryz.prog 146 #[.pointer (some ⟨b, 0, none⟩), .string s] w fun e w' => e = .returned (.tuple #[.int .i64 (S.pl.size s).1, .int .i64 (S.pl.size s).2]) ∧ w = w' := by
  rw [← size_pl S s hor]
  exact size_any b S s w h hor hl
def PS.append (P : PS) (s t : ByteArray) : Int × PS := if (P.size s).2 = 0 then P.write s (P.size s).1 t else ((P.size s).2, P)
theorem size_le {S : DSt} {s : ByteArray} (hor : Ordered S.files) (hsm : Small S.files) : 0 ≤ (S.pl.size s).1 ∧ (S.pl.size s).1 ≤ 4194304 := by
  cases ho : S.off with
  | true => rw [size_off (P := S.pl) s ho]; decide
  | false =>
    rcases find_both hor s with ⟨h1, h2⟩ | ⟨i, hi, h1, h2, h3⟩
    · rw [size_none (P := S.pl) ho h2]; decide
    · rw [size_some (P := S.pl) ho h2, seenI_pl hi]
      have := (hsm _ (List.getElem_mem hi)).1
      show 0 ≤ ((S.files[i].seen.length : Nat) : Int) ∧ ((S.files[i].seen.length : Nat) : Int) ≤ 4194304
      omega
end Go.Proofs.YtaeklleogniimaaGreatDoor
