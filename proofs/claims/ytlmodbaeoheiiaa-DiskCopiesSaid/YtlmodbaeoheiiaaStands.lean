/- Whether both devices tell the same of all. No condition but the sizes. -/
import Derived.Test.YtlmodbaeoheiiaaDuoList
namespace Go.Proofs.Ytlmodbaeoheiiaa
open Go.RowKit
set_option linter.unusedVariables false

set_option maxRecDepth 100000 in
set_option maxHeartbeats 3200000 in
theorem stands_any (b q n : Nat) (S : DSt) (R : RSt) (w : World) (h : Duo w b q S R) (hr : Rel S.pl R.pl) (hok : OkP n S.pl) (hn : n ≤ 900000) :
    Calls Try.prog 27 #[.pointer (some ⟨b, 0, none⟩), .pointer (some ⟨q, 0, none⟩)] w fun e w' => e = .returned (.bool true) ∧ ∃ S' R', DStep b q S R w S' R' w' := by
  have H := Lib.hid h
  have Hr := Lib.hid hr
  have Hok := Lib.hid hok
  clear h hr hok
  go_enter Try.func27, Try.ntmps27
  go_wp2_with fail
  go_loopw [5] (fun i wr => ∃ (t : Nat) (S1 : DSt) (R1 : RSt), t ≤ 2 ∧ i = .int .i64 t ∧ Hid (DStep b q S R w S1 R1 wr) ∧ Hid (Rel S1.pl R1.pl) ∧ Hid (OkP n S1.pl)) (fun i _ => 2 - (intOf i).toNat)
  case atStart => exact ⟨0, S, R, by omega, rfl, Lib.hid (DStep.refl H.out), Hr, Hok⟩
  case round =>
    clear H Hr Hok
    obtain ⟨t, S1, R1, ht, rfl, HD, Hr, Hok⟩ := hrel
    by_cases hlt : t < 2
    · have hD := HD.out.duo
      have hq := Hr.out.ok Hok.out (by omega)
      obtain ⟨hor, hl, hsm, hmo, _⟩ := Hok.out.ready (by omega)
      obtain ⟨off, hoff⟩ : ∃ off, R1.off = off := ⟨_, rfl⟩
      have hoff1 : S1.off = off := (show S1.pl.off = R1.pl.off from Hr.out.off).trans hoff
      have e4 : wr.cell? ⟨q, 4, none⟩ = some (.bool off) := by rw [← hoff]; exact hD.ref.blk.cell 4
      obtain ⟨wa, wc, hwv⟩ := row_shape hD.ref.wrow
      have e1 : wr.cell? ⟨q, 1, none⟩ = some (.slice wa R1.wait.length wc) := by rw [← hwv]; exact hD.ref.blk.cell 1
      have e5 : wr.cell? ⟨q, 5, none⟩ = some (.int .i64 R1.count) := hD.ref.blk.cell 5
      have hqr := hD.ref.blk.lt
      have HDB := Lib.hid (fun w' (hb : Below wr.heap.size wr w') => hD.below hb)
      have A1 := Lib.hid (fun w' (hb : Below wr.heap.size wr w') => by have := up_any b S1 w' (hD.below hb).disk; rw [hoff1] at this; exact this)
      have A2 := Lib.hid (fun w' (hb : Below wr.heap.size wr w') => (free_any b S1 w' (hD.below hb).disk hl hsm hmo).mono (R' := fun e w'' => e = .returned (.int .i64 (S1.most - (usedOf S1.files : Nat))) ∧ Below w'.heap.size w' w'') (fun e w'' ⟨he, j, hj⟩ => ⟨he, by rw [hj]; exact below_drewN (Below.refl _ _) j⟩))
      have A3 := Lib.hid (fun w' (hb : Below wr.heap.size wr w') => refFree_any q R1 w' (hD.below hb).ref hq.flen hq.small hq.most)
      have A4 := Lib.hid (fun w' (hb : Below wr.heap.size wr w') => waiting_any b S1 w' (hD.below hb).disk)
      have A5 := Lib.hid (fun w' (hb : Below wr.heap.size wr w') => writes_any b S1 w' (hD.below hb).disk)
      have q1 : S1.most - (usedOf S1.files : Nat) = R1.most - (rused R1.files : Nat) := by
        have := used_rel Hr.out
        rw [pl_files, usedP_pl] at this
        have h2 : S1.most = R1.most := Hr.out.most
        rw [this, h2]
        rfl
      have q2 : S1.wait.length = R1.wait.length := by
        have := congrArg List.length (show S1.pl.wait.map toRP = R1.pl.wait from Hr.out.wait)
        rw [List.length_map] at this
        exact this
      have q3 : S1.count = R1.count := Hr.out.count
      rw [q1] at A2
      rw [q2] at A4
      rw [q3] at A5
      generalize R1.most - (rused R1.files : Nat) = V2 at A2 A3
      generalize R1.wait.length = V4 at e1 A4
      generalize R1.count = V5 at e5 A5
      have KE := Lib.hid (fun w' (hb : Below wr.heap.size wr w') => (show w'.cell? ⟨q, 4, none⟩ = some (.bool off) ∧ w'.cell? ⟨q, 1, none⟩ = some (.slice wa V4 wc) ∧ w'.cell? ⟨q, 5, none⟩ = some (.int .i64 V5) from
        ⟨(hb.cell (p := ⟨q, 4, none⟩) hqr).trans e4, (hb.cell (p := ⟨q, 1, none⟩) hqr).trans e1, (hb.cell (p := ⟨q, 5, none⟩) hqr).trans e5⟩))
      clear hD hq hor hl hsm hmo hwv q1 q2 q3 hoff hoff1
      have hno : (!off == off) = false := by cases off <;> rfl
      focus
        go_upto_region 4 with (fail)
        go_region_held3 (fun w' => w'.cell? ⟨q, 4, none⟩ = some (.bool off) ∧ w'.cell? ⟨q, 1, none⟩ = some (.slice wa V4 wc) ∧ w'.cell? ⟨q, 5, none⟩ = some (.int .i64 V5))
          (first | exact hS3 | exact hS2 | go_keep)
          (first
            | (go_at_call 21; refine (A1.out _ (Below.refl _ _).drew).mono ?_; rintro e wu ⟨rfl, rfl⟩)
            | (go_at_call 18; refine (A2.out _ (Below.refl _ _).drew).mono ?_; rintro e w2 ⟨rfl, hb1⟩; have hb2 := below_step (Below.refl wr.heap.size wr).drew hb1; have hS2 := KE.out _ hb2)
            | (go_at_call 57; refine (A3.out _ hb2).mono ?_; rintro e w3 ⟨rfl, hb3⟩; have hb4 := below_step hb2 hb3; have hS3 := KE.out _ hb4)
            | (go_at_call 19; refine (A4.out _ hb4).mono ?_; rintro e w4 ⟨rfl, rfl⟩)
            | (go_at_call 23; refine (A5.out _ hb4).mono ?_; rintro e w5 ⟨rfl, rfl⟩))
        have HD3 := Lib.hid (HD.out.below hb4)
        clear hS2 hS3 hb1 hb2 hb3 hb4 A1 A2 A3 A4 A5 KE HDB e1 e4 e5 hno
        have hok := Hok.out
        have hrr := Hr.out
        have hq := hrr.ok hok (by omega)
        have B1 := Lib.hid (fun w' (hd : Duo w' b q S1 R1) => list_any b n S1 w' hd.disk hok (by omega))
        have B2 := Lib.hid (fun w' (hd : Duo w' b q S1 R1) => refList_any q R1 w' hd.ref hq.flen)
        rw [← hrr.list hok.names] at B2
        have hll := list_len hok (by omega)
        have B4 := Lib.hid (fun (x : ByteArray) w' (hd : Duo w' b q S1 R1) => read_dev b n S1 x 0 2097152 w' hd.disk hok (by omega) (by omega) (by omega))
        have B5 := Lib.hid (fun (x : ByteArray) w' (hd : Duo w' b q S1 R1) => (show Calls Try.prog _ _ w' fun e w'' => e = .returned (.tuple #[.string (S1.pl.read x 0 2097152).1, .int .i64 (S1.pl.read x 0 2097152).2]) ∧ w' = w'' from by
          rw [hrr.read hok.names x 0 2097152]
          exact refRead_any q R1 x 0 2097152 w' hd.ref hq (by omega)))
        have B6 := Lib.hid (fun w' (hd : Duo w' b q S1 R1) => crash_dev b n S1 none 0 [] w' hd.disk hok (by omega) (Or.inl rfl) (fun g off hne _ => absurd rfl hne) (by decide))
        have B7 := Lib.hid (fun (S2 : DSt) w' (hd : Duo w' b q S2 R1) => refCrash_any q R1 none 0 [] w' hd.ref hq.flen hq.wlen hq.small hq.wait (Or.inl rfl) (fun g off hne _ => absurd rfl hne) (by decide))
        have hr2 := Lib.hid (hrr.crash hok.wait [])
        have hok2 := Lib.hid (hok.crash [])
        generalize S1.pl.list.1 = l at *
        generalize S1.pl.list.2 = lv at *
        have HN := Lib.hid (fun v1 v2 B1 B2 w' h1 h2 => names_any v1 v2 l B1 B2 w' h1 h2 hll)
        clear hok hrr hq
        go_wp2_with fail
        refine (B1.out _ HD3.out.duo).mono ?_
        rintro e w4 ⟨v1, rfl, hw1, hb1⟩
        have HD4 := Lib.hid (HD3.out.below hb1)
        have HW1 := Lib.hid hw1
        clear hw1 hb1
        go_wp2_with fail
        refine (B2.out _ HD4.out.duo).mono ?_
        rintro e w5 ⟨v2, rfl, hw2, hb2⟩
        have HD5 := Lib.hid (HD4.out.below hb2)
        have HW2 := Lib.hid hw2
        have HW3 := Lib.hid (ownsRow_below HW1.out hb2)
        clear hw2 hb2
        go_wp2_with fail
        refine (HN.out v1 v2 _ _ _ HW3.out HW2.out).mono ?_
        rintro e w6 ⟨rfl, hb6⟩
        have HD6 := Lib.hid (HD5.out.below hb6)
        have HW6 := Lib.hid (ownsRow_below HW2.out hb6)
        clear hb6 HN B1 B2 HW1 HW2 HW3
        obtain ⟨va, vc, hv2⟩ := row_shape HW6.out
        subst hv2
        go_wp2_with fail
        obtain ⟨wo, rfl⟩ : ∃ wo, wo = wr := ⟨wr, rfl⟩
        go_loopw [10] (fun i wr => ∃ z : Nat, z ≤ l.length ∧ i = .int .i64 z ∧ Hid (Below w6.heap.size w6 wr)) (fun i _ => l.length - (intOf i).toNat)
        case atStart => exact ⟨0, Nat.zero_le _, rfl, Lib.hid (Below.refl _ _)⟩
        case round =>
          obtain ⟨z, hz, rfl, HB⟩ := hrel
          by_cases hlz : z < l.length
          · obtain ⟨g1, c1, e1, _, hg1, _, _, hc1⟩ := row_some HW6.out (by omega)
            injection e1 with e11 e13 e12
            clear e13
            subst e11; subst e12
            have d1 : wr.cell? ⟨g1, z, none⟩ = some (.string l[z]) := by rw [HB.out.cell (p := ⟨g1, z, none⟩) hg1, hc1 z (by omega), strVals_at hlz]
            generalize l[z] = x at d1
            clear hc1
            have B4x := Lib.hid (B4.out x)
            have B5x := Lib.hid (B5.out x)
            generalize (S1.pl.read x 0 2097152).1 = rs at B4x B5x
            generalize (S1.pl.read x 0 2097152).2 = re at B4x B5x
            go_wp2_with fail
            refine (B4x.out _ (HD6.out.duo.below HB.out)).mono ?_
            rintro e w7 ⟨rfl, hb7⟩
            have HB7 := Lib.hid (HB.out.trans (hb7.mono HB.out.size))
            have d2 : w7.cell? ⟨g1, z, none⟩ = some (.string x) := (hb7.cell (p := ⟨g1, z, none⟩) (Nat.lt_of_lt_of_le hg1 HB.out.size)).trans d1
            clear hb7 d1
            go_wp2_with fail
            refine (B5x.out _ (HD6.out.duo.below HB7.out)).mono ?_
            rintro e w8 ⟨rfl, rfl⟩
            go_wp2_with fail
            go_roundw
            case rel => exact ⟨z + 1, hlz, by go_num, HB7⟩
            case measure => simp [intOf]; omega
          · obtain rfl : z = l.length := by omega
            have HD7 := Lib.hid (HD6.out.below HB.out)
            go_wp2_with fail
            refine (B6.out _ HD7.out.duo).mono ?_
            rintro e w9 ⟨rfl, S2, hd2, hp2⟩
            have HD9 := Lib.hid (HD7.out.trans (HD7.out.duo.dev hd2))
            have Hp2 := Lib.hid hp2
            clear hd2 hp2
            go_wp2_with fail
            refine (B7.out S2 _ HD9.out.duo).mono ?_
            rintro e w10 ⟨rfl, R2, hd3, hp3⟩
            have HD10 := Lib.hid (HD9.out.trans (HD9.out.duo.rdev hd3))
            have Hr10 := Lib.hid (show Rel S2.pl R2.pl by rw [Hp2.out, hp3]; exact hr2.out)
            have Hok10 := Lib.hid (show OkP n S2.pl by rw [Hp2.out]; exact hok2.out)
            clear hd3 hp3
            go_wp2_with fail
            go_roundw
            case rel => exact ⟨t + 1, S2, R2, by omega, by go_num, HD10, Hr10, Hok10⟩
            case measure => simp [intOf]; omega
    · obtain rfl : t = 2 := by omega
      go_wp2_with fail
      go_ret
      exact ⟨rfl, S1, R1, HD.out⟩
end Go.Proofs.Ytlmodbaeoheiiaa
