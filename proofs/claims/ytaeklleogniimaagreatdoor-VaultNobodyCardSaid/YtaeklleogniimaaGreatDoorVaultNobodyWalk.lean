/- VaultNobody's walk, whole. Condition: the number is one of the program's. -/
import Derived.Test.YtaeklleogniimaaGreatDoorVltReply
import Derived.Test.YtaeklleogniimaaGreatDoorVltAns
import Derived.Test.YtaeklleogniimaaGreatDoorVltPromise
namespace Go.Proofs.YtaeklleogniimaaGreatDoor
open Go Go.RowKit
set_option linter.unusedVariables false

set_option maxRecDepth 100000 in
set_option maxHeartbeats 2000000 in
theorem nack_any {w : World} {v b k lg st : Nat} {id pr : Int} (hv : VltAt w v id b k lg st pr) (k0 fr t0 bl : Int) : Calls Tryz.prog 41 #[.pointer (some ⟨v, 0, none⟩), .agg (msgVals k0 fr t0 bl).toArray] w fun e w' => ∃ g, e = .returned (.slice (some ⟨g, 0, none⟩) 1 1) ∧ w'.cell? ⟨g, 0, none⟩ = some (.int .i64 3) ∧ w'.cell? ⟨g, 3, none⟩ = some (.int .i64 pr) ∧ Below w.heap.size w w' := by
  have HRp := Lib.hid (fun W (h : VltAt W v id b k lg st pr) => reply_any h 3 k0 fr t0 bl)
  have HVs := Lib.hid (fun W (hb : Below w.heap.size w W) => hv.below hb)
  clear hv
  unfold msgVals at HRp ⊢
  go_enter Tryz.func41, Tryz.ntmps41
  go_wp2_with fail
  have hb0 := Lib.hid ((Below.refl w.heap.size w).alloc (Nat.le_refl _) (.cells (msgVals k0 fr t0 bl).toArray 26))
  refine (HRp.out _ (HVs.out _ hb0.out)).mono ?_
  rintro e w1 ⟨rfl, hb⟩
  have HB1 := Lib.hid (below_step hb0.out hb)
  have k4 : w1.cell? ⟨v, 4, none⟩ = some (.int .i64 pr) := (HVs.out _ HB1.out).1.cell 4
  have hlt : v < w1.heap.size := (HVs.out _ HB1.out).1.lt
  clear hb hb0 HRp
  go_wp2_with fail
  go_ret
  have HG := Blk.new (w1.alloc (.cells (msgVals 3 id fr pr).toArray 26)) (msgVals 3 id fr pr) 26
  rw [show (w1.alloc (.cells (msgVals 3 id fr pr).toArray 26)).heap.size = w1.heap.size + 1 from by simp] at HG
  exact ⟨w1.heap.size + 1, rfl, HG.cell 0, HG.cell 3, (HB1.out.alloc HB1.out.size _).alloc (by have := HB1.out.size; simp; omega) _⟩
end Go.Proofs.YtaeklleogniimaaGreatDoor
namespace Go.Proofs.YtaeklleogniimaaGreatDoor
open Go Go.RowKit
set_option linter.unusedVariables false

theorem bound_stale {w : World} {b k lg v st : Nat} {id : Int} (hv : VltAt w v id b k lg st 5) :
    Calls Tryz.prog 40 #[.pointer (some ⟨v, 0, none⟩), .int .i64 4] w fun e w' => e = .returned (.tuple #[.bool true, .bool false]) ∧ w = w' := by
  have k4 : w.cell? ⟨v, 4, none⟩ = some (.int .i64 5) := hv.1.cell 4
  clear hv
  go_enter Tryz.func40, Tryz.ntmps40
  go_wp2_with fail
  go_ret2
  exact ⟨rfl, rfl⟩
set_option maxRecDepth 100000 in
set_option maxHeartbeats 2000000 in
theorem handle_stale {B0 : Nat} {w0 w : World} {b k mb n lg v st : Nat} {id : Int} {P : PS} {Bk : List ByteArray} (h : Own B0 w0 b k mb P Bk n w) (ho : P.off = false) (hv : VltAt w v id b k lg st 5) :
    Calls Tryz.prog 14 #[.pointer (some ⟨v, 0, none⟩), .agg (msgVals 1 1 0 4).toArray] w fun e w' => ∃ g, e = .returned (.slice (some ⟨g, 0, none⟩) 1 1) ∧ w'.cell? ⟨g, 0, none⟩ = some (.int .i64 3) ∧ w'.cell? ⟨g, 3, none⟩ = some (.int .i64 5) ∧ Below w.heap.size w w' := by
  have hb0 := Lib.hid ((Below.refl w.heap.size w).alloc (Nat.le_refl _) (.cells (msgVals 1 1 0 4).toArray 26))
  have HN := Lib.hid (vnone_up (h.below hb0.out) ho (hv.below hb0.out))
  have HBd := Lib.hid (bound_stale (hv.below hb0.out))
  have HNk := Lib.hid (nack_any (hv.below hb0.out) 1 1 0 4)
  clear h ho hv
  unfold msgVals at HN HBd HNk hb0 ⊢
  go_enter Tryz.func14, Tryz.ntmps14
  go_wp2_with fail
  refine HN.out.mono ?_
  rintro e w1 ⟨rfl, rfl⟩
  go_wp2_with fail
  refine HBd.out.mono ?_
  rintro e w1 ⟨rfl, rfl⟩
  go_wp2_with fail
  refine HNk.out.mono ?_
  rintro e w1 ⟨g, rfl, h1, h2, hb⟩
  have HB := Lib.hid (below_step hb0.out hb)
  clear hb hb0
  go_wp2_with fail
  go_ret
  exact ⟨g, rfl, h1, h2, HB.out⟩
end Go.Proofs.YtaeklleogniimaaGreatDoor
namespace Go.Proofs.YtaeklleogniimaaGreatDoor
open Go Go.RowKit
set_option linter.unusedVariables false

/-- what the promise's text must say -/
def PromiseSays : Prop := ∀ (w : World) (v b k lg st : Nat) (id pr : Int), VltAt w v id b k lg st pr → ∀ k0 fr t0 bl : Int, Calls Tryz.prog 42 #[.pointer (some ⟨v, 0, none⟩), .agg (msgVals k0 fr t0 bl).toArray] w fun e w' => ∃ g, e = .returned (.slice (some ⟨g, 0, none⟩) 1 1) ∧ w'.cell? ⟨g, 0, none⟩ = some (.int .i64 2) ∧ g < w'.heap.size ∧ Below w.heap.size w w'
set_option maxRecDepth 100000 in
set_option maxHeartbeats 2000000 in
theorem handle_promise (HP : PromiseSays) {B0 : Nat} {w0 w : World} {b k mb lg v st : Nat} (h : Own B0 w0 b k mb vR0.P vR0.B 4194305 w) (hl : LogAt w lg b k vR0.L) (hv : VltAt w v 3 b k lg st 0) (hBv : B0 ≤ v) (hBl : B0 ≤ lg) :
    Calls Tryz.prog 14 #[.pointer (some ⟨v, 0, none⟩), .agg (msgVals 1 1 0 5).toArray] w fun e w' => ∃ g, e = .returned (.slice (some ⟨g, 0, none⟩) 1 1) ∧ w'.cell? ⟨g, 0, none⟩ = some (.int .i64 2) ∧ g < w'.heap.size ∧ Own B0 w0 b k mb vS1.2 vR1.B 6291457 w' ∧ LogAt w' lg b k vR1.L ∧ VltAt w' v 3 b k lg st 5 ∧ Stays v lg w w' := by
  have hb0 := Lib.hid ((Below.refl w.heap.size w).alloc (Nat.le_refl _) (.cells (msgVals 1 1 0 5).toArray 26))
  have HM := Lib.hid (Blk.new w (msgVals 1 1 0 5) 26)
  have HN := Lib.hid (vnone_up (h.below hb0.out) vR0_off (hv.below hb0.out))
  have HBd := Lib.hid (bound_five (h.below hb0.out) (Blk.below hl hb0.out) (hv.below hb0.out) hBv hBl)
  have hne := Lib.hid (And.intro (show w.heap.size ≠ v from by have := hv.1.lt; omega) (show w.heap.size ≠ lg from by have := Blk.lt hl; omega))
  clear h hl hv hBv hBl
  unfold msgVals at HN HBd hb0 HM ⊢
  go_enter Tryz.func14, Tryz.ntmps14
  go_wp2_with fail
  refine HN.out.mono ?_
  rintro e w1 ⟨rfl, rfl⟩
  go_wp2_with fail
  refine HBd.out.mono ?_
  rintro e w1 ⟨rfl, ho, hl, hv, hs⟩
  have HO := Lib.hid (And.intro ho (And.intro hl (And.intro hv ((Stays.below hb0.out).trans hs))))
  obtain ⟨m, Hm⟩ : ∃ m, Hid (m = w.heap.size) := ⟨_, Lib.hid rfl⟩
  have HM1 := Lib.hid (hs _ _ _ HM.out (by unfold FarT; decide) hne.out.1 hne.out.2)
  rw [← Hm.out] at HM1 ⊢
  have HPr := Lib.hid (HP w1 v b k lg st 3 5 hv 1 1 0 5)
  have m0 := HM1.out.cell 0
  have m1 := HM1.out.cell 1
  have m2 := HM1.out.cell 2
  have m3 := HM1.out.cell 3
  have m4 := HM1.out.cell 4
  have m5 := HM1.out.cell 5
  have m6 := HM1.out.cell 6
  have m7 := HM1.out.cell 7
  have m8 := HM1.out.cell 8
  have m9 := HM1.out.cell 9
  have m10 := HM1.out.cell 10
  have m11 := HM1.out.cell 11
  have m12 := HM1.out.cell 12
  have m13 := HM1.out.cell 13
  simp only [List.getElem?_cons_zero, List.getElem?_cons_succ] at m0 m1 m2 m3 m4 m5 m6 m7 m8 m9 m10 m11 m12 m13
  clear ho hl hv hs HN HBd hb0 HM hne
  go_wp2_with fail
  refine HPr.out.mono ?_
  rintro e w2 ⟨g, rfl, h1, hg, hb⟩
  have HO2 := Lib.hid (And.intro (HO.out.1.below hb) (And.intro (Blk.below HO.out.2.1 hb) (And.intro (HO.out.2.2.1.below hb) (HO.out.2.2.2.trans (Stays.below hb)))))
  clear hb HO HPr m0 m1 m2 m3 m4 m5 m6 m7 m8 m9 m10 m11 m12 m13
  go_wp2_with fail
  go_ret
  exact ⟨g, rfl, h1, hg, HO2.out⟩
end Go.Proofs.YtaeklleogniimaaGreatDoor
namespace Go.Proofs.YtaeklleogniimaaGreatDoor
open Go Go.RowKit
set_option linter.unusedVariables false

set_option maxRecDepth 100000 in
set_option maxHeartbeats 2000000 in
theorem fresh_any (w : World) : Calls Tryz.prog 19 #[.int .i64 400] w fun e w' => ∃ wa b k mb v lg st, e = .returned (.pointer (some ⟨wa, 0, none⟩)) ∧ w'.cell? ⟨wa, 2, none⟩ = some (.pointer (some ⟨v, 0, none⟩)) ∧ wa < w'.heap.size ∧ w.heap.size ≤ v ∧ w.heap.size ≤ lg ∧ Own w.heap.size w b k mb vR0.P vR0.B 4194305 w' ∧ LogAt w' lg b k vR0.L ∧ VltAt w' v 3 b k lg st 0 ∧ ∃ cs, Blk w' wa cs 58 := by
  have HD := Lib.hid (newDisk_any 400 w (by omega))
  have HI := Lib.hid (fun W => ideal_own W 0 (Nat.zero_le _))
  have HMk := Lib.hid (fun (b k mb : Nat) W (h : Own w.heap.size w b k mb (newP 400) [] 0 W) => (show Calls Tryz.prog 10 #[.int .i64 3, .pointer (some ⟨b, 0, none⟩), .pointer (some ⟨k, 0, none⟩)] W fun e w' => ∃ v lg st, e = .returned (.tuple #[.pointer (some ⟨v, 0, none⟩), .int .i64 0]) ∧ Hid (w.heap.size ≤ v ∧ w.heap.size ≤ lg ∧ Own w.heap.size w b k mb vR0.P vR0.B 4194305 w' ∧ LogAt w' lg b k vR0.L ∧ VltAt w' v 3 b k lg st 0) from by
    have e0 : vR0 = wformat (newP 400) [] := by unfold vR0; rfl
    refine (make_ok 3 h (by omega) (by omega) (by decide) (by rw [← e0]; exact vR0_e)).mono ?_
    rw [← e0]
    rintro e w' ⟨v, lg, st, rfl, h1, h2, _, ho, hl, hv⟩
    exact ⟨v, lg, st, rfl, Lib.hid ⟨h1, h2, by simpa using ho, hl, hv⟩⟩))
  go_enter Tryz.func19, Tryz.ntmps19
  go_wp2_with fail
  refine HD.out.mono ?_
  rintro e w1 ⟨b, rfl, rfl, hD, hB1⟩
  have HD1 := Lib.hid hD
  have HB1 := Lib.hid hB1
  clear hD hB1 HD
  go_wp2_with fail
  refine (HI.out _).mono ?_
  rintro e w2 ⟨k, mb, rfl, hk, hm, hkm, hbk, hB2⟩
  have HO0 := Lib.hid (Own.start (by omega) HD1.out HB1.out hk hm hkm hbk hB2)
  clear hk hm hkm hbk hB2 HD1 HB1 HI
  go_wp2_with fail
  refine (HMk.out _ _ _ _ HO0.out).mono ?_
  rintro e w3 ⟨v, lg, st, rfl, HV⟩
  clear HMk HO0
  go_wp2_with fail
  go_ret
  have HG : ∀ (o : Obj) (cs : List Value) (T : TypeId), Blk ((w3.alloc o).alloc (.cells cs.toArray T)) (w3.heap.size + 1) cs T := fun o cs T => by
    have := Blk.new (w3.alloc o) cs T
    rwa [show (w3.alloc o).heap.size = w3.heap.size + 1 from by simp] at this
  have HB : ∀ (o o' : Obj), Below w3.heap.size w3 ((w3.alloc o).alloc o') := fun o o' => ((Below.refl _ w3).alloc (Nat.le_refl _) _).alloc (by simp) _
  exact ⟨_, _, k, mb, v, lg, st, rfl, (HG _ _ _).cell 2, (HG _ _ _).lt, HV.out.1, HV.out.2.1, HV.out.2.2.1.below (HB _ _), Blk.below HV.out.2.2.2.1 (HB _ _), HV.out.2.2.2.2.below (HB _ _), _, HG _ _ _⟩
end Go.Proofs.YtaeklleogniimaaGreatDoor
namespace Go.Proofs.YtaeklleogniimaaGreatDoor
open Go Go.RowKit
set_option linter.unusedVariables false

set_option maxRecDepth 100000 in
set_option maxHeartbeats 2000000 in
theorem vawake_any (HP : PromiseSays) (w : World) : Calls Tryz.prog 18 #[] w fun e w' => e = .returned (.bool true) ∧ Below w.heap.size w w' := by
  have HF := Lib.hid (fresh_any w)
  have HPs := Lib.hid HP
  clear HP
  go_enter Tryz.func18, Tryz.ntmps18
  go_wp2_with fail
  refine HF.out.mono ?_
  rintro e w1 ⟨wa, b, k, mb, v, lg, st, rfl, hc, hw, hBv, hBl, ho, hl, hv, cs, hcs⟩
  have H1 := Lib.hid (handle_promise HPs.out ho hl hv hBv hBl)
  have HC := Lib.hid hcs
  have HN := Lib.hid (And.intro (hcs.ne hv.1 (by decide)) (Blk.ne hcs hl (by decide)))
  have HX := Lib.hid hc
  clear ho hl hv hcs hBv hBl HF HPs
  unfold msgVals at H1
  go_wp2_with fail
  refine H1.out.mono ?_
  rintro e w2 ⟨g, rfl, h1, hg, ho, hl, hv, hs⟩
  have hc2 : w2.cell? ⟨wa, 2, none⟩ = some (.pointer (some ⟨v, 0, none⟩)) := by
    have := (hs _ _ _ HC.out (by unfold FarT; decide) HN.out.1 HN.out.2).cell 2
    rw [this, ← HC.out.cell 2]
    exact HX.out
  have H2 := Lib.hid (handle_stale ho vS1_off hv)
  have HB := Lib.hid ho.bel
  clear ho hl hv hs H1 hc hw HX HC HN
  unfold msgVals at H2
  go_wp2_with fail
  refine H2.out.mono ?_
  rintro e w3 ⟨g2, rfl, h2, h3, hb⟩
  have h4 := (hb.cell (p := ⟨g, 0, none⟩) hg).trans h1
  have HB3 := Lib.hid (below_step HB.out hb)
  clear hb H2 HB h1 hc2
  go_wp2_with fail
  go_ret
  exact ⟨rfl, HB3.out⟩
end Go.Proofs.YtaeklleogniimaaGreatDoor
namespace Go.Proofs.YtaeklleogniimaaGreatDoor
open Go Go.RowKit
set_option linter.unusedVariables false

def vT0 : WR := wformat (newP 100) []
theorem vT0_e : vT0.e = 0 := by kernel_rfl
attribute [irreducible] vT0
theorem view_field (W : World) : (Instr.field 45 (.agg #[.int .i64 0, .int .i64 0, .int .i64 0, .slice none 0 0, .slice none 0 0]) 0).run Tryz.prog W = .ok (.int .i64 0) W := by kernel_rfl
set_option maxRecDepth 100000 in
set_option maxHeartbeats 4000000 in
theorem vaultNobody_bad (HP : PromiseSays) (id : Int) (hid : id < 0 ∨ 8 < id) (hk : -9223372036854775808 ≤ id ∧ id ≤ 9223372036854775807) (m0 m1 m2 m3 m4 m5 m6 m7 m8 m9 m10 m11 m12 m13 : Value) (w : World) :
    Calls Tryz.prog 3 #[.int .i64 id, .agg #[m0, m1, m2, m3, m4, m5, m6, m7, m8, m9, m10, m11, m12, m13]] w fun e w' => e = .returned (.bool true) ∧ Below w.heap.size w w' := by
  have HMk := Lib.hid (fun a b W => make_id id a b W hid hk)
  have HA := Lib.hid (fun W => vawake_any HP W)
  have HMs := Lib.hid (fun W (hb : Below (w.alloc (.cells #[m0, m1, m2, m3, m4, m5, m6, m7, m8, m9, m10, m11, m12, m13] 26)).heap.size (w.alloc (.cells #[m0, m1, m2, m3, m4, m5, m6, m7, m8, m9, m10, m11, m12, m13] 26)) W) => Blk.below (Blk.new w [m0, m1, m2, m3, m4, m5, m6, m7, m8, m9, m10, m11, m12, m13] 26) hb)
  go_enter Tryz.func3, Tryz.ntmps3
  go_wp2_with fail
  refine (newDisk_any 100 _ (by omega)).mono ?_
  rintro e w1 ⟨b, rfl, rfl, _, hB1⟩
  have HB1 := Lib.hid hB1
  clear hB1
  go_wp2_with fail
  refine (ideal_own _ 0 (Nat.zero_le _)).mono ?_
  rintro e w2 ⟨k, mb, rfl, _, _, _, _, hB2⟩
  have HB3 := Lib.hid (below_step HB1.out hB2)
  clear hB2 HB1
  go_wp2_with fail
  refine (HMk.out _ _ _).mono ?_
  rintro e wx ⟨rfl, rfl⟩
  go_wp2_with fail
  refine (ideal_own _ 0 (Nat.zero_le _)).mono ?_
  rintro e w4 ⟨k2, mb2, rfl, _, _, _, _, hb4⟩
  have HB4 := Lib.hid (below_step HB3.out hb4)
  clear hb4 HB3
  go_wp2_with fail
  refine (vopen_disk _ _).mono ?_
  rintro e wx ⟨rfl, rfl⟩
  go_wp2_with fail
  refine (make_book _ _).mono ?_
  rintro e wx ⟨rfl, rfl⟩
  go_wp2_with fail
  refine (vimage_nil _ _).mono ?_
  rintro e wx ⟨rfl, rfl⟩
  have HMs4 := Lib.hid (HMs.out _ HB4.out)
  have q0 : w4.cell? ⟨w.heap.size, 0, none⟩ = some m0 := HMs4.out.cell 0
  have q1 : w4.cell? ⟨w.heap.size, 1, none⟩ = some m1 := HMs4.out.cell 1
  have q2 : w4.cell? ⟨w.heap.size, 2, none⟩ = some m2 := HMs4.out.cell 2
  have q3 : w4.cell? ⟨w.heap.size, 3, none⟩ = some m3 := HMs4.out.cell 3
  have q4 : w4.cell? ⟨w.heap.size, 4, none⟩ = some m4 := HMs4.out.cell 4
  have q5 : w4.cell? ⟨w.heap.size, 5, none⟩ = some m5 := HMs4.out.cell 5
  have q6 : w4.cell? ⟨w.heap.size, 6, none⟩ = some m6 := HMs4.out.cell 6
  have q7 : w4.cell? ⟨w.heap.size, 7, none⟩ = some m7 := HMs4.out.cell 7
  have q8 : w4.cell? ⟨w.heap.size, 8, none⟩ = some m8 := HMs4.out.cell 8
  have q9 : w4.cell? ⟨w.heap.size, 9, none⟩ = some m9 := HMs4.out.cell 9
  have q10 : w4.cell? ⟨w.heap.size, 10, none⟩ = some m10 := HMs4.out.cell 10
  have q11 : w4.cell? ⟨w.heap.size, 11, none⟩ = some m11 := HMs4.out.cell 11
  have q12 : w4.cell? ⟨w.heap.size, 12, none⟩ = some m12 := HMs4.out.cell 12
  have q13 : w4.cell? ⟨w.heap.size, 13, none⟩ = some m13 := HMs4.out.cell 13
  clear HMs
  go_wp2_with fail
  all_goals
    refine (vhandle_nil m0 m1 m2 m3 m4 m5 m6 m7 m8 m9 m10 m11 m12 m13 _).mono ?_
    rintro e w5 ⟨rfl, hb5⟩
    have HB5 := Lib.hid (HB4.out.trans (hb5.mono HB4.out.size))
    clear hb5 HB4 HMs4 q0 q1 q2 q3 q4 q5 q6 q7 q8 q9 q10 q11 q12 q13
    go_wp2_with fail
    refine (vup_nil _).mono ?_
    rintro e wx ⟨rfl, rfl⟩
    go_wp2_with fail
    refine (vscrub_nil _).mono ?_
    rintro e wx ⟨rfl, rfl⟩
    go_wp2_with fail
    refine (vview_nil _).mono ?_
    rintro e w6 ⟨rfl, hb6⟩
    have HB6 := Lib.hid (HB5.out.trans (hb6.mono HB5.out.size))
    clear hb6 HB5
    have hfd := view_field
    go_wp2_with fail
    refine (HA.out _).mono ?_
    rintro e w7 ⟨rfl, hb7⟩
    have HB7 := Lib.hid (HB6.out.trans (hb7.mono HB6.out.size))
    clear hb7 HB6
    go_wp2_with fail
    go_ret
    exact ⟨rfl, ((Below.refl w.heap.size w).alloc (Nat.le_refl _) _).trans (HB7.out.mono (by simp))⟩
end Go.Proofs.YtaeklleogniimaaGreatDoor
namespace Go.Proofs.YtaeklleogniimaaGreatDoor
open Go Go.RowKit
set_option linter.unusedVariables false

set_option maxRecDepth 100000 in
set_option maxHeartbeats 4000000 in
theorem vaultNobody_ok (HP : PromiseSays) (id : Int) (hid : 0 ≤ id ∧ id ≤ 8) (m0 m1 m2 m3 m4 m5 m6 m7 m8 m9 m10 m11 m12 m13 : Value) (w : World) :
    Calls Tryz.prog 3 #[.int .i64 id, .agg #[m0, m1, m2, m3, m4, m5, m6, m7, m8, m9, m10, m11, m12, m13]] w fun e w' => e = .returned (.bool true) ∧ Below w.heap.size w w' := by
  have hn0 : ¬ id < 0 := by omega
  have hn8 : ¬ 8 < id := by omega
  have HMk := Lib.hid (fun (wA : World) (b k mb : Nat) W (h : Own wA.heap.size wA b k mb (newP 100) [] 0 W) => (show Calls Tryz.prog 10 #[.int .i64 id, .pointer (some ⟨b, 0, none⟩), .pointer (some ⟨k, 0, none⟩)] W fun e w' => ∃ v, e = .returned (.tuple #[.pointer (some ⟨v, 0, none⟩), .int .i64 0]) ∧ Hid (Below wA.heap.size wA w') from by
    have e0 : vT0 = wformat (newP 100) [] := by unfold vT0; rfl
    refine (make_ok id h hid (by omega) (by decide) (by rw [← e0]; exact vT0_e)).mono ?_
    rw [← e0]
    rintro e w' ⟨v, lg, st, rfl, h1, h2, _, ho, hl, hv⟩
    exact ⟨v, rfl, Lib.hid ho.bel⟩))
  clear hid
  have HA := Lib.hid (fun W => vawake_any HP W)
  have HD := Lib.hid (fun W => newDisk_any 100 W (by omega))
  have HI := Lib.hid (fun W => ideal_own W 0 (Nat.zero_le _))
  clear HP
  have hMB := Blk.new w [m0, m1, m2, m3, m4, m5, m6, m7, m8, m9, m10, m11, m12, m13] 26
  have hBw := (Below.refl w.heap.size w).alloc (Nat.le_refl _) (.cells [m0, m1, m2, m3, m4, m5, m6, m7, m8, m9, m10, m11, m12, m13].toArray 26)
  go_enter Tryz.func3, Tryz.ntmps3
  go_wp2_with fail
  generalize w.alloc (.cells [m0, m1, m2, m3, m4, m5, m6, m7, m8, m9, m10, m11, m12, m13].toArray 26) = wA at hMB hBw ⊢
  have HMB := Lib.hid hMB
  have HBw := Lib.hid hBw
  clear hMB hBw
  refine (HD.out _).mono ?_
  rintro e w1 ⟨b, rfl, rfl, hD, hB1⟩
  have HD1 := Lib.hid hD
  have HB1 := Lib.hid hB1
  clear hD hB1 HD
  go_wp2_with fail
  refine (HI.out _).mono ?_
  rintro e w2 ⟨k, mb, rfl, hk, hm, hkm, hbk, hB2⟩
  have HO0 := Lib.hid (Own.start (m := 100) (by omega) HD1.out HB1.out hk hm hkm hbk hB2)
  clear hk hm hkm hbk hB2 HB1 HD1
  go_wp2_with fail
  refine (HMk.out _ _ _ _ _ HO0.out).mono ?_
  rintro e w3 ⟨v, rfl, HB3⟩
  clear HO0 HMk
  go_wp2_with fail
  refine (HI.out _).mono ?_
  rintro e w4 ⟨k2, mb2, rfl, _, _, _, _, hb4⟩
  have HB4 := Lib.hid (below_step HB3.out hb4)
  clear hb4 HB3 HI
  go_wp2_with fail
  refine (vopen_disk _ _).mono ?_
  rintro e wx ⟨rfl, rfl⟩
  go_wp2_with fail
  refine (make_book _ _).mono ?_
  rintro e wx ⟨rfl, rfl⟩
  go_wp2_with fail
  refine (vimage_nil _ _).mono ?_
  rintro e wx ⟨rfl, rfl⟩
  have HMs4 := Lib.hid (Blk.below HMB.out HB4.out)
  clear HMB
  have q0 : w4.cell? ⟨w.heap.size, 0, none⟩ = some m0 := HMs4.out.cell 0
  have q1 : w4.cell? ⟨w.heap.size, 1, none⟩ = some m1 := HMs4.out.cell 1
  have q2 : w4.cell? ⟨w.heap.size, 2, none⟩ = some m2 := HMs4.out.cell 2
  have q3 : w4.cell? ⟨w.heap.size, 3, none⟩ = some m3 := HMs4.out.cell 3
  have q4 : w4.cell? ⟨w.heap.size, 4, none⟩ = some m4 := HMs4.out.cell 4
  have q5 : w4.cell? ⟨w.heap.size, 5, none⟩ = some m5 := HMs4.out.cell 5
  have q6 : w4.cell? ⟨w.heap.size, 6, none⟩ = some m6 := HMs4.out.cell 6
  have q7 : w4.cell? ⟨w.heap.size, 7, none⟩ = some m7 := HMs4.out.cell 7
  have q8 : w4.cell? ⟨w.heap.size, 8, none⟩ = some m8 := HMs4.out.cell 8
  have q9 : w4.cell? ⟨w.heap.size, 9, none⟩ = some m9 := HMs4.out.cell 9
  have q10 : w4.cell? ⟨w.heap.size, 10, none⟩ = some m10 := HMs4.out.cell 10
  have q11 : w4.cell? ⟨w.heap.size, 11, none⟩ = some m11 := HMs4.out.cell 11
  have q12 : w4.cell? ⟨w.heap.size, 12, none⟩ = some m12 := HMs4.out.cell 12
  have q13 : w4.cell? ⟨w.heap.size, 13, none⟩ = some m13 := HMs4.out.cell 13
  go_wp2_with fail
  all_goals
    refine (vhandle_nil m0 m1 m2 m3 m4 m5 m6 m7 m8 m9 m10 m11 m12 m13 _).mono ?_
    rintro e w5 ⟨rfl, hb5⟩
    have HB5 := Lib.hid (HB4.out.trans (hb5.mono HB4.out.size))
    clear hb5 HB4 HMs4 q0 q1 q2 q3 q4 q5 q6 q7 q8 q9 q10 q11 q12 q13
    go_wp2_with fail
    refine (vup_nil _).mono ?_
    rintro e wx ⟨rfl, rfl⟩
    go_wp2_with fail
    refine (vscrub_nil _).mono ?_
    rintro e wx ⟨rfl, rfl⟩
    go_wp2_with fail
    refine (vview_nil _).mono ?_
    rintro e w6 ⟨rfl, hb6⟩
    have HB6 := Lib.hid (HB5.out.trans (hb6.mono HB5.out.size))
    clear hb6 HB5
    have hfd := view_field
    go_wp2_with fail
    refine (HA.out _).mono ?_
    rintro e w7 ⟨rfl, hb7⟩
    have HB7 := Lib.hid (HB6.out.trans (hb7.mono HB6.out.size))
    clear hb7 HB6
    go_wp2_with fail
    go_ret
    exact ⟨rfl, HBw.out.trans (HB7.out.mono HBw.out.size)⟩
end Go.Proofs.YtaeklleogniimaaGreatDoor
namespace Go.Proofs.YtaeklleogniimaaGreatDoor
open Go Go.RowKit
set_option linter.unusedVariables false

theorem promiseSays : PromiseSays := fun w v b k lg st id pr hv k0 fr t0 bl => promise_any hv k0 fr t0 bl
theorem vaultNobody_walk (id : Int) (m0 m1 m2 m3 m4 m5 m6 m7 m8 m9 m10 m11 m12 m13 : Value) (w : World) (hk : (Lit.int .i64 id).wf = true) :
    Calls Tryz.prog 3 #[.int .i64 id, .agg #[m0, m1, m2, m3, m4, m5, m6, m7, m8, m9, m10, m11, m12, m13]] w fun e w' => e = .returned (.bool true) ∧ Below w.heap.size w w' := by
  by_cases h : 0 ≤ id ∧ id ≤ 8
  · exact vaultNobody_ok promiseSays id h _ _ _ _ _ _ _ _ _ _ _ _ _ _ w
  · exact vaultNobody_bad promiseSays id (by omega) (int_bounds hk) _ _ _ _ _ _ _ _ _ _ _ _ _ _ w
end Go.Proofs.YtaeklleogniimaaGreatDoor
