/- Both devices' lists, and whether they are one. No condition but the sizes. -/
import Derived.Test.YtlmodbaeoheiiaaDuoStep
namespace Go.Proofs.Ytlmodbaeoheiiaa
open Go.RowKit
set_option linter.unusedVariables false

def PS.list (P : PS) : List ByteArray × Int := if P.off then ([], 14) else (P.files.map PF.name, 0)
def QS.list (Q : QS) : List ByteArray × Int := if Q.off then ([], 14) else (listR Q.files, 0)
theorem Rel.list {P : PS} {Q : QS} (hr : Rel P Q) (hn : NamesUp P.files) : P.list = Q.list := by
  unfold PS.list QS.list
  rw [hr.off, list_rel hr hn]
theorem list_any (b n : Nat) (S : DSt) (w : World) (h : DiskAt w b S) (hok : OkP n S.pl) (hn : n ≤ 1000000) :
    Calls Try.prog 29 #[.pointer (some ⟨b, 0, none⟩)] w fun e w' => ∃ v, e = .returned (.tuple #[v, .int .i64 S.pl.list.2]) ∧ w'.ownsRow w.heap.size 9 1 v S.pl.list.1.length (strVals S.pl.list.1) ∧ Below w.heap.size w w' := by
  obtain ⟨hor, hl, _⟩ := hok.ready hn
  cases ho : S.off with
  | true =>
    have e0 : S.pl.list = ([], 14) := if_pos ho
    rw [e0]
    refine (list_off b S w h ho).mono ?_
    rintro e w' ⟨rfl, rfl⟩
    exact ⟨_, rfl, World.ownsRow_nil _ _ _ _, Below.refl _ _⟩
  | false =>
    have hno : ¬ (S.pl.off = true) := by show ¬ (S.off = true); rw [ho]; decide
    have e0 : S.pl.list = (namesOf S.files, 0) := by
      unfold PS.list
      rw [if_neg hno, pl_files, List.map_map]
      rfl
    rw [e0]
    refine (list_ok b S w h ho hl).mono ?_
    rintro e w' ⟨v, rfl, h1, h2⟩
    refine ⟨v, rfl, ?_, h2⟩
    have : (namesOf S.files).length = S.files.length := by unfold namesOf; rw [List.length_map]
    rw [this]
    exact h1
theorem refList_any (q : Nat) (R : RSt) (w : World) (h : RefD w q R) (hl : R.files.length ≤ 1000000) :
    Calls Try.prog 47 #[.pointer (some ⟨q, 0, none⟩)] w fun e w' => ∃ v, e = .returned (.tuple #[v, .int .i64 R.pl.list.2]) ∧ w'.ownsRow w.heap.size 9 1 v R.pl.list.1.length (strVals R.pl.list.1) ∧ Below w.heap.size w w' := by
  cases ho : R.off with
  | true =>
    have e0 : R.pl.list = ([], 14) := if_pos ho
    rw [e0]
    refine (refList_off q R w h ho).mono ?_
    rintro e w' ⟨rfl, rfl⟩
    exact ⟨_, rfl, World.ownsRow_nil _ _ _ _, Below.refl _ _⟩
  | false =>
    have hno : ¬ (R.pl.off = true) := by show ¬ (R.off = true); rw [ho]; decide
    have e0 : R.pl.list = (listR R.files, 0) := if_neg hno
    rw [e0]
    refine (refList_ok q R w h ho hl).mono ?_
    rintro e w' ⟨v, rfl, h1, _, h2⟩
    exact ⟨v, rfl, h1, h2⟩
set_option maxRecDepth 100000 in
set_option maxHeartbeats 1600000 in
theorem names_any (v1 v2 : Value) (l : List ByteArray) (B1 B2 : Nat) (w : World) (h1 : w.ownsRow B1 9 1 v1 l.length (strVals l)) (h2 : w.ownsRow B2 9 1 v2 l.length (strVals l)) (hl : l.length ≤ 1000000) :
    Calls Try.prog 48 #[v1, v2] w fun e w' => e = .returned (.bool true) ∧ Below w.heap.size w w' := by
  obtain ⟨a1, k1, rfl⟩ := row_shape h1
  obtain ⟨a2, k2, rfl⟩ := row_shape h2
  have H1 := Lib.hid h1
  have H2 := Lib.hid h2
  clear h1 h2
  go_enter Try.func48, Try.ntmps48
  go_wp2_with fail
  go_loopw [5] (fun i wr => ∃ k : Nat, k ≤ l.length ∧ i = .int .i64 k ∧ Hid (Below w.heap.size w wr)) (fun i _ => l.length - (intOf i).toNat)
  case atStart => exact ⟨0, Nat.zero_le _, rfl, Lib.hid (Below.refl _ _)⟩
  case round =>
    obtain ⟨k, hk, rfl, HB⟩ := hrel
    by_cases hlt : k < l.length
    · obtain ⟨g1, c1, e1, _, hg1, _, _, hc1⟩ := row_some H1.out (by omega)
      obtain ⟨g2, c2, e2, _, hg2, _, _, hc2⟩ := row_some H2.out (by omega)
      injection e1 with e11 e13 e12
      injection e2 with e21 e23 e22
      clear e13 e23
      subst e11; subst e12; subst e21; subst e22
      have d1 : wr.cell? ⟨g1, k, none⟩ = some (.string l[k]) := by rw [HB.out.cell (p := ⟨g1, k, none⟩) hg1, hc1 k (by omega), strVals_at hlt]
      have d2 : wr.cell? ⟨g2, k, none⟩ = some (.string l[k]) := by rw [HB.out.cell (p := ⟨g2, k, none⟩) hg2, hc2 k (by omega), strVals_at hlt]
      generalize l[k] = x at d1 d2
      have hkl : (k : Int) < (l.length : Int) := by omega
      have hk0 : (0 : Int) ≤ (k : Int) := by omega
      have HBD := Lib.hid (fun m => show Below w.heap.size w (wr.drewN m) from below_drewN HB.out m)
      clear hc1 hc2
      go_upto_region 6 with (fail)
      go_quiet (fail)
      clear d1 d2
      go_wp2_with fail
      go_roundw
      case rel => exact ⟨k + 1, hlt, by go_num, Lib.hid (HBD.out _)⟩
      case measure => simp [intOf]; omega
    · obtain rfl : k = l.length := by omega
      go_wp2_with fail
      go_ret
      exact ⟨rfl, HB.out⟩
theorem list_len {S : DSt} {n : Nat} (hok : OkP n S.pl) (hn : n ≤ 1000000) : S.pl.list.1.length ≤ 1000000 := by
  unfold PS.list
  split
  · exact Nat.zero_le _
  · show (List.map _ _).length ≤ _
    rw [List.length_map]
    have := hok.flen
    omega
set_option maxRecDepth 100000 in
set_option maxHeartbeats 1600000 in
theorem step_list (b q n : Nat) (S : DSt) (R : RSt) (aa nn : Int) (nm tt tx : ByteArray) (fa : Option Addr) (m fc : Nat) (w : World) (h : Duo w b q S R) (hr : Rel S.pl R.pl) (hok : OkP n S.pl) (hn : n ≤ 900000) :
    Calls Try.prog 26 #[.pointer (some ⟨b, 0, none⟩), .pointer (some ⟨q, 0, none⟩), .agg #[.int .i64 3, .int .i64 aa, .int .i64 nn, .string nm, .string tt, .string tx, .slice fa m fc]] w (StepOk b q n S R w) := by
  have HO := Lib.hid (OpBlk.start h (opVals 3 aa nn nm tt tx fa m fc))
  have hq := hr.ok hok (by omega)
  have HC := Lib.hid (fun w' => cut_any tx w')
  have H1 := Lib.hid (fun w' (ho : OpBlk b q S R w.heap.size (opVals 3 aa nn nm tt tx fa m fc) w S R w') => list_any b n S w' ho.step.duo.disk hok (by omega))
  have H2 := Lib.hid (fun w' (ho : OpBlk b q S R w.heap.size (opVals 3 aa nn nm tt tx fa m fc) w S R w') => refList_any q R w' ho.step.duo.ref hq.flen)
  rw [← hr.list hok.names] at H2
  have hll := list_len hok (by omega)
  have HE := Lib.hid (show ∀ w', OpBlk b q S R w.heap.size (opVals 3 aa nn nm tt tx fa m fc) w S R w' → ∃ S' R', DStep b q S R w S' R' w' ∧ Rel S'.pl R'.pl ∧ OkP (n + 701) S'.pl from fun w' ho => ⟨S, R, ho.step, hr, hok.mono (by omega)⟩)
  generalize S.pl.list.1 = l at *
  generalize S.pl.list.2 = v at *
  have HN := Lib.hid (fun v1 v2 B1 B2 w' h1 h2 => names_any v1 v2 l B1 B2 w' h1 h2 hll)
  generalize hX : w.heap.size = X at *
  clear h hr hok hq
  unfold StepOk
  go_enter Try.func26, Try.ntmps26
  go_wp2_with fail
  refine (HC.out _).mono ?_
  rintro e w1 ⟨rfl, rfl⟩
  change Hid (OpBlk b q S R X (opVals 3 aa nn nm tt tx fa m fc) w S R (w.alloc (.cells #[.int .i64 3, .int .i64 aa, .int .i64 nn, .string nm, .string tt, .string tx, .slice fa m fc] 46))) at HO
  generalize w.alloc (.cells #[.int .i64 3, .int .i64 aa, .int .i64 nn, .string nm, .string tt, .string tx, .slice fa m fc] 46) = w1 at HO ⊢
  have c0 : w1.cell? ⟨X, 0, none⟩ = some (.int .i64 3) := HO.out.blk.cell 0
  go_wp2_with fail
  refine (H1.out _ HO.out).mono ?_
  rintro e w2 ⟨v1, rfl, hw1, hb1⟩
  have HO2 := Lib.hid (HO.out.below hb1)
  have HW1 := Lib.hid hw1
  clear hw1 hb1
  go_wp2_with fail
  refine (H2.out _ HO2.out).mono ?_
  rintro e w3 ⟨v2, rfl, hw2, hb2⟩
  have HO3 := Lib.hid (HO2.out.below hb2)
  have HW2 := Lib.hid hw2
  have HW3 := Lib.hid (ownsRow_below HW1.out hb2)
  clear hw2 hb2
  go_wp2_with fail
  refine (HN.out v1 v2 _ _ _ HW3.out HW2.out).mono ?_
  rintro e w4 ⟨rfl, hb4⟩
  have HO4 := Lib.hid (HO3.out.below hb4)
  clear hb4
  go_wp2_with fail
  go_ret
  exact ⟨by first | rfl | exact ret_bool (by simp), HE.out _ HO4.out⟩
structure OpWf (kd aa nn : Int) (nm tt tx : ByteArray) : Prop where
  kd : (Lit.int .i64 kd).wf = true
  aa : (Lit.int .i64 aa).wf = true
  nn : (Lit.int .i64 nn).wf = true
  nm : nm.size ≤ maxLen
  tt : tt.size ≤ maxLen
theorem step_any (b q n : Nat) (S : DSt) (R : RSt) (k aa nn : Int) (nm tt tx : ByteArray) (fa : Option Addr) (l : List Int) (fc : Nat) (w : World) (h : Duo w b q S R) (hr : Rel S.pl R.pl) (hok : OkP n S.pl) (hn : n ≤ 900000) (hwf : OpWf k aa nn nm tt tx)
    (hfa : IntsAt .i64 w fa l) (hfo : ∀ g off, l ≠ [] → fa = some ⟨g, off, none⟩ → ¬ dfoot b q S R g) (hll : l.length ≤ maxLen) :
    Calls Try.prog 26 #[.pointer (some ⟨b, 0, none⟩), .pointer (some ⟨q, 0, none⟩), .agg #[.int .i64 k, .int .i64 aa, .int .i64 nn, .string nm, .string tt, .string tx, .slice fa l.length fc]] w (StepOk b q n S R w) := by
  by_cases hk : k < 0 ∨ 11 < k
  · exact step_other b q n S R k aa nn nm tt tx fa _ fc w h hr hok hn hk
  · have hc : k = 0 ∨ k = 1 ∨ k = 2 ∨ k = 3 ∨ k = 4 ∨ k = 5 ∨ k = 6 ∨ k = 7 ∨ k = 8 ∨ k = 9 ∨ k = 10 ∨ k = 11 := by omega
    rcases hc with rfl | rfl | rfl | rfl | rfl | rfl | rfl | rfl | rfl | rfl | rfl | rfl
    · exact step_create b q n S R aa nn nm tt tx fa _ fc w h hr hok hn hwf.nm
    · exact step_remove b q n S R aa nn nm tt tx fa _ fc w h hr hok hn
    · exact step_rename b q n S R aa nn nm tt tx fa _ fc w h hr hok hn hwf.tt
    · exact step_list b q n S R aa nn nm tt tx fa _ fc w h hr hok hn
    · exact step_size b q n S R aa nn nm tt tx fa _ fc w h hr hok hn
    · exact step_read b q n S R aa nn nm tt tx fa _ fc w h hr hok hn hwf.aa hwf.nn
    · exact step_write b q n S R aa nn nm tt tx fa _ fc w h hr hok hn hwf.aa
    · exact step_append b q n S R aa nn nm tt tx fa _ fc w h hr hok hn
    · exact step_sync b q n S R aa nn nm tt tx fa _ fc w h hr hok hn
    · exact step_arm b q n S R aa nn nm tt tx fa _ fc w h hr hok hn hwf.nn
    · exact step_crash b q n S R aa nn nm tt tx fa _ fc w h hr hok hn l rfl hfa hfo hll
    · exact step_spoil b q n S R aa nn nm tt tx fa _ fc w h hr hok hn
end Go.Proofs.Ytlmodbaeoheiiaa
