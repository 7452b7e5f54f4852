/- One call of both devices: Write, Sync, Crash, Append, List, Size, Read, and none. No condition but the sizes. -/
import Derived.Test.YtlmodbaeoheiiaaDuo
namespace Go.Proofs.Ytlmodbaeoheiiaa
open Go.RowKit
set_option linter.unusedVariables false

def opVals (k aa nn : Int) (nm tt tx : ByteArray) (fa : Option Addr) (m fc : Nat) : List Value := [.int .i64 k, .int .i64 aa, .int .i64 nn, .string nm, .string tt, .string tx, .slice fa m fc]
/-- the call's own block while the devices step -/
structure OpBlk (b q : Nat) (S : DSt) (R : RSt) (X : Nat) (vals : List Value) (w : World) (S' : DSt) (R' : RSt) (w' : World) : Prop where
  step : DStep b q S R w S' R' w'
  blk : Blk w' X vals 46
  fresh : ¬ dfoot b q S' R' X
theorem OpBlk.start {b q : Nat} {S : DSt} {R : RSt} {w : World} (h : Duo w b q S R) (vals : List Value) : OpBlk b q S R w.heap.size vals w S R (w.alloc (.cells vals.toArray 46)) :=
  ⟨(DStep.refl h).below ((Below.refl _ w).alloc (Nat.le_refl _) _), Blk.new w vals _, fun hk => by have := h.lt hk; omega⟩
theorem OpBlk.then {b q X : Nat} {S S1 S2 : DSt} {R R1 R2 : RSt} {vals : List Value} {w w1 w2 : World} (h : OpBlk b q S R X vals w S1 R1 w1) (h2 : DStep b q S1 R1 w1 S2 R2 w2) : OpBlk b q S R X vals w S2 R2 w2 :=
  ⟨h.step.trans h2, h2.blk h.blk h.fresh, fun hk => by
    rcases h2.foot_ X hk with h3 | h3
    · exact h.fresh h3
    · have := h.blk.lt; omega⟩
theorem OpBlk.below {b q X : Nat} {S S1 : DSt} {R R1 : RSt} {vals : List Value} {w w1 w2 : World} (h : OpBlk b q S R X vals w S1 R1 w1) (hb : Below w1.heap.size w1 w2) : OpBlk b q S R X vals w S1 R1 w2 :=
  h.then ((DStep.refl h.step.duo).below hb)
theorem arm_any (b : Nat) (S : DSt) (k : Int) (w : World) (h : DiskAt w b S) :
    Calls Try.prog 20 #[.pointer (some ⟨b, 0, none⟩), .int .i64 k] w fun e w' => e = .returned (.int .i64 (S.pl.arm k).1) ∧ ∃ S', Dev b S w S' w' ∧ S'.pl = (S.pl.arm k).2 := by
  cases ho : S.off with
  | true =>
    have e0 : S.pl.arm k = (14, S.pl) := if_pos ho
    rw [e0]
    refine (arm_off b S k w h ho).mono ?_
    rintro e w' ⟨rfl, rfl⟩
    exact ⟨rfl, S, Dev.refl h, rfl⟩
  | false =>
    have hno : ¬ (S.pl.off = true) := by show ¬ (S.off = true); rw [ho]; decide
    by_cases hk0 : k < 0
    · have e0 : S.pl.arm k = (1, S.pl) := by unfold PS.arm; rw [if_neg hno, if_pos hk0]
      rw [e0]
      refine (arm_low b S k w h ho hk0).mono ?_
      rintro e w' ⟨rfl, rfl⟩
      exact ⟨rfl, S, Dev.refl h, rfl⟩
    · have e0 : S.pl.arm k = (0, { S.pl with fuse := k }) := by unfold PS.arm; rw [if_neg hno, if_neg hk0]
      rw [e0]
      refine (arm_ok b S k w h ho (by omega)).mono ?_
      rintro e w' ⟨rfl, hD⟩
      exact ⟨rfl, _, hD, rfl⟩
def QS.arm (Q : QS) (n : Int) : Int × QS := if Q.off then (14, Q) else if n < 0 then (1, Q) else (0, { Q with fuse := n })
theorem Rel.arm2 {P : PS} {Q : QS} (hr : Rel P Q) (n : Int) : (P.arm n).1 = (Q.arm n).1 ∧ Rel (P.arm n).2 (Q.arm n).2 := by
  have h := hr.arm n
  unfold QS.arm
  cases ho : Q.off with
  | true =>
    rw [ho] at h
    exact h
  | false =>
    rw [ho] at h
    by_cases hn : n < 0
    · simp only [hn, Bool.false_eq_true, if_false, if_true] at h ⊢
      exact h
    · simp only [hn, Bool.false_eq_true, if_false] at h ⊢
      exact h
theorem refArm_any (q : Nat) (R : RSt) (k : Int) (w : World) (h : RefD w q R) :
    Calls Try.prog 54 #[.pointer (some ⟨q, 0, none⟩), .int .i64 k] w fun e w' => e = .returned (.int .i64 (R.pl.arm k).1) ∧ ∃ R', RDev q R w R' w' ∧ R'.pl = (R.pl.arm k).2 := by
  cases ho : R.off with
  | true =>
    have e0 : R.pl.arm k = (14, R.pl) := if_pos ho
    rw [e0]
    refine (refArm_off q R k w h ho).mono ?_
    rintro e w' ⟨rfl, rfl⟩
    exact ⟨rfl, R, RDev.refl h, rfl⟩
  | false =>
    have hno : ¬ (R.pl.off = true) := by show ¬ (R.off = true); rw [ho]; decide
    by_cases hk0 : k < 0
    · have e0 : R.pl.arm k = (1, R.pl) := by unfold QS.arm; rw [if_neg hno, if_pos hk0]
      rw [e0]
      refine (refArm_low q R k w h ho hk0).mono ?_
      rintro e w' ⟨rfl, rfl⟩
      exact ⟨rfl, R, RDev.refl h, rfl⟩
    · have e0 : R.pl.arm k = (0, { R.pl with fuse := k }) := by unfold QS.arm; rw [if_neg hno, if_neg hk0]
      rw [e0]
      refine (refArm_ok q R k w h ho (by omega)).mono ?_
      rintro e w' ⟨rfl, hD, hT⟩
      exact ⟨rfl, { R with fuse := k }, ⟨hD, hT.mono (fun j _ hj => Or.inl hj), fun j hj => Or.inl hj⟩, rfl⟩
set_option maxRecDepth 100000 in
set_option maxHeartbeats 1600000 in
theorem step_create (b q n : Nat) (S : DSt) (R : RSt) (aa nn : Int) (nm tt tx : ByteArray) (fa : Option Addr) (m fc : Nat) (w : World) (h : Duo w b q S R) (hr : Rel S.pl R.pl) (hok : OkP n S.pl) (hn : n ≤ 900000) (hs : nm.size ≤ maxLen) :
    Calls Try.prog 26 #[.pointer (some ⟨b, 0, none⟩), .pointer (some ⟨q, 0, none⟩), .agg #[.int .i64 0, .int .i64 aa, .int .i64 nn, .string nm, .string tt, .string tx, .slice fa m fc]] w (StepOk b q n S R w) := by
  unfold maxLen at hs
  have HO := Lib.hid (OpBlk.start h (opVals 0 aa nn nm tt tx fa m fc))
  have hq := hr.ok hok (by omega)
  obtain ⟨he, hr2⟩ := hr.create hok.names nm
  have H1 := Lib.hid (fun w' (ho : OpBlk b q S R w.heap.size (opVals 0 aa nn nm tt tx fa m fc) w S R w') => create_any b n S nm w' ho.step.duo.disk hok (by omega))
  have H2 := Lib.hid (fun (S' : DSt) w' (ho : OpBlk b q S R w.heap.size (opVals 0 aa nn nm tt tx fa m fc) w S' R w') => refCreate_any q R nm w' ho.step.duo.ref hq.flen hs hq.made)
  have HC := Lib.hid (fun w' => cut_any tx w')
  have HE := Lib.hid (show ∀ (S' : DSt) (R' : RSt) w', OpBlk b q S R w.heap.size (opVals 0 aa nn nm tt tx fa m fc) w S' R' w' → S'.pl = (S.pl.create nm).2 → R'.pl = (R.pl.create nm).2 → ∃ S' R', DStep b q S R w S' R' w' ∧ Rel S'.pl R'.pl ∧ OkP (n + 701) S'.pl from fun S' R' w' ho e1 e2 => ⟨S', R', ho.step, by rw [e1, e2]; exact hr2, by rw [e1]; exact OkP.mono (hok.create nm) (by omega)⟩)
  rw [← he] at H2
  generalize (S.pl.create nm).1 = V at H1 H2
  generalize hX : w.heap.size = X at HO H1 H2 HE
  clear h hr hok hr2 he hq
  unfold StepOk
  go_enter Try.func26, Try.ntmps26
  go_wp2_with fail
  refine (HC.out _).mono ?_
  rintro e w1 ⟨rfl, rfl⟩
  change Hid (OpBlk b q S R X (opVals 0 aa nn nm tt tx fa m fc) w S R (w.alloc (.cells #[.int .i64 0, .int .i64 aa, .int .i64 nn, .string nm, .string tt, .string tx, .slice fa m fc] 46))) at HO
  generalize w.alloc (.cells #[.int .i64 0, .int .i64 aa, .int .i64 nn, .string nm, .string tt, .string tx, .slice fa m fc] 46) = w1 at HO ⊢
  have c0 : w1.cell? ⟨X, 0, none⟩ = some (.int .i64 0) := HO.out.blk.cell 0

  have cnm : w1.cell? ⟨X, 3, none⟩ = some (.string nm) := HO.out.blk.cell 3
  go_upto_region 5 with (fail)
  have HOd := Lib.hid (HO.out.below (Below.refl _ w1).drew)
  go_region_held3 (fun w' => w'.cell? ⟨X, 3, none⟩ = some (.string nm))
    (first | exact hc3nm | exact hc2nm | go_keep)
    (first
      | (go_at_call 13; refine (H1.out _ HOd.out).mono ?_; rintro e w2 ⟨rfl, S2, hd2, hp2⟩; have HO2 := HOd.out.then (HOd.out.step.duo.dev hd2); have hc2nm : w2.cell? ⟨X, 3, none⟩ = some (.string nm) := HO2.blk.cell 3)
      | (go_at_call 44; refine (H2.out S2 _ HO2).mono ?_; rintro e w3 ⟨rfl, R3, hd3, hp3⟩; have HO3 := HO2.then (HO2.step.duo.rdev hd3); have hc3nm : w3.cell? ⟨X, 3, none⟩ = some (.string nm) := HO3.blk.cell 3))
  go_wp2_with fail
  go_ret
  exact ⟨by first | rfl | exact ret_bool (by simp), HE.out S2 R3 w3 HO3 hp2 hp3⟩

set_option maxRecDepth 100000 in
set_option maxHeartbeats 1600000 in
theorem step_remove (b q n : Nat) (S : DSt) (R : RSt) (aa nn : Int) (nm tt tx : ByteArray) (fa : Option Addr) (m fc : Nat) (w : World) (h : Duo w b q S R) (hr : Rel S.pl R.pl) (hok : OkP n S.pl) (hn : n ≤ 900000)  :
    Calls Try.prog 26 #[.pointer (some ⟨b, 0, none⟩), .pointer (some ⟨q, 0, none⟩), .agg #[.int .i64 1, .int .i64 aa, .int .i64 nn, .string nm, .string tt, .string tx, .slice fa m fc]] w (StepOk b q n S R w) := by
  have HO := Lib.hid (OpBlk.start h (opVals 1 aa nn nm tt tx fa m fc))
  have hq := hr.ok hok (by omega)
  obtain ⟨he, hr2⟩ := hr.remove hok.names nm
  have H1 := Lib.hid (fun w' (ho : OpBlk b q S R w.heap.size (opVals 1 aa nn nm tt tx fa m fc) w S R w') => remove_any b n S nm w' ho.step.duo.disk hok (by omega))
  have H2 := Lib.hid (fun (S' : DSt) w' (ho : OpBlk b q S R w.heap.size (opVals 1 aa nn nm tt tx fa m fc) w S' R w') => refRemove_any q R nm w' ho.step.duo.ref hq.flen hq.wlen)
  have HC := Lib.hid (fun w' => cut_any tx w')
  have HE := Lib.hid (show ∀ (S' : DSt) (R' : RSt) w', OpBlk b q S R w.heap.size (opVals 1 aa nn nm tt tx fa m fc) w S' R' w' → S'.pl = (S.pl.remove nm).2 → R'.pl = (R.pl.remove nm).2 → ∃ S' R', DStep b q S R w S' R' w' ∧ Rel S'.pl R'.pl ∧ OkP (n + 701) S'.pl from fun S' R' w' ho e1 e2 => ⟨S', R', ho.step, by rw [e1, e2]; exact hr2, by rw [e1]; exact OkP.mono (hok.remove nm) (by omega)⟩)
  rw [← he] at H2
  generalize (S.pl.remove nm).1 = V at H1 H2
  generalize hX : w.heap.size = X at HO H1 H2 HE
  clear h hr hok hr2 he hq
  unfold StepOk
  go_enter Try.func26, Try.ntmps26
  go_wp2_with fail
  refine (HC.out _).mono ?_
  rintro e w1 ⟨rfl, rfl⟩
  change Hid (OpBlk b q S R X (opVals 1 aa nn nm tt tx fa m fc) w S R (w.alloc (.cells #[.int .i64 1, .int .i64 aa, .int .i64 nn, .string nm, .string tt, .string tx, .slice fa m fc] 46))) at HO
  generalize w.alloc (.cells #[.int .i64 1, .int .i64 aa, .int .i64 nn, .string nm, .string tt, .string tx, .slice fa m fc] 46) = w1 at HO ⊢
  have c0 : w1.cell? ⟨X, 0, none⟩ = some (.int .i64 1) := HO.out.blk.cell 0

  have cnm : w1.cell? ⟨X, 3, none⟩ = some (.string nm) := HO.out.blk.cell 3
  go_upto_region 7 with (fail)
  have HOd := Lib.hid (HO.out.below (Below.refl _ w1).drew)
  go_region_held3 (fun w' => w'.cell? ⟨X, 3, none⟩ = some (.string nm))
    (first | exact hc3nm | exact hc2nm | go_keep)
    (first
      | (go_at_call 30; refine (H1.out _ HOd.out).mono ?_; rintro e w2 ⟨rfl, S2, hd2, hp2⟩; have HO2 := HOd.out.then (HOd.out.step.duo.dev hd2); have hc2nm : w2.cell? ⟨X, 3, none⟩ = some (.string nm) := HO2.blk.cell 3)
      | (go_at_call 45; refine (H2.out S2 _ HO2).mono ?_; rintro e w3 ⟨rfl, R3, hd3, hp3⟩; have HO3 := HO2.then (HO2.step.duo.rdev hd3); have hc3nm : w3.cell? ⟨X, 3, none⟩ = some (.string nm) := HO3.blk.cell 3))
  go_wp2_with fail
  go_ret
  exact ⟨by first | rfl | exact ret_bool (by simp), HE.out S2 R3 w3 HO3 hp2 hp3⟩

set_option maxRecDepth 100000 in
set_option maxHeartbeats 1600000 in
theorem step_rename (b q n : Nat) (S : DSt) (R : RSt) (aa nn : Int) (nm tt tx : ByteArray) (fa : Option Addr) (m fc : Nat) (w : World) (h : Duo w b q S R) (hr : Rel S.pl R.pl) (hok : OkP n S.pl) (hn : n ≤ 900000) (hs : tt.size ≤ maxLen) :
    Calls Try.prog 26 #[.pointer (some ⟨b, 0, none⟩), .pointer (some ⟨q, 0, none⟩), .agg #[.int .i64 2, .int .i64 aa, .int .i64 nn, .string nm, .string tt, .string tx, .slice fa m fc]] w (StepOk b q n S R w) := by
  unfold maxLen at hs
  have HO := Lib.hid (OpBlk.start h (opVals 2 aa nn nm tt tx fa m fc))
  have hq := hr.ok hok (by omega)
  obtain ⟨he, hr2⟩ := hr.rename hok.names nm tt
  have H1 := Lib.hid (fun w' (ho : OpBlk b q S R w.heap.size (opVals 2 aa nn nm tt tx fa m fc) w S R w') => rename_any b n S nm tt w' ho.step.duo.disk hok (by omega))
  have H2 := Lib.hid (fun (S' : DSt) w' (ho : OpBlk b q S R w.heap.size (opVals 2 aa nn nm tt tx fa m fc) w S' R w') => refRename_any q R nm tt w' ho.step.duo.ref hq.flen hs)
  have HC := Lib.hid (fun w' => cut_any tx w')
  have HE := Lib.hid (show ∀ (S' : DSt) (R' : RSt) w', OpBlk b q S R w.heap.size (opVals 2 aa nn nm tt tx fa m fc) w S' R' w' → S'.pl = (S.pl.rename nm tt).2 → R'.pl = (R.pl.rename nm tt).2 → ∃ S' R', DStep b q S R w S' R' w' ∧ Rel S'.pl R'.pl ∧ OkP (n + 701) S'.pl from fun S' R' w' ho e1 e2 => ⟨S', R', ho.step, by rw [e1, e2]; exact hr2, by rw [e1]; exact OkP.mono (hok.rename nm tt) (by omega)⟩)
  rw [← he] at H2
  generalize (S.pl.rename nm tt).1 = V at H1 H2
  generalize hX : w.heap.size = X at HO H1 H2 HE
  clear h hr hok hr2 he hq
  unfold StepOk
  go_enter Try.func26, Try.ntmps26
  go_wp2_with fail
  refine (HC.out _).mono ?_
  rintro e w1 ⟨rfl, rfl⟩
  change Hid (OpBlk b q S R X (opVals 2 aa nn nm tt tx fa m fc) w S R (w.alloc (.cells #[.int .i64 2, .int .i64 aa, .int .i64 nn, .string nm, .string tt, .string tx, .slice fa m fc] 46))) at HO
  generalize w.alloc (.cells #[.int .i64 2, .int .i64 aa, .int .i64 nn, .string nm, .string tt, .string tx, .slice fa m fc] 46) = w1 at HO ⊢
  have c0 : w1.cell? ⟨X, 0, none⟩ = some (.int .i64 2) := HO.out.blk.cell 0

  have cnm : w1.cell? ⟨X, 3, none⟩ = some (.string nm) := HO.out.blk.cell 3
  have ctt : w1.cell? ⟨X, 4, none⟩ = some (.string tt) := HO.out.blk.cell 4
  go_upto_region 9 with (fail)
  have HOd := Lib.hid (HO.out.below (Below.refl _ w1).drew)
  go_region_held3 (fun w' => w'.cell? ⟨X, 3, none⟩ = some (.string nm) ∧ w'.cell? ⟨X, 4, none⟩ = some (.string tt))
    (first | exact ⟨hc3nm, hc3tt⟩ | exact ⟨hc2nm, hc2tt⟩ | go_keep)
    (first
      | (go_at_call 31; refine (H1.out _ HOd.out).mono ?_; rintro e w2 ⟨rfl, S2, hd2, hp2⟩; have HO2 := HOd.out.then (HOd.out.step.duo.dev hd2); have hc2nm : w2.cell? ⟨X, 3, none⟩ = some (.string nm) := HO2.blk.cell 3; have hc2tt : w2.cell? ⟨X, 4, none⟩ = some (.string tt) := HO2.blk.cell 4)
      | (go_at_call 46; refine (H2.out S2 _ HO2).mono ?_; rintro e w3 ⟨rfl, R3, hd3, hp3⟩; have HO3 := HO2.then (HO2.step.duo.rdev hd3); have hc3nm : w3.cell? ⟨X, 3, none⟩ = some (.string nm) := HO3.blk.cell 3; have hc3tt : w3.cell? ⟨X, 4, none⟩ = some (.string tt) := HO3.blk.cell 4))
  go_wp2_with fail
  go_ret
  exact ⟨by first | rfl | exact ret_bool (by simp), HE.out S2 R3 w3 HO3 hp2 hp3⟩

set_option maxRecDepth 100000 in
set_option maxHeartbeats 1600000 in
theorem step_arm (b q n : Nat) (S : DSt) (R : RSt) (aa nn : Int) (nm tt tx : ByteArray) (fa : Option Addr) (m fc : Nat) (w : World) (h : Duo w b q S R) (hr : Rel S.pl R.pl) (hok : OkP n S.pl) (hn : n ≤ 900000) (hs : (Lit.int .i64 nn).wf = true) :
    Calls Try.prog 26 #[.pointer (some ⟨b, 0, none⟩), .pointer (some ⟨q, 0, none⟩), .agg #[.int .i64 9, .int .i64 aa, .int .i64 nn, .string nm, .string tt, .string tx, .slice fa m fc]] w (StepOk b q n S R w) := by
  have HO := Lib.hid (OpBlk.start h (opVals 9 aa nn nm tt tx fa m fc))
  have hq := hr.ok hok (by omega)
  obtain ⟨he, hr2⟩ := hr.arm2 nn
  have H1 := Lib.hid (fun w' (ho : OpBlk b q S R w.heap.size (opVals 9 aa nn nm tt tx fa m fc) w S R w') => arm_any b S nn w' ho.step.duo.disk)
  have H2 := Lib.hid (fun (S' : DSt) w' (ho : OpBlk b q S R w.heap.size (opVals 9 aa nn nm tt tx fa m fc) w S' R w') => refArm_any q R nn w' ho.step.duo.ref)
  have HC := Lib.hid (fun w' => cut_any tx w')
  have HE := Lib.hid (show ∀ (S' : DSt) (R' : RSt) w', OpBlk b q S R w.heap.size (opVals 9 aa nn nm tt tx fa m fc) w S' R' w' → S'.pl = (S.pl.arm nn).2 → R'.pl = (R.pl.arm nn).2 → ∃ S' R', DStep b q S R w S' R' w' ∧ Rel S'.pl R'.pl ∧ OkP (n + 701) S'.pl from fun S' R' w' ho e1 e2 => ⟨S', R', ho.step, by rw [e1, e2]; exact hr2, by rw [e1]; exact OkP.mono (hok.arm nn (by have := int_bounds hs; omega)) (by omega)⟩)
  rw [← he] at H2
  generalize (S.pl.arm nn).1 = V at H1 H2
  generalize hX : w.heap.size = X at HO H1 H2 HE
  clear h hr hok hr2 he hq
  unfold StepOk
  go_enter Try.func26, Try.ntmps26
  go_wp2_with fail
  refine (HC.out _).mono ?_
  rintro e w1 ⟨rfl, rfl⟩
  change Hid (OpBlk b q S R X (opVals 9 aa nn nm tt tx fa m fc) w S R (w.alloc (.cells #[.int .i64 9, .int .i64 aa, .int .i64 nn, .string nm, .string tt, .string tx, .slice fa m fc] 46))) at HO
  generalize w.alloc (.cells #[.int .i64 9, .int .i64 aa, .int .i64 nn, .string nm, .string tt, .string tx, .slice fa m fc] 46) = w1 at HO ⊢
  have c0 : w1.cell? ⟨X, 0, none⟩ = some (.int .i64 9) := HO.out.blk.cell 0

  have cnn : w1.cell? ⟨X, 2, none⟩ = some (.int .i64 nn) := HO.out.blk.cell 2
  go_upto_region 32 with (fail)
  have HOd := Lib.hid (HO.out.below (Below.refl _ w1).drew)
  go_region_held3 (fun w' => w'.cell? ⟨X, 2, none⟩ = some (.int .i64 nn))
    (first | exact hc3nn | exact hc2nn | go_keep)
    (first
      | (go_at_call 20; refine (H1.out _ HOd.out).mono ?_; rintro e w2 ⟨rfl, S2, hd2, hp2⟩; have HO2 := HOd.out.then (HOd.out.step.duo.dev hd2); have hc2nn : w2.cell? ⟨X, 2, none⟩ = some (.int .i64 nn) := HO2.blk.cell 2)
      | (go_at_call 54; refine (H2.out S2 _ HO2).mono ?_; rintro e w3 ⟨rfl, R3, hd3, hp3⟩; have HO3 := HO2.then (HO2.step.duo.rdev hd3); have hc3nn : w3.cell? ⟨X, 2, none⟩ = some (.int .i64 nn) := HO3.blk.cell 2))
  go_wp2_with fail
  go_ret
  exact ⟨by first | rfl | exact ret_bool (by simp), HE.out S2 R3 w3 HO3 hp2 hp3⟩

set_option maxRecDepth 100000 in
set_option maxHeartbeats 1600000 in
theorem step_spoil (b q n : Nat) (S : DSt) (R : RSt) (aa nn : Int) (nm tt tx : ByteArray) (fa : Option Addr) (m fc : Nat) (w : World) (h : Duo w b q S R) (hr : Rel S.pl R.pl) (hok : OkP n S.pl) (hn : n ≤ 900000)  :
    Calls Try.prog 26 #[.pointer (some ⟨b, 0, none⟩), .pointer (some ⟨q, 0, none⟩), .agg #[.int .i64 11, .int .i64 aa, .int .i64 nn, .string nm, .string tt, .string tx, .slice fa m fc]] w (StepOk b q n S R w) := by
  have HO := Lib.hid (OpBlk.start h (opVals 11 aa nn nm tt tx fa m fc))
  have hq := hr.ok hok (by omega)
  obtain ⟨he, hr2⟩ := hr.spoil hok.names nm aa nn
  have H1 := Lib.hid (fun w' (ho : OpBlk b q S R w.heap.size (opVals 11 aa nn nm tt tx fa m fc) w S R w') => spoil_any b n S nm aa nn w' ho.step.duo.disk hok (by omega))
  have H2 := Lib.hid (fun (S' : DSt) w' (ho : OpBlk b q S R w.heap.size (opVals 11 aa nn nm tt tx fa m fc) w S' R w') => refSpoil_any q R nm aa nn w' ho.step.duo.ref hq.flen hq.small)
  have HC := Lib.hid (fun w' => cut_any tx w')
  have HE := Lib.hid (show ∀ (S' : DSt) (R' : RSt) w', OpBlk b q S R w.heap.size (opVals 11 aa nn nm tt tx fa m fc) w S' R' w' → S'.pl = (S.pl.spoil nm aa nn).2 → R'.pl = (R.pl.spoil nm aa nn).2 → ∃ S' R', DStep b q S R w S' R' w' ∧ Rel S'.pl R'.pl ∧ OkP (n + 701) S'.pl from fun S' R' w' ho e1 e2 => ⟨S', R', ho.step, by rw [e1, e2]; exact hr2, by rw [e1]; exact OkP.mono (hok.spoil nm aa nn) (by omega)⟩)
  rw [← he] at H2
  generalize (S.pl.spoil nm aa nn).1 = V at H1 H2
  generalize hX : w.heap.size = X at HO H1 H2 HE
  clear h hr hok hr2 he hq
  unfold StepOk
  go_enter Try.func26, Try.ntmps26
  go_wp2_with fail
  refine (HC.out _).mono ?_
  rintro e w1 ⟨rfl, rfl⟩
  change Hid (OpBlk b q S R X (opVals 11 aa nn nm tt tx fa m fc) w S R (w.alloc (.cells #[.int .i64 11, .int .i64 aa, .int .i64 nn, .string nm, .string tt, .string tx, .slice fa m fc] 46))) at HO
  generalize w.alloc (.cells #[.int .i64 11, .int .i64 aa, .int .i64 nn, .string nm, .string tt, .string tx, .slice fa m fc] 46) = w1 at HO ⊢
  have c0 : w1.cell? ⟨X, 0, none⟩ = some (.int .i64 11) := HO.out.blk.cell 0

  have cnm : w1.cell? ⟨X, 3, none⟩ = some (.string nm) := HO.out.blk.cell 3
  have caa : w1.cell? ⟨X, 1, none⟩ = some (.int .i64 aa) := HO.out.blk.cell 1
  have cnn : w1.cell? ⟨X, 2, none⟩ = some (.int .i64 nn) := HO.out.blk.cell 2
  go_upto_region 38 with (fail)
  have HOd := Lib.hid (HO.out.below (Below.refl _ w1).drew)
  go_region_held3 (fun w' => w'.cell? ⟨X, 3, none⟩ = some (.string nm) ∧ w'.cell? ⟨X, 1, none⟩ = some (.int .i64 aa) ∧ w'.cell? ⟨X, 2, none⟩ = some (.int .i64 nn))
    (first | exact ⟨hc3nm, hc3aa, hc3nn⟩ | exact ⟨hc2nm, hc2aa, hc2nn⟩ | go_keep)
    (first
      | (go_at_call 32; refine (H1.out _ HOd.out).mono ?_; rintro e w2 ⟨rfl, S2, hd2, hp2⟩; have HO2 := HOd.out.then (HOd.out.step.duo.dev hd2); have hc2nm : w2.cell? ⟨X, 3, none⟩ = some (.string nm) := HO2.blk.cell 3; have hc2aa : w2.cell? ⟨X, 1, none⟩ = some (.int .i64 aa) := HO2.blk.cell 1; have hc2nn : w2.cell? ⟨X, 2, none⟩ = some (.int .i64 nn) := HO2.blk.cell 2)
      | (go_at_call 56; refine (H2.out S2 _ HO2).mono ?_; rintro e w3 ⟨rfl, R3, hd3, hp3⟩; have HO3 := HO2.then (HO2.step.duo.rdev hd3); have hc3nm : w3.cell? ⟨X, 3, none⟩ = some (.string nm) := HO3.blk.cell 3; have hc3aa : w3.cell? ⟨X, 1, none⟩ = some (.int .i64 aa) := HO3.blk.cell 1; have hc3nn : w3.cell? ⟨X, 2, none⟩ = some (.int .i64 nn) := HO3.blk.cell 2))
  go_wp2_with fail
  go_ret
  exact ⟨by first | rfl | exact ret_bool (by simp), HE.out S2 R3 w3 HO3 hp2 hp3⟩
end Go.Proofs.Ytlmodbaeoheiiaa
namespace Go.Proofs.Ytlmodbaeoheiiaa
open Go.RowKit
set_option linter.unusedVariables false

def QS.syncR (Q : QS) : Int × QS := if Q.off then (14, Q) else (0, Q.sync)
theorem Rel.syncR {P : PS} {Q : QS} (hr : Rel P Q) (hp : ∀ p ∈ P.wait, OkPiece p) : P.syncR.1 = Q.syncR.1 ∧ Rel P.syncR.2 Q.syncR.2 := by
  unfold PS.syncR QS.syncR
  rw [hr.off]
  cases Q.off with
  | true => exact ⟨rfl, hr⟩
  | false => exact ⟨rfl, hr.sync hp⟩
theorem OkP.syncR {n : Nat} {P : PS} (h : OkP n P) : OkP n P.syncR.2 := by
  unfold PS.syncR
  split
  · exact h
  · exact h.sync
theorem sync_any (b n : Nat) (S : DSt) (w : World) (h : DiskAt w b S) (hok : OkP n S.pl) (hn : n ≤ 1000000) :
    Calls Try.prog 24 #[.pointer (some ⟨b, 0, none⟩)] w fun e w' => e = .returned (.int .i64 S.pl.syncR.1) ∧ ∃ S', Dev b S w S' w' ∧ S'.pl = S.pl.syncR.2 := by
  obtain ⟨_, hl, hsm, _, hwl, _⟩ := hok.ready hn
  cases ho : S.off with
  | true =>
    have e0 : S.pl.syncR = (14, S.pl) := if_pos ho
    rw [e0]
    refine (sync_off b S w h ho).mono ?_
    rintro e w' ⟨rfl, rfl⟩
    exact ⟨rfl, S, Dev.refl h, rfl⟩
  | false =>
    have hno : ¬ (S.pl.off = true) := by show ¬ (S.off = true); rw [ho]; decide
    have e0 : S.pl.syncR = (0, S.pl.sync) := if_neg hno
    rw [e0]
    refine (sync_ok b S w h ho hl hsm hok.wait hwl).mono ?_
    rintro e w' ⟨rfl, fs, hD, hpl⟩
    refine ⟨rfl, _, hD, ?_⟩
    show (PS.mk (fs.map DFile.pl) _ _ _ _ _ _) = _
    rw [hpl]
    rfl
theorem refSync_any (q : Nat) (R : RSt) (w : World) (h : RefD w q R) (hq : QOk R) :
    Calls Try.prog 53 #[.pointer (some ⟨q, 0, none⟩)] w fun e w' => e = .returned (.int .i64 R.pl.syncR.1) ∧ ∃ R', RDev q R w R' w' ∧ R'.pl = R.pl.syncR.2 := by
  cases ho : R.off with
  | true =>
    have e0 : R.pl.syncR = (14, R.pl) := if_pos ho
    rw [e0]
    refine (refSync_off q R w h ho).mono ?_
    rintro e w' ⟨rfl, rfl⟩
    exact ⟨rfl, R, RDev.refl h, rfl⟩
  | false =>
    have hno : ¬ (R.pl.off = true) := by show ¬ (R.off = true); rw [ho]; decide
    have e0 : R.pl.syncR = (0, R.pl.sync) := if_neg hno
    rw [e0]
    exact refSync_ok q R w h ho hq.flen hq.wlen hq.small hq.wait
theorem crash_dev (b n : Nat) (S : DSt) (fa : Option Addr) (fc : Nat) (l : List Int) (w : World) (h : DiskAt w b S) (hok : OkP n S.pl) (hn : n ≤ 1000000) (hfa : IntsAt .i64 w fa l) (hfo : ∀ g off, l ≠ [] → fa = some ⟨g, off, none⟩ → ¬ foot b S g) (hll : l.length ≤ 9223372036854775807) :
    Calls Try.prog 15 #[.pointer (some ⟨b, 0, none⟩), .slice fa l.length fc] w fun e w' => e = .returned (.tuple #[]) ∧ ∃ S', Dev b S w S' w' ∧ S'.pl = S.pl.crash l := by
  obtain ⟨_, hl, hsm, _, hwl, _⟩ := hok.ready hn
  refine (crash_any b S fa fc l w h hl hsm hok.wait hwl hfa hfo hll).mono ?_
  rintro e w' ⟨rfl, fs, hD, hpl⟩
  refine ⟨rfl, _, hD, ?_⟩
  show (PS.mk (fs.map DFile.pl) _ _ _ _ _ _) = _
  rw [hpl]
  rfl
def lowOf (n : Int) : Int := if 5000 < n ∧ n ≤ 2097152 then n % 5000 else n
theorem lowOf_wf {n : Int} (h : (Lit.int .i64 n).wf = true) : (Lit.int .i64 (lowOf n)).wf = true := by
  have hb := int_bounds h
  unfold lowOf
  split
  · simp [Lit.wf, IntKind.min, IntKind.max, IntKind.bits, IntKind.signed]
    omega
  · exact h

set_option maxRecDepth 100000 in
set_option maxHeartbeats 1600000 in
theorem step_write (b q n : Nat) (S : DSt) (R : RSt) (aa nn : Int) (nm tt tx : ByteArray) (fa : Option Addr) (m fc : Nat) (w : World) (h : Duo w b q S R) (hr : Rel S.pl R.pl) (hok : OkP n S.pl) (hn : n ≤ 900000) (hs : (Lit.int .i64 aa).wf = true) :
    Calls Try.prog 26 #[.pointer (some ⟨b, 0, none⟩), .pointer (some ⟨q, 0, none⟩), .agg #[.int .i64 6, .int .i64 aa, .int .i64 nn, .string nm, .string tt, .string tx, .slice fa m fc]] w (StepOk b q n S R w) := by
  have HO := Lib.hid (OpBlk.start h (opVals 6 aa nn nm tt tx fa m fc))
  have hq := hr.ok hok (by omega)
  have HC := Lib.hid (fun w' => cut_any tx w')
  have hct := cutT_size tx
  have hct2 : (cutT tx).size ≤ maxLen := by unfold maxLen; omega
  obtain ⟨he, hr2⟩ := hr.write hok.names nm (lowOf aa) (cutT tx)
  have H1 := Lib.hid (fun w' (ho : OpBlk b q S R w.heap.size (opVals 6 aa nn nm tt tx fa m fc) w S R w') => write_any b S nm (lowOf aa) (cutT tx) w' ho.step.duo.disk (hok.ready (by omega)) (lowOf_wf hs) hct2)
  have H2 := Lib.hid (fun (S' : DSt) w' (ho : OpBlk b q S R w.heap.size (opVals 6 aa nn nm tt tx fa m fc) w S' R w') => refWrite_any q R nm (lowOf aa) (cutT tx) w' ho.step.duo.ref hq.flen hq.small hq.most hct2 hq.wlen hq.count hq.fuse)
  have HL := Lib.hid (fun w' => low_any aa w' hs)
  have HE := Lib.hid (show ∀ (S' : DSt) (R' : RSt) w', OpBlk b q S R w.heap.size (opVals 6 aa nn nm tt tx fa m fc) w S' R' w' → S'.pl = (S.pl.write nm (lowOf aa) (cutT tx)).2 → R'.pl = (R.pl.write nm (lowOf aa) (cutT tx)).2 → ∃ S' R', DStep b q S R w S' R' w' ∧ Rel S'.pl R'.pl ∧ OkP (n + 701) S'.pl from fun S' R' w' ho e1 e2 => ⟨S', R', ho.step, by rw [e1, e2]; exact hr2, by rw [e1]; exact OkP.mono (hok.write nm (lowOf aa) (cutT tx)) (by omega)⟩)
  rw [← he] at H2
  change Hid (∀ w', Calls _ _ _ w' fun e w'' => e = .returned (.int .i64 (lowOf aa)) ∧ w' = w'') at HL
  generalize (S.pl.write nm (lowOf aa) (cutT tx)).1 = V at H1 H2
  generalize lowOf aa = la at *
  clear hr2 he
  generalize hX : w.heap.size = X at *
  clear h hr hok hq
  unfold StepOk
  go_enter Try.func26, Try.ntmps26
  go_wp2_with fail
  refine (HC.out _).mono ?_
  rintro e w1 ⟨rfl, rfl⟩
  change Hid (OpBlk b q S R X (opVals 6 aa nn nm tt tx fa m fc) w S R (w.alloc (.cells #[.int .i64 6, .int .i64 aa, .int .i64 nn, .string nm, .string tt, .string tx, .slice fa m fc] 46))) at HO
  generalize w.alloc (.cells #[.int .i64 6, .int .i64 aa, .int .i64 nn, .string nm, .string tt, .string tx, .slice fa m fc] 46) = w1 at HO ⊢
  have c0 : w1.cell? ⟨X, 0, none⟩ = some (.int .i64 6) := HO.out.blk.cell 0
  have c1 : w1.cell? ⟨X, 1, none⟩ = some (.int .i64 aa) := HO.out.blk.cell 1
  have c2 : w1.cell? ⟨X, 2, none⟩ = some (.int .i64 nn) := HO.out.blk.cell 2
  have c3 : w1.cell? ⟨X, 3, none⟩ = some (.string nm) := HO.out.blk.cell 3
  have c6 : w1.cell? ⟨X, 6, none⟩ = some (.slice fa m fc) := HO.out.blk.cell 6
  go_upto_region 23 with (fail)
  have HOd := Lib.hid (HO.out.below (Below.refl _ w1).drew)
  go_region_held3 (fun w' => w'.cell? ⟨X, 3, none⟩ = some (.string nm) ∧ w'.cell? ⟨X, 1, none⟩ = some (.int .i64 aa))
    (first | exact ⟨hc3, hd3⟩ | exact ⟨hc2, hd2⟩ | go_keep)
    (first
      | (go_at_call 51; refine (HL.out _).mono ?_; rintro e wl ⟨rfl, rfl⟩)
      | (go_at_call 14; refine (H1.out _ HOd.out).mono ?_; rintro e w2 ⟨rfl, S2, hD2, hp2⟩; have HO2 := HOd.out.then (HOd.out.step.duo.dev hD2); have hc2 : w2.cell? ⟨X, 3, none⟩ = some (.string nm) := HO2.blk.cell 3; have hd2 : w2.cell? ⟨X, 1, none⟩ = some (.int .i64 aa) := HO2.blk.cell 1)
      | (go_at_call 52; refine (H2.out S2 _ HO2).mono ?_; rintro e w3 ⟨rfl, R3, hD3, hp3⟩; have HO3 := HO2.then (HO2.step.duo.rdev hD3); have hc3 : w3.cell? ⟨X, 3, none⟩ = some (.string nm) := HO3.blk.cell 3; have hd3 : w3.cell? ⟨X, 1, none⟩ = some (.int .i64 aa) := HO3.blk.cell 1))
  all_goals go_wp2_with fail
  all_goals go_ret
  all_goals exact ⟨by first | rfl | exact ret_bool (by simp), HE.out S2 R3 w3 HO3 hp2 hp3⟩

set_option maxRecDepth 100000 in
set_option maxHeartbeats 1600000 in
theorem step_sync (b q n : Nat) (S : DSt) (R : RSt) (aa nn : Int) (nm tt tx : ByteArray) (fa : Option Addr) (m fc : Nat) (w : World) (h : Duo w b q S R) (hr : Rel S.pl R.pl) (hok : OkP n S.pl) (hn : n ≤ 900000)  :
    Calls Try.prog 26 #[.pointer (some ⟨b, 0, none⟩), .pointer (some ⟨q, 0, none⟩), .agg #[.int .i64 8, .int .i64 aa, .int .i64 nn, .string nm, .string tt, .string tx, .slice fa m fc]] w (StepOk b q n S R w) := by
  have HO := Lib.hid (OpBlk.start h (opVals 8 aa nn nm tt tx fa m fc))
  have hq := hr.ok hok (by omega)
  have HC := Lib.hid (fun w' => cut_any tx w')
  obtain ⟨he, hr2⟩ := hr.syncR hok.wait
  have H1 := Lib.hid (fun w' (ho : OpBlk b q S R w.heap.size (opVals 8 aa nn nm tt tx fa m fc) w S R w') => sync_any b n S w' ho.step.duo.disk hok (by omega))
  have H2 := Lib.hid (fun (S' : DSt) w' (ho : OpBlk b q S R w.heap.size (opVals 8 aa nn nm tt tx fa m fc) w S' R w') => refSync_any q R w' ho.step.duo.ref hq)
  have HE := Lib.hid (show ∀ (S' : DSt) (R' : RSt) w', OpBlk b q S R w.heap.size (opVals 8 aa nn nm tt tx fa m fc) w S' R' w' → S'.pl = S.pl.syncR.2 → R'.pl = R.pl.syncR.2 → ∃ S' R', DStep b q S R w S' R' w' ∧ Rel S'.pl R'.pl ∧ OkP (n + 701) S'.pl from fun S' R' w' ho e1 e2 => ⟨S', R', ho.step, by rw [e1, e2]; exact hr2, by rw [e1]; exact OkP.mono (hok.syncR) (by omega)⟩)
  rw [← he] at H2
  generalize S.pl.syncR.1 = V at H1 H2
  clear hr2 he
  generalize hX : w.heap.size = X at *
  clear h hr hok hq
  unfold StepOk
  go_enter Try.func26, Try.ntmps26
  go_wp2_with fail
  refine (HC.out _).mono ?_
  rintro e w1 ⟨rfl, rfl⟩
  change Hid (OpBlk b q S R X (opVals 8 aa nn nm tt tx fa m fc) w S R (w.alloc (.cells #[.int .i64 8, .int .i64 aa, .int .i64 nn, .string nm, .string tt, .string tx, .slice fa m fc] 46))) at HO
  generalize w.alloc (.cells #[.int .i64 8, .int .i64 aa, .int .i64 nn, .string nm, .string tt, .string tx, .slice fa m fc] 46) = w1 at HO ⊢
  have c0 : w1.cell? ⟨X, 0, none⟩ = some (.int .i64 8) := HO.out.blk.cell 0
  have c1 : w1.cell? ⟨X, 1, none⟩ = some (.int .i64 aa) := HO.out.blk.cell 1
  have c2 : w1.cell? ⟨X, 2, none⟩ = some (.int .i64 nn) := HO.out.blk.cell 2
  have c3 : w1.cell? ⟨X, 3, none⟩ = some (.string nm) := HO.out.blk.cell 3
  have c6 : w1.cell? ⟨X, 6, none⟩ = some (.slice fa m fc) := HO.out.blk.cell 6
  go_wp2_with fail
  refine (H1.out _ HO.out).mono ?_
  rintro e w2 ⟨rfl, S2, hD2, hp2⟩
  have HO2 := Lib.hid (HO.out.then (HO.out.step.duo.dev hD2))
  have Hp2 := Lib.hid hp2
  clear hD2 hp2
  go_wp2_with fail
  refine (H2.out S2 _ HO2.out).mono ?_
  rintro e w3 ⟨rfl, R3, hD3, hp3⟩
  have HO3 := Lib.hid (HO2.out.then (HO2.out.step.duo.rdev hD3))
  have Hp3 := Lib.hid hp3
  clear hD3 hp3
  go_wp2_with fail
  go_ret
  exact ⟨by first | rfl | exact ret_bool (by simp), HE.out S2 R3 w3 HO3.out Hp2.out Hp3.out⟩

set_option maxRecDepth 100000 in
set_option maxHeartbeats 1600000 in
theorem step_crash (b q n : Nat) (S : DSt) (R : RSt) (aa nn : Int) (nm tt tx : ByteArray) (fa : Option Addr) (m fc : Nat) (w : World) (h : Duo w b q S R) (hr : Rel S.pl R.pl) (hok : OkP n S.pl) (hn : n ≤ 900000) (l : List Int) (hm : m = l.length) (hfa : IntsAt .i64 w fa l) (hfo : ∀ g off, l ≠ [] → fa = some ⟨g, off, none⟩ → ¬ dfoot b q S R g) (hll : l.length ≤ maxLen) :
    Calls Try.prog 26 #[.pointer (some ⟨b, 0, none⟩), .pointer (some ⟨q, 0, none⟩), .agg #[.int .i64 10, .int .i64 aa, .int .i64 nn, .string nm, .string tt, .string tx, .slice fa m fc]] w (StepOk b q n S R w) := by
  subst hm
  have HO := Lib.hid (OpBlk.start h (opVals 10 aa nn nm tt tx fa l.length fc))
  have hq := hr.ok hok (by omega)
  have HC := Lib.hid (fun w' => cut_any tx w')
  have hll2 : l.length ≤ 9223372036854775807 := by unfold maxLen at hll; omega
  have hr2 := hr.crash hok.wait l
  have hsame := fun (S' : DSt) (R' : RSt) w' (ho : OpBlk b q S R w.heap.size (opVals 10 aa nn nm tt tx fa l.length fc) w S' R' w') => (show IntsAt .i64 w' fa l ∧ (∀ g off, l ≠ [] → fa = some ⟨g, off, none⟩ → ¬ dfoot b q S' R' g) from by
    rcases hfa with hz | ⟨g, off, e1, e2, e3⟩
    · exact ⟨Or.inl hz, fun g off hne => absurd hz hne⟩
    · have hgl : l ≠ [] → ¬ dfoot b q S' R' g := fun hne hk => by
        rcases ho.step.foot_ g hk with h1 | h1
        · exact hfo g off hne e1 h1
        · omega
      refine ⟨?_, fun g' off' hne e => ?_⟩
      · by_cases hne : l = []
        · exact Or.inl hne
        · exact Or.inr ⟨g, off, e1, Nat.lt_of_lt_of_le e2 ho.step.touch.size, fun i hi => by rw [ho.step.touch.cell (p := ⟨g, off + i, none⟩) e2 (hfo g off hne e1)]; exact e3 i hi⟩
      · rw [e1] at e
        injection e with e
        injection e with e4 _
        subst e4
        exact hgl hne)
  have H1 := Lib.hid (fun w' (ho : OpBlk b q S R w.heap.size (opVals 10 aa nn nm tt tx fa l.length fc) w S R w') => crash_dev b n S fa fc l w' ho.step.duo.disk hok (by omega) (hsame S R w' ho).1 (fun g off hne e hf => (hsame S R w' ho).2 g off hne e (Or.inl hf)) hll2)
  have H2 := Lib.hid (fun (S' : DSt) w' (ho : OpBlk b q S R w.heap.size (opVals 10 aa nn nm tt tx fa l.length fc) w S' R w') => refCrash_any q R fa fc l w' ho.step.duo.ref hq.flen hq.wlen hq.small hq.wait (hsame S' R w' ho).1 (fun g off hne e hf => (hsame S' R w' ho).2 g off hne e (Or.inr hf)) hll2)
  have HE := Lib.hid (show ∀ (S' : DSt) (R' : RSt) w', OpBlk b q S R w.heap.size (opVals 10 aa nn nm tt tx fa l.length fc) w S' R' w' → S'.pl = S.pl.crash l → R'.pl = R.pl.crash l → ∃ S' R', DStep b q S R w S' R' w' ∧ Rel S'.pl R'.pl ∧ OkP (n + 701) S'.pl from fun S' R' w' ho e1 e2 => ⟨S', R', ho.step, by rw [e1, e2]; exact hr2, by rw [e1]; exact OkP.mono (hok.crash l) (by omega)⟩)
  clear hr2 hsame hfa hfo
  generalize hX : w.heap.size = X at *
  clear h hr hok hq
  unfold StepOk
  go_enter Try.func26, Try.ntmps26
  go_wp2_with fail
  refine (HC.out _).mono ?_
  rintro e w1 ⟨rfl, rfl⟩
  change Hid (OpBlk b q S R X (opVals 10 aa nn nm tt tx fa l.length fc) w S R (w.alloc (.cells #[.int .i64 10, .int .i64 aa, .int .i64 nn, .string nm, .string tt, .string tx, .slice fa l.length fc] 46))) at HO
  generalize w.alloc (.cells #[.int .i64 10, .int .i64 aa, .int .i64 nn, .string nm, .string tt, .string tx, .slice fa l.length fc] 46) = w1 at HO ⊢
  have c0 : w1.cell? ⟨X, 0, none⟩ = some (.int .i64 10) := HO.out.blk.cell 0
  have c1 : w1.cell? ⟨X, 1, none⟩ = some (.int .i64 aa) := HO.out.blk.cell 1
  have c2 : w1.cell? ⟨X, 2, none⟩ = some (.int .i64 nn) := HO.out.blk.cell 2
  have c3 : w1.cell? ⟨X, 3, none⟩ = some (.string nm) := HO.out.blk.cell 3
  have c6 : w1.cell? ⟨X, 6, none⟩ = some (.slice fa l.length fc) := HO.out.blk.cell 6
  go_wp2_with fail
  refine (H1.out _ HO.out).mono ?_
  rintro e w2 ⟨rfl, S2, hD2, hp2⟩
  have HO2 := Lib.hid (HO.out.then (HO.out.step.duo.dev hD2))
  have Hp2 := Lib.hid hp2
  have c6' : w2.cell? ⟨X, 6, none⟩ = some (.slice fa l.length fc) := HO2.out.blk.cell 6
  clear hD2 hp2
  go_wp2_with fail
  refine (H2.out S2 _ HO2.out).mono ?_
  rintro e w3 ⟨rfl, R3, hD3, hp3⟩
  have HO3 := Lib.hid (HO2.out.then (HO2.out.step.duo.rdev hD3))
  have Hp3 := Lib.hid hp3
  clear hD3 hp3
  go_wp2_with fail
  go_ret
  exact ⟨rfl, HE.out S2 R3 w3 HO3.out Hp2.out Hp3.out⟩

def QS.append (Q : QS) (s t : ByteArray) : Int × QS := if (Q.size s).2 = 0 then Q.write s (Q.size s).1 t else ((Q.size s).2, Q)
theorem Rel.append {P : PS} {Q : QS} (hr : Rel P Q) (hn : NamesUp P.files) (s t : ByteArray) : (P.append s t).1 = (Q.append s t).1 ∧ Rel (P.append s t).2 (Q.append s t).2 := by
  unfold PS.append QS.append
  rw [← hr.size hn s]
  by_cases h : (P.size s).2 = 0
  · rw [if_pos h, if_pos h]; exact hr.write hn s _ t
  · rw [if_neg h, if_neg h]; exact ⟨rfl, hr⟩
theorem refSize_any2 (q : Nat) (R : RSt) (s : ByteArray) (w : World) (h : RefD w q R) (hl : R.files.length ≤ 1000000) :
    Calls Try.prog 49 #[.pointer (some ⟨q, 0, none⟩), .string s] w fun e w' => e = .returned (.tuple #[.int .i64 (R.pl.size s).1, .int .i64 (R.pl.size s).2]) ∧ w = w' := by
  have e : refSize R s = .tuple #[.int .i64 (R.pl.size s).1, .int .i64 (R.pl.size s).2] := by
    unfold refSize QS.size
    cases ho : R.off with
    | true => rw [if_pos rfl, if_pos (show R.pl.off = true from ho)]
    | false =>
      rw [if_neg (by decide), if_neg (show ¬ (R.pl.off = true) from by show ¬ (R.off = true); rw [ho]; decide)]
      by_cases hx : refIdx R.files s < 0
      · rw [if_pos hx, if_pos (show refIdx R.pl.files s < 0 from hx)]
      · rw [if_neg hx, if_neg (show ¬ (refIdx R.pl.files s < 0) from hx)]
        rfl
  rw [← e]
  exact refSize_any q R s w h hl

set_option maxRecDepth 100000 in
set_option maxHeartbeats 1600000 in
theorem step_append (b q n : Nat) (S : DSt) (R : RSt) (aa nn : Int) (nm tt tx : ByteArray) (fa : Option Addr) (m fc : Nat) (w : World) (h : Duo w b q S R) (hr : Rel S.pl R.pl) (hok : OkP n S.pl) (hn : n ≤ 900000)  :
    Calls Try.prog 26 #[.pointer (some ⟨b, 0, none⟩), .pointer (some ⟨q, 0, none⟩), .agg #[.int .i64 7, .int .i64 aa, .int .i64 nn, .string nm, .string tt, .string tx, .slice fa m fc]] w (StepOk b q n S R w) := by
  have HO := Lib.hid (OpBlk.start h (opVals 7 aa nn nm tt tx fa m fc))
  have hq := hr.ok hok (by omega)
  have HC := Lib.hid (fun w' => cut_any tx w')
  have hct := cutT_size tx
  have hct2 : (cutT tx).size ≤ maxLen := by unfold maxLen; omega
  obtain ⟨he, hr2⟩ := hr.append hok.names nm (cutT tx)
  have H0 := Lib.hid (fun (S' : DSt) w' (ho : OpBlk b q S R w.heap.size (opVals 7 aa nn nm tt tx fa m fc) w S' R w') => refSize_any2 q R nm w' ho.step.duo.ref hq.flen)
  have H1 := Lib.hid (fun (R' : RSt) w' (ho : OpBlk b q S R w.heap.size (opVals 7 aa nn nm tt tx fa m fc) w S R' w') => append_any b S nm (cutT tx) w' ho.step.duo.disk (hok.ready (by omega)) hct2)
  have H2 := Lib.hid (fun (S' : DSt) w' (ho : OpBlk b q S R w.heap.size (opVals 7 aa nn nm tt tx fa m fc) w S' R w') => refWrite_any q R nm (R.pl.size nm).1 (cutT tx) w' ho.step.duo.ref hq.flen hq.small hq.most hct2 hq.wlen hq.count hq.fuse)
  have HE := Lib.hid (show ∀ (S' : DSt) (R' : RSt) w', OpBlk b q S R w.heap.size (opVals 7 aa nn nm tt tx fa m fc) w S' R' w' → S'.pl = (S.pl.append nm (cutT tx)).2 → R'.pl = (R.pl.append nm (cutT tx)).2 → ∃ S' R', DStep b q S R w S' R' w' ∧ Rel S'.pl R'.pl ∧ OkP (n + 701) S'.pl from fun S' R' w' ho e1 e2 => ⟨S', R', ho.step, by rw [e1, e2]; exact hr2, by rw [e1]; exact OkP.mono (hok.append nm (cutT tx)) (by omega)⟩)
  rw [he] at H1
  have HA := Lib.hid (show (if (R.pl.size nm).2 = 0 then R.pl.write nm (R.pl.size nm).1 (cutT tx) else ((R.pl.size nm).2, R.pl)) = R.pl.append nm (cutT tx) from rfl)
  generalize (R.pl.size nm).1 = sz at *
  generalize (R.pl.size nm).2 = se at *
  clear hr2 he
  generalize hX : w.heap.size = X at *
  clear h hr hok hq
  unfold StepOk
  go_enter Try.func26, Try.ntmps26
  go_wp2_with fail
  refine (HC.out _).mono ?_
  rintro e w1 ⟨rfl, rfl⟩
  change Hid (OpBlk b q S R X (opVals 7 aa nn nm tt tx fa m fc) w S R (w.alloc (.cells #[.int .i64 7, .int .i64 aa, .int .i64 nn, .string nm, .string tt, .string tx, .slice fa m fc] 46))) at HO
  generalize w.alloc (.cells #[.int .i64 7, .int .i64 aa, .int .i64 nn, .string nm, .string tt, .string tx, .slice fa m fc] 46) = w1 at HO ⊢
  have c0 : w1.cell? ⟨X, 0, none⟩ = some (.int .i64 7) := HO.out.blk.cell 0
  have c1 : w1.cell? ⟨X, 1, none⟩ = some (.int .i64 aa) := HO.out.blk.cell 1
  have c2 : w1.cell? ⟨X, 2, none⟩ = some (.int .i64 nn) := HO.out.blk.cell 2
  have c3 : w1.cell? ⟨X, 3, none⟩ = some (.string nm) := HO.out.blk.cell 3
  have c6 : w1.cell? ⟨X, 6, none⟩ = some (.slice fa m fc) := HO.out.blk.cell 6
  by_cases hse : se = 0
  · subst hse
    have ha := HA.out
    rw [if_pos rfl] at ha
    rw [← ha] at H1 HE
    generalize (R.pl.write nm sz (cutT tx)).1 = V at H1 H2
    clear ha
    go_wp2_with fail
    refine (H0.out S _ HO.out).mono ?_
    rintro e wz ⟨rfl, rfl⟩
    go_wp2_with fail
    refine (H2.out S _ HO.out).mono ?_
    rintro e w2 ⟨rfl, R2, hD2, hp2⟩
    have HO2 := Lib.hid (HO.out.then (HO.out.step.duo.rdev hD2))
    have Hp2 := Lib.hid hp2
    have c3' : w2.cell? ⟨X, 3, none⟩ = some (.string nm) := HO2.out.blk.cell 3
    clear hD2 hp2
    go_wp2_with fail
    refine (H1.out R2 _ HO2.out).mono ?_
    rintro e w3 ⟨rfl, S3, hD3, hp3⟩
    have HO3 := Lib.hid (HO2.out.then (HO2.out.step.duo.dev hD3))
    have Hp3 := Lib.hid hp3
    clear hD3 hp3
    go_wp2_with fail
    go_ret
    exact ⟨by first | rfl | exact ret_bool (by simp), HE.out S3 R2 w3 HO3.out Hp3.out Hp2.out⟩
  · have ha := HA.out
    rw [if_neg hse] at ha
    rw [← ha] at H1 HE
    have hbe : (se == 0) = false := beq_eq_false_iff_ne.2 hse
    clear ha
    go_wp2_with fail
    refine (H0.out S _ HO.out).mono ?_
    rintro e wz ⟨rfl, rfl⟩
    go_wp2_with fail
    refine (H1.out R _ HO.out).mono ?_
    rintro e w3 ⟨rfl, S3, hD3, hp3⟩
    have HO3 := Lib.hid (HO.out.then (HO.out.step.duo.dev hD3))
    have Hp3 := Lib.hid hp3
    clear hD3 hp3
    go_wp2_with fail
    go_ret
    exact ⟨by first | rfl | exact ret_bool (by simp), HE.out S3 R w3 HO3.out Hp3.out rfl⟩

set_option maxRecDepth 100000 in
set_option maxHeartbeats 1600000 in
theorem step_size (b q n : Nat) (S : DSt) (R : RSt) (aa nn : Int) (nm tt tx : ByteArray) (fa : Option Addr) (m fc : Nat) (w : World) (h : Duo w b q S R) (hr : Rel S.pl R.pl) (hok : OkP n S.pl) (hn : n ≤ 900000)  :
    Calls Try.prog 26 #[.pointer (some ⟨b, 0, none⟩), .pointer (some ⟨q, 0, none⟩), .agg #[.int .i64 4, .int .i64 aa, .int .i64 nn, .string nm, .string tt, .string tx, .slice fa m fc]] w (StepOk b q n S R w) := by
  have HO := Lib.hid (OpBlk.start h (opVals 4 aa nn nm tt tx fa m fc))
  have hq := hr.ok hok (by omega)
  have HC := Lib.hid (fun w' => cut_any tx w')
  have H1 := Lib.hid (fun w' (ho : OpBlk b q S R w.heap.size (opVals 4 aa nn nm tt tx fa m fc) w S R w') => size_any2 b S nm w' ho.step.duo.disk (hok.ready (by omega)).1 (hok.ready (by omega)).2.1)
  have H2 := Lib.hid (fun w' (ho : OpBlk b q S R w.heap.size (opVals 4 aa nn nm tt tx fa m fc) w S R w') => refSize_any2 q R nm w' ho.step.duo.ref hq.flen)
  rw [← hr.size hok.names nm] at H2
  have HE := Lib.hid (show ∀ (S' : DSt) (R' : RSt) w', OpBlk b q S R w.heap.size (opVals 4 aa nn nm tt tx fa m fc) w S' R' w' → S'.pl = S.pl → R'.pl = R.pl → ∃ S' R', DStep b q S R w S' R' w' ∧ Rel S'.pl R'.pl ∧ OkP (n + 701) S'.pl from fun S' R' w' ho e1 e2 => ⟨S', R', ho.step, by rw [e1, e2]; exact hr, by rw [e1]; exact OkP.mono (hok) (by omega)⟩)
  generalize (S.pl.size nm).1 = sz at *
  generalize (S.pl.size nm).2 = se at *
  generalize hX : w.heap.size = X at *
  clear h hr hok hq
  unfold StepOk
  go_enter Try.func26, Try.ntmps26
  go_wp2_with fail
  refine (HC.out _).mono ?_
  rintro e w1 ⟨rfl, rfl⟩
  change Hid (OpBlk b q S R X (opVals 4 aa nn nm tt tx fa m fc) w S R (w.alloc (.cells #[.int .i64 4, .int .i64 aa, .int .i64 nn, .string nm, .string tt, .string tx, .slice fa m fc] 46))) at HO
  generalize w.alloc (.cells #[.int .i64 4, .int .i64 aa, .int .i64 nn, .string nm, .string tt, .string tx, .slice fa m fc] 46) = w1 at HO ⊢
  have c0 : w1.cell? ⟨X, 0, none⟩ = some (.int .i64 4) := HO.out.blk.cell 0
  have c1 : w1.cell? ⟨X, 1, none⟩ = some (.int .i64 aa) := HO.out.blk.cell 1
  have c2 : w1.cell? ⟨X, 2, none⟩ = some (.int .i64 nn) := HO.out.blk.cell 2
  have c3 : w1.cell? ⟨X, 3, none⟩ = some (.string nm) := HO.out.blk.cell 3
  have c6 : w1.cell? ⟨X, 6, none⟩ = some (.slice fa m fc) := HO.out.blk.cell 6
  go_wp2_with fail
  refine (H1.out _ HO.out).mono ?_
  rintro e w2 ⟨rfl, rfl⟩
  go_wp2_with fail
  refine (H2.out _ HO.out).mono ?_
  rintro e w3 ⟨rfl, rfl⟩
  go_wp2_with fail
  all_goals go_ret
  all_goals exact ⟨by first | rfl | exact ret_bool (by simp), HE.out S R _ HO.out rfl rfl⟩

theorem refRead_any (q : Nat) (R : RSt) (s : ByteArray) (a n : Int) (w : World) (h : RefD w q R) (hq : QOk R) (hn : n ≤ 9223372036854775807) :
    Calls Try.prog 50 #[.pointer (some ⟨q, 0, none⟩), .string s, .int .i64 a, .int .i64 n] w fun e w' => e = .returned (.tuple #[.string (R.pl.read s a n).1, .int .i64 (R.pl.read s a n).2]) ∧ w = w' := by
  cases ho : R.off with
  | true =>
    have e0 : R.pl.read s a n = (ByteArray.empty, 14) := if_pos ho
    rw [e0]
    exact refRead_off q R s a n w h ho
  | false =>
    have hno : ¬ (R.pl.off = true) := by show ¬ (R.off = true); rw [ho]; decide
    rcases refIdx_cases R.files s with hx | ⟨k, hx, hk⟩
    · have e0 : R.pl.read s a n = (ByteArray.empty, 8) := by
        unfold QS.read
        rw [if_neg hno, if_pos (by show refIdx R.files s < 0; rw [hx]; decide)]
      rw [e0]
      exact refRead_none q R s a n w h ho hq.flen hx
    · have hn8 : ¬ (refIdx R.pl.files s < 0) := by show ¬ (refIdx R.files s < 0); rw [hx]; omega
      have e9 : (refIdx R.pl.files s).toNat = k := by show (refIdx R.files s).toNat = k; rw [hx]; rfl
      have e8 : R.pl.files[k]? = some R.files[k] := List.getElem?_eq_getElem hk
      by_cases hr : a < 0 ∨ n < 0
      · have e0 : R.pl.read s a n = (ByteArray.empty, 2) := by unfold QS.read; rw [if_neg hno, if_neg hn8, if_pos hr]
        rw [e0]
        exact refRead_range q R s a n k w h ho hq.flen hx hr
      · have e1 : R.pl.read s a n = if ((R.files[k]).seen.size : Int) ≤ a then (ByteArray.empty, 0) else (partOf (R.files[k]).seen a.toNat n.toNat, 0) := by
          unfold QS.read
          rw [if_neg hno, if_neg hn8, if_neg hr, e9, e8]
        by_cases hp : ((R.files[k]).seen.size : Int) ≤ a
        · rw [e1, if_pos hp]
          exact refRead_past q R s a n k hk w h ho hq.flen hx (by omega) (by omega) hp
        · rw [e1, if_neg hp]
          obtain ⟨a', rfl⟩ := Int.eq_ofNat_of_zero_le (show 0 ≤ a by omega)
          obtain ⟨n', rfl⟩ := Int.eq_ofNat_of_zero_le (show 0 ≤ n by omega)
          exact refRead_in q R s a' n' k hk w h ho hq.flen hx (by omega) (by omega) (by have := (hq.small _ (List.getElem_mem hk)).1; omega)
theorem read_dev (b n : Nat) (S : DSt) (s : ByteArray) (p k : Int) (w : World) (h : DiskAt w b S) (hok : OkP n S.pl) (hn : n ≤ 1000000) (hp : p ≤ 9223372036854775807) (hk : k ≤ 9223372036854775807) :
    Calls Try.prog 16 #[.pointer (some ⟨b, 0, none⟩), .string s, .int .i64 p, .int .i64 k] w fun e w' => e = .returned (.tuple #[.string (S.pl.read s p k).1, .int .i64 (S.pl.read s p k).2]) ∧ Below w.heap.size w w' := by
  obtain ⟨hor, hl, hsm, _⟩ := hok.ready hn
  rw [← read_pl S s p k hor]
  refine (read_any b S s p k w h hor hl (fun f hf => (hsm f hf).1) hp hk).mono ?_
  rintro e w' ⟨rfl, j, rfl⟩
  exact ⟨rfl, below_drewN (Below.refl _ _) j⟩

set_option maxRecDepth 100000 in
set_option maxHeartbeats 1600000 in
theorem step_read (b q n : Nat) (S : DSt) (R : RSt) (aa nn : Int) (nm tt tx : ByteArray) (fa : Option Addr) (m fc : Nat) (w : World) (h : Duo w b q S R) (hr : Rel S.pl R.pl) (hok : OkP n S.pl) (hn : n ≤ 900000) (hs1 : (Lit.int .i64 aa).wf = true) (hs2 : (Lit.int .i64 nn).wf = true) :
    Calls Try.prog 26 #[.pointer (some ⟨b, 0, none⟩), .pointer (some ⟨q, 0, none⟩), .agg #[.int .i64 5, .int .i64 aa, .int .i64 nn, .string nm, .string tt, .string tx, .slice fa m fc]] w (StepOk b q n S R w) := by
  have HO := Lib.hid (OpBlk.start h (opVals 5 aa nn nm tt tx fa m fc))
  have hq := hr.ok hok (by omega)
  have HC := Lib.hid (fun w' => cut_any tx w')
  have hb1 := int_bounds hs1
  have hb2 := int_bounds hs2
  have H1 := Lib.hid (fun w' (ho : OpBlk b q S R w.heap.size (opVals 5 aa nn nm tt tx fa m fc) w S R w') => read_dev b n S nm aa nn w' ho.step.duo.disk hok (by omega) (by omega) (by omega))
  have H2 := Lib.hid (fun w' (ho : OpBlk b q S R w.heap.size (opVals 5 aa nn nm tt tx fa m fc) w S R w') => refRead_any q R nm aa nn w' ho.step.duo.ref hq (by omega))
  rw [← hr.read hok.names nm aa nn] at H2
  have HE := Lib.hid (show ∀ (S' : DSt) (R' : RSt) w', OpBlk b q S R w.heap.size (opVals 5 aa nn nm tt tx fa m fc) w S' R' w' → S'.pl = S.pl → R'.pl = R.pl → ∃ S' R', DStep b q S R w S' R' w' ∧ Rel S'.pl R'.pl ∧ OkP (n + 701) S'.pl from fun S' R' w' ho e1 e2 => ⟨S', R', ho.step, by rw [e1, e2]; exact hr, by rw [e1]; exact OkP.mono (hok) (by omega)⟩)
  generalize (S.pl.read nm aa nn).1 = sz at *
  generalize (S.pl.read nm aa nn).2 = se at *
  clear hs1 hs2
  generalize hX : w.heap.size = X at *
  clear h hr hok hq
  unfold StepOk
  go_enter Try.func26, Try.ntmps26
  go_wp2_with fail
  refine (HC.out _).mono ?_
  rintro e w1 ⟨rfl, rfl⟩
  change Hid (OpBlk b q S R X (opVals 5 aa nn nm tt tx fa m fc) w S R (w.alloc (.cells #[.int .i64 5, .int .i64 aa, .int .i64 nn, .string nm, .string tt, .string tx, .slice fa m fc] 46))) at HO
  generalize w.alloc (.cells #[.int .i64 5, .int .i64 aa, .int .i64 nn, .string nm, .string tt, .string tx, .slice fa m fc] 46) = w1 at HO ⊢
  have c0 : w1.cell? ⟨X, 0, none⟩ = some (.int .i64 5) := HO.out.blk.cell 0
  have c1 : w1.cell? ⟨X, 1, none⟩ = some (.int .i64 aa) := HO.out.blk.cell 1
  have c2 : w1.cell? ⟨X, 2, none⟩ = some (.int .i64 nn) := HO.out.blk.cell 2
  have c3 : w1.cell? ⟨X, 3, none⟩ = some (.string nm) := HO.out.blk.cell 3
  have c6 : w1.cell? ⟨X, 6, none⟩ = some (.slice fa m fc) := HO.out.blk.cell 6
  go_wp2_with fail
  refine (H1.out _ HO.out).mono ?_
  rintro e w2 ⟨rfl, hb⟩
  have HO2 := Lib.hid (HO.out.below hb)
  have d1 : w2.cell? ⟨X, 1, none⟩ = some (.int .i64 aa) := HO2.out.blk.cell 1
  have d2 : w2.cell? ⟨X, 2, none⟩ = some (.int .i64 nn) := HO2.out.blk.cell 2
  have d3 : w2.cell? ⟨X, 3, none⟩ = some (.string nm) := HO2.out.blk.cell 3
  clear hb
  go_wp2_with fail
  refine (H2.out _ HO2.out).mono ?_
  rintro e w3 ⟨rfl, rfl⟩
  go_wp2_with fail
  all_goals go_ret
  all_goals exact ⟨by first | rfl | exact ret_bool (by simp), HE.out S R _ HO2.out rfl rfl⟩

set_option maxRecDepth 100000 in
set_option maxHeartbeats 1600000 in
theorem step_other (b q n : Nat) (S : DSt) (R : RSt) (k : Int) (aa nn : Int) (nm tt tx : ByteArray) (fa : Option Addr) (m fc : Nat) (w : World) (h : Duo w b q S R) (hr : Rel S.pl R.pl) (hok : OkP n S.pl) (hn : n ≤ 900000) (hk : k < 0 ∨ 11 < k) :
    Calls Try.prog 26 #[.pointer (some ⟨b, 0, none⟩), .pointer (some ⟨q, 0, none⟩), .agg #[.int .i64 k, .int .i64 aa, .int .i64 nn, .string nm, .string tt, .string tx, .slice fa m fc]] w (StepOk b q n S R w) := by
  have HO := Lib.hid (OpBlk.start h (opVals k aa nn nm tt tx fa m fc))
  have hq := hr.ok hok (by omega)
  have HC := Lib.hid (fun w' => cut_any tx w')
  have HE := Lib.hid (show ∀ (S' : DSt) (R' : RSt) w', OpBlk b q S R w.heap.size (opVals k aa nn nm tt tx fa m fc) w S' R' w' → S'.pl = S.pl → R'.pl = R.pl → ∃ S' R', DStep b q S R w S' R' w' ∧ Rel S'.pl R'.pl ∧ OkP (n + 701) S'.pl from fun S' R' w' ho e1 e2 => ⟨S', R', ho.step, by rw [e1, e2]; exact hr, by rw [e1]; exact OkP.mono (hok) (by omega)⟩)
  have hne : ∀ j : Int, 0 ≤ j → j ≤ 11 → (k == j) = false := fun j h1 h2 => beq_eq_false_iff_ne.2 (by omega)
  have e0 := hne 0 (by omega) (by omega); have e1 := hne 1 (by omega) (by omega); have e2 := hne 2 (by omega) (by omega); have e3 := hne 3 (by omega) (by omega); have e4 := hne 4 (by omega) (by omega); have e5 := hne 5 (by omega) (by omega)
  have e6 := hne 6 (by omega) (by omega); have e7 := hne 7 (by omega) (by omega); have e8 := hne 8 (by omega) (by omega); have e9 := hne 9 (by omega) (by omega); have e10 := hne 10 (by omega) (by omega); have e11 := hne 11 (by omega) (by omega)
  clear hne hk
  generalize hX : w.heap.size = X at *
  clear h hr hok hq
  unfold StepOk
  go_enter Try.func26, Try.ntmps26
  go_wp2_with fail
  refine (HC.out _).mono ?_
  rintro e w1 ⟨rfl, rfl⟩
  change Hid (OpBlk b q S R X (opVals k aa nn nm tt tx fa m fc) w S R (w.alloc (.cells #[.int .i64 k, .int .i64 aa, .int .i64 nn, .string nm, .string tt, .string tx, .slice fa m fc] 46))) at HO
  generalize w.alloc (.cells #[.int .i64 k, .int .i64 aa, .int .i64 nn, .string nm, .string tt, .string tx, .slice fa m fc] 46) = w1 at HO ⊢
  have c0 : w1.cell? ⟨X, 0, none⟩ = some (.int .i64 k) := HO.out.blk.cell 0
  have c1 : w1.cell? ⟨X, 1, none⟩ = some (.int .i64 aa) := HO.out.blk.cell 1
  have c2 : w1.cell? ⟨X, 2, none⟩ = some (.int .i64 nn) := HO.out.blk.cell 2
  have c3 : w1.cell? ⟨X, 3, none⟩ = some (.string nm) := HO.out.blk.cell 3
  have c6 : w1.cell? ⟨X, 6, none⟩ = some (.slice fa m fc) := HO.out.blk.cell 6
  go_wp2_with fail
  go_ret
  exact ⟨rfl, HE.out S R _ HO.out rfl rfl⟩
end Go.Proofs.Ytlmodbaeoheiiaa
