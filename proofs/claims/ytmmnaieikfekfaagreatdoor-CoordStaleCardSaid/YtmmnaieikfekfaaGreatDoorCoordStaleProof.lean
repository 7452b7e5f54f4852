/- The statement Rows.CoordStaleSaid proved: the walk of barque/barquelaw20.CoordStale stands in the imported text; here the row's own frame. No condition beyond the row's. -/
import Derived.Test.YtmmnaieikfekfaaGreatDoorRows
import Derived.Test.YtmmnaieikfekfaaGreatDoorCoordStale
import Derived.Test.YtmmnaieikfekfaaGreatDoorOpenFiles
import Derived.Test.YtmmnaieikfekfaaGreatDoorOpenMops
import Derived.WalkKit
import Derived.ProofKit
import Derived.OpenShut
import Derived.ShutString
import Derived.ChangeOld
import Derived.SliceStrings
import Derived.Below
import Derived.Lib.SmallJoins
import Derived.LaidMore
import Derived.Lay
import Derived.SevenTiedAt
import Derived.Stop.Joined
import Derived.Test.YtmmnaieikfekfaaGreatDoorCards
import Derived.Test.YtmmnaieikfekfaaGreatDoorTie
namespace Go.Proofs.YtmmnaieikfekfaaGreatDoor.coordStale
open Go.ChangeShapes Go.WideShapes Go.ChangeAt Go.RowKit Go.Joins
open Go.ChangeMaps (open_string shut_string)
set_option linter.unusedVariables false

theorem own : ownKnob Tryz.prog.godebug = none := by kernel_rfl
theorem laidOut : laidOutB Tryz.prog = true := by kernel_rfl

theorem len_14 (l : List Value) (h : l.length = 14) : ∃ c0 c1 c2 c3 c4 c5 c6 c7 c8 c9 c10 c11 c12 c13, l = [c0, c1, c2, c3, c4, c5, c6, c7, c8, c9, c10, c11, c12, c13] := by
  match l, h with
  | [c0, c1, c2, c3, c4, c5, c6, c7, c8, c9, c10, c11, c12, c13], _ => exact ⟨c0, c1, c2, c3, c4, c5, c6, c7, c8, c9, c10, c11, c12, c13, rfl⟩
set_option maxRecDepth 100000 in
theorem lifted (os : Os) (started : os.Started) (H : Type) (enc : TypeId × Value → H) :
    ReturnsInHanded {} Tryz.checked os 10 .any (fun w args => (Rows.coordStaleSpec.pre enc Tryz.prog Tryz.f10 Rows.coordStaleRow.domain false w args ∧ laidMetH Tryz.prog Rows.coordStaleRow.laid w) ∧ sizedMet enc Tryz.prog Tryz.f10 (OpenSpec.ofChange Rows.coordStaleSpec) false w args)
      (Rows.coordStaleSpec.post enc Tryz.prog Tryz.f10 false true false false) := by
  refine returnsInHanded_of_change_and (C := Tryz.checked) (X := fun w _ => laidMetH Tryz.prog Rows.coordStaleRow.laid w) (fun _ _ _ hh h => h.of_heap hh) own started (by kernel_rfl) Tryz.func10
    (ChangeSpec.witness_shaped (enc := enc) (C := Tryz.checked) (os := os) (X := fun w _ => laidMetH Tryz.prog Rows.coordStaleRow.laid w) false (World.laidAll Tryz.prog os Rows.coordStaleRow.laid) #[.slice none 0 0, .agg #[.int .i64 0, .int .i64 0, .int .i64 0, .int .i64 0, .int .i64 0, .int .i64 0, .int .i64 0, .int .i64 0, .int .i64 0, .string ByteArray.empty, .int .i64 0, .int .i64 0, .string ByteArray.empty, .slice none 0 0], .agg #[.int .i64 0, .int .i64 0, .slice none 0 0]] 8 (World.laidAll_os _ _ _)
      (World.shaped_of_ZipB (by kernel_rfl) (by kernel_rfl)) (by kernel_rfl) (by kernel_rfl) (by kernel_rfl)
      (by rw [MakeChecks.laidMetH_plain _ _ _ (by kernel_rfl)]; exact laidMet_laidAll _ (by kernel_rfl) (by kernel_rfl))) ?_
  intro W base args ds gs before hval0 hW hc _ hL _
  have hval : ∀ (j : Nat) t v, Tryz.f10.params[j]? = some t → args[j]? = some v → Value.okWide Tryz.prog W .any base t v := hval0
  have hW' := hW
  obtain ⟨p, q, hA0, hV, rfl, hfz, hnd⟩ := hW
  have hA : DataW.TrodAll enc Tryz.prog W 0 (fun _ => true) true Tryz.f10.params.toList args.toList ds p := hA0
  rw [Tryz.params10] at hA hval
  obtain ⟨v0, vs0, d0, ds0, p0, q0, hargs, rfl, rfl, h0, r0⟩ := trodAll_cons hA
  obtain ⟨v1, vs1, d1, ds1, p1, q1, rfl, rfl, rfl, h1, r1⟩ := trodAll_cons r0
  obtain ⟨v2, vs2, d2, ds2, p2, q2, rfl, rfl, rfl, h2, r2⟩ := trodAll_cons r1
  obtain ⟨rfl, rfl, rfl⟩ := trodAll_nil r2
  obtain rfl : args = #[v0, v1, v2] := by cases args; simp_all
  obtain ⟨rfl, rfl⟩ := trodVars_none hV
  obtain ⟨a0, len0, cap0, rfl⟩ := okWide_slice Tryz.underlying63 (hval 0 63 v0 rfl rfl)
  have k0 := h0
  have lt0 : ∀ x ∈ p0, x.block < W.heap.size := by obtain ⟨m, hm⟩ := k0; exact DataW.trod_lt m _ _ _ hm
  obtain ⟨lz0, w0⟩ : len0 ≤ maxLen ∧ MOpsAt W a0 len0 := by
    obtain ⟨fuel, hf⟩ := h0
    obtain ⟨ad, len, cap, hcs, hl, hm, hp⟩ := open_mops hf
    simp [Value.cells] at hcs
    obtain ⟨rfl, rfl, rfl⟩ := hcs
    exact ⟨Nat.le_trans hl hm, hp⟩
  have k1 := h1
  have lt1 : ∀ x ∈ p1, x.block < W.heap.size := by obtain ⟨m, hm⟩ := k1; exact DataW.trod_lt m _ _ _ hm
  obtain ⟨cs1, rfl, hsz1⟩ := okWide_struct Tryz.underlying61 (hval 1 61 v1 rfl rfl)
  obtain ⟨l1⟩ := cs1
  have hl1 : l1.length = 14 := hsz1.trans (by kernel_rfl)
  obtain ⟨c1_0, c1_1, c1_2, c1_3, c1_4, c1_5, c1_6, c1_7, c1_8, c1_9, c1_10, c1_11, c1_12, c1_13, rfl⟩ : ∃ c1_0 c1_1 c1_2 c1_3 c1_4 c1_5 c1_6 c1_7 c1_8 c1_9 c1_10 c1_11 c1_12 c1_13, l1 = [c1_0, c1_1, c1_2, c1_3, c1_4, c1_5, c1_6, c1_7, c1_8, c1_9, c1_10, c1_11, c1_12, c1_13] := len_14 l1 hl1
  obtain ⟨z1_1, rfl⟩ : ∃ z : Int, c1_1 = .int .i64 z := by
    obtain ⟨fuel, hf⟩ := k1
    obtain ⟨v, y, n, hv, ht⟩ := trod_field Tryz.underlying61 hf 1 _ rfl (by kernel_rfl) (by rw [show Tryz.prog.cellsOf 61 = 14 by kernel_rfl]; decide)
    obtain ⟨z, e, _, _⟩ := DataW.trod_int Tryz.underlying3 ht
    simp [Value.cells] at hv e
    subst e
    exact ⟨z, hv⟩
  obtain ⟨z1_2, rfl⟩ : ∃ z : Int, c1_2 = .int .i64 z := by
    obtain ⟨fuel, hf⟩ := k1
    obtain ⟨v, y, n, hv, ht⟩ := trod_field Tryz.underlying61 hf 2 _ rfl (by kernel_rfl) (by rw [show Tryz.prog.cellsOf 61 = 14 by kernel_rfl]; decide)
    obtain ⟨z, e, _, _⟩ := DataW.trod_int Tryz.underlying3 ht
    simp [Value.cells] at hv e
    subst e
    exact ⟨z, hv⟩
  obtain ⟨z1_3, rfl⟩ : ∃ z : Int, c1_3 = .int .i64 z := by
    obtain ⟨fuel, hf⟩ := k1
    obtain ⟨v, y, n, hv, ht⟩ := trod_field Tryz.underlying61 hf 3 _ rfl (by kernel_rfl) (by rw [show Tryz.prog.cellsOf 61 = 14 by kernel_rfl]; decide)
    obtain ⟨z, e, _, _⟩ := DataW.trod_int Tryz.underlying3 ht
    simp [Value.cells] at hv e
    subst e
    exact ⟨z, hv⟩
  have k2 := h2
  have lt2 : ∀ x ∈ p2, x.block < W.heap.size := by obtain ⟨m, hm⟩ := k2; exact DataW.trod_lt m _ _ _ hm
  obtain ⟨ca2, cb2, cc2, ya2, yb2, yc2, fm2, rfl, hd2, hp2, hya2, hyb2, hyc2⟩ := open_agg3 Tryz.underlying40 (by kernel_rfl) (by kernel_rfl) (hval 2 40 v2 rfl rfl) h2
  obtain ⟨a2, ea2, rfl, wa2⟩ := DataW.trod_int Tryz.underlying3 hya2
  obtain ⟨b2, eb2, rfl, wb2⟩ := DataW.trod_int Tryz.underlying3 hyb2
  obtain ⟨ad2, cap2, z2, ec2, hl2, hm2, wt2, ws2⟩ := open_files hyc2
  simp at ea2 eb2 ec2
  subst ea2 eb2 ec2
  have lz2 := Nat.le_trans hl2 hm2
  clear hA0 hval0
  refine (coordStale_walk a0 len0 cap0 c1_0 z1_1 z1_2 z1_3 c1_4 c1_5 c1_6 c1_7 c1_8 c1_9 c1_10 c1_11 c1_12 c1_13 a2 b2 ad2 cap2 z2 W w0 lz0 lz2 wt2 ws2).mono fun e W' ⟨he, bel⟩ => ?_
  subst he
  exact ⟨_, rfl, _, _, _, [], _, [], hW', trodAll_mk1 (shut_bool Tryz.underlying4 _), (trodAll_cons_mk (Below.trod laidOut (by kernel_rfl) (of_decide_eq_true (by kernel_rfl)) k0 bel lt0) (trodAll_cons_mk (Below.trod laidOut (by kernel_rfl) (of_decide_eq_true (by kernel_rfl)) k1 bel lt1) (trodAll_cons_mk (Below.trod laidOut (by kernel_rfl) (of_decide_eq_true (by kernel_rfl)) k2 bel lt2) trodAll_mk0))), rfl, bel.frame _, fun h => by cases h⟩

theorem over : Rows.coordStaleRow.holds Tryz.pinned (OpenSpec.ofChange Rows.coordStaleSpec) :=
  OpenClaim.holds_of_wide 10 Tryz.f10 rfl rfl rfl rfl rfl rfl rfl ⟨rfl, rfl, rfl, rfl, rfl⟩ rfl rfl rfl rfl rfl (by kernel_rfl) Tryz.func10 (by kernel_rfl)
    (of_decide_eq_true (by kernel_rfl)) (by unfold Func.isWrapper; first | (rw [if_pos (by decide +kernel)]; kernel_rfl) | (rw [if_neg (by decide +kernel)]; exact ⟨rfl, rfl⟩))
    (fun os started H enc _ => lifted os started H enc)

theorem proved : Rows.CoordStaleSaid := over
theorem card_proved : Rows.CoordStaleCardSaid :=
  Claim7.holds_tied_plain_at .later [] [.data, .pinned] true _ false over (fun _ h => by cases h) (by kernel_rfl) (fun _ h => by cases h) coordStale_row_tie rfl ⟨rfl, rfl⟩ (by kernel_rfl) rfl
    (fun f fn hf hfn => by
      obtain rfl : f = 10 := Option.some.inj ((show Tryz.prog.funcNamed Rows.coordStaleRow.func = some 10 by kernel_rfl).symm.trans hf) |>.symm
      obtain rfl : fn = Tryz.f10 := (Option.some.inj (Tryz.func10.symm.trans hfn)).symm
      exact ⟨by kernel_rfl, fun j t ht => by
        rw [Tryz.params10] at ht
        have hm : t ∈ [63, 61, 40] := by simpa using Array.mem_of_getElem? ht
        have hall : ([63, 61, 40].all fun u => !Tryz.prog.wantsStandIn u) = true := by kernel_rfl
        exact (show Tryz.prog.wantsStandIn t = false by simpa using List.all_eq_true.1 hall t hm)⟩)
    (by kernel_rfl)
#print axioms proved
#print axioms card_proved
end Go.Proofs.YtmmnaieikfekfaaGreatDoor.coordStale
