/- The statement Rows.PlanSendsSaid proved: the walk of barque/barquelaw19.PlanSends stands in the imported text; here the row's own frame. No condition beyond the row's. -/
import Derived.Test.YtogobhpnlndcaaaGreatRows
import Derived.Test.YtogobhpnlndcaaaGreatPlanSends
import Derived.WalkKit
import Derived.ProofKit
import Derived.OpenShut
import Derived.ShutString
import Derived.ChangeOld
import Derived.SliceStrings
import Derived.Below
import Derived.Lib.SmallJoins
namespace Go.Proofs.YtogobhpnlndcaaaGreat.planSends
open Go.ChangeShapes Go.WideShapes Go.ChangeAt Go.RowKit Go.Joins
open Go.ChangeMaps (open_string shut_string)
set_option linter.unusedVariables false

theorem own : ownKnob Tryz.prog.godebug = none := by kernel_rfl
theorem laidOut : laidOutB Tryz.prog = true := by kernel_rfl

theorem len_2 (l : List Value) (h : l.length = 2) : ∃ c0 c1, l = [c0, c1] := by
  match l, h with
  | [c0, c1], _ => exact ⟨c0, c1, rfl⟩
set_option maxRecDepth 100000 in
theorem lifted (os : Os) (started : os.Started) (H : Type) (enc : TypeId × Value → H) :
    ReturnsInHanded {} Tryz.checked os 4 .any (Rows.planSendsSpec.pre6 enc Tryz.prog Tryz.f4 Rows.planSendsRow.domain false) (Rows.planSendsSpec.post enc Tryz.prog Tryz.f4 false true false false) := by
  refine returnsInHanded_of_change (C := Tryz.checked) own started (by kernel_rfl) Tryz.func4
    (ChangeSpec.witness6 (enc := enc) (C := Tryz.checked) false ⟨#[], #[.slice none 0 0, .int .i64 0, .int .i64 0, .agg #[.int .i64 0, .string ByteArray.empty]], []⟩ 8 (by kernel_rfl) (by kernel_rfl) (by kernel_rfl) (by kernel_rfl)) ?_
  intro W base args ds gs before hval0 hW hcnd hsz
  have hval : ∀ (j : Nat) t v, Tryz.f4.params[j]? = some t → args[j]? = some v → Value.okWide Tryz.prog W .any base t v := hval0
  have hW' := hW
  obtain ⟨p, q, hA0, hV, rfl, hfz, hnd⟩ := hW
  have hA : DataW.TrodAll enc Tryz.prog W 0 (fun _ => true) true Tryz.f4.params.toList args.toList ds p := hA0
  rw [Tryz.params4] at hA hval
  obtain ⟨v0, vs0, d0, ds0, p0, q0, hargs, rfl, rfl, h0, r0⟩ := trodAll_cons hA
  obtain ⟨v1, vs1, d1, ds1, p1, q1, rfl, rfl, rfl, h1, r1⟩ := trodAll_cons r0
  obtain ⟨v2, vs2, d2, ds2, p2, q2, rfl, rfl, rfl, h2, r2⟩ := trodAll_cons r1
  obtain ⟨v3, vs3, d3, ds3, p3, q3, rfl, rfl, rfl, h3, r3⟩ := trodAll_cons r2
  obtain ⟨rfl, rfl, rfl⟩ := trodAll_nil r3
  obtain rfl : args = #[v0, v1, v2, v3] := by cases args; simp_all
  obtain ⟨rfl, rfl⟩ := trodVars_none hV
  obtain ⟨a0, len0, cap0, rfl⟩ := okWide_slice Tryz.underlying38 (hval 0 38 v0 rfl rfl)
  have k0 := h0
  have lt0 : ∀ x ∈ p0, x.block < W.heap.size := by obtain ⟨m, hm⟩ := k0; exact DataW.trod_lt m _ _ _ hm
  obtain ⟨z0, rfl, lz0, w0⟩ : ∃ zs : List (Int × ByteArray), len0 = zs.length ∧ zs.length ≤ maxLen ∧ KnownsAt W a0 zs := by
    obtain ⟨fuel, hf⟩ := h0
    obtain ⟨ad, cap, L, hcs, hl, hm, hp⟩ := open_knowns hf
    simp [Value.cells] at hcs
    obtain ⟨rfl, rfl, rfl⟩ := hcs
    exact ⟨L, rfl, Nat.le_trans hl hm, hp⟩
  obtain ⟨a1, rfl, rfl, rfl, w1⟩ := open_int Tryz.underlying3 (hval 1 3 v1 rfl rfl) h1
  obtain ⟨a2, rfl, rfl, rfl, w2⟩ := open_int Tryz.underlying3 (hval 2 3 v2 rfl rfl) h2
  have k3 := h3
  have lt3 : ∀ x ∈ p3, x.block < W.heap.size := by obtain ⟨m, hm⟩ := k3; exact DataW.trod_lt m _ _ _ hm
  obtain ⟨cs3, rfl, hsz3⟩ := okWide_struct Tryz.underlying40 (hval 3 40 v3 rfl rfl)
  obtain ⟨l3⟩ := cs3
  have hl3 : l3.length = 2 := hsz3.trans (by kernel_rfl)
  obtain ⟨c3_0, c3_1, rfl⟩ : ∃ c0 c1, l3 = [c0, c1] := len_2 l3 hl3
  obtain ⟨z3_0, rfl⟩ : ∃ z : Int, c3_0 = .int .i64 z := by
    obtain ⟨fuel, hf⟩ := k3
    obtain ⟨v, y, n, hv, ht⟩ := trod_field Tryz.underlying40 hf 0 _ rfl (by kernel_rfl) (by rw [show Tryz.prog.cellsOf 40 = 2 by kernel_rfl]; decide)
    obtain ⟨z, e, _, _⟩ := DataW.trod_int Tryz.underlying3 ht
    simp [Value.cells] at hv e
    subst e
    exact ⟨z, hv⟩
  obtain ⟨z3_1, rfl⟩ : ∃ z : ByteArray, c3_1 = .string z := by
    obtain ⟨fuel, hf⟩ := k3
    obtain ⟨v, y, n, hv, ht⟩ := trod_field Tryz.underlying40 hf 1 _ rfl (by kernel_rfl) (by rw [show Tryz.prog.cellsOf 40 = 2 by kernel_rfl]; decide)
    obtain ⟨z, e, _, _⟩ := DataW.trod_string Tryz.underlying9 ht
    simp [Value.cells] at hv e
    subst e
    exact ⟨z, hv⟩
  clear hA0 hval0
  refine (planSends_walk a0 cap0 z0 a1 a2 z3_0 z3_1 W lz0 w0 w1 w2).mono fun e W' ⟨he, bel⟩ => ?_
  subst he
  exact ⟨_, rfl, _, _, _, [], _, [], hW', trodAll_mk1 (shut_bool Tryz.underlying4 _), (trodAll_cons_mk (Below.trod laidOut (by kernel_rfl) (of_decide_eq_true (by kernel_rfl)) k0 bel lt0) (trodAll_cons_mk (shut_int Tryz.underlying3 w1) (trodAll_cons_mk (shut_int Tryz.underlying3 w2) (trodAll_cons_mk (Below.trod laidOut (by kernel_rfl) (of_decide_eq_true (by kernel_rfl)) k3 bel lt3) trodAll_mk0)))), rfl, bel.frame _, fun h => by cases h⟩

theorem over : Rows.planSendsRow.holds Tryz.pinned (OpenSpec.ofChange Rows.planSendsSpec) :=
  OpenClaim.holds_of_wide 4 Tryz.f4 rfl rfl rfl rfl rfl rfl rfl ⟨rfl, rfl, rfl, rfl, rfl⟩ rfl rfl rfl rfl rfl (by kernel_rfl) Tryz.func4 (by kernel_rfl)
    (of_decide_eq_true (by kernel_rfl)) (by unfold Func.isWrapper; first | (rw [if_pos (by decide +kernel)]; kernel_rfl) | (rw [if_neg (by decide +kernel)]; exact ⟨rfl, rfl⟩))
    (fun os started H enc _ => lifted os started H enc)

theorem proved : Rows.PlanSendsSaid := over
#print axioms proved
end Go.Proofs.YtogobhpnlndcaaaGreat.planSends
