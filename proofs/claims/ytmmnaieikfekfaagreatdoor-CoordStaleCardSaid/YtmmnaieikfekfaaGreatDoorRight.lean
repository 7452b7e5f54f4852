/- The walk of right: what is wrong with a call. Conditions: at most 8 files, each of at most 2000 bytes. -/
import Derived.Test.YtmmnaieikfekfaaGreatDoorImage
import Derived.Test.YtmmnaieikfekfaaGreatDoorAsk2
namespace Go.Proofs.YtmmnaieikfekfaaGreatDoor
open Go Go.RowKit
set_option linter.unusedVariables false

def rightE (kind gen : Int) (fs : List TFile) : Int := if kind = 1 then checkE fs else if kind = 3 ∨ kind = 5 then (if gen < 0 then 2 else 0) else if kind = 2 ∨ kind = 4 ∨ kind = 6 then 0 else 1
def FewFiles (fs : List TFile) : Prop := fs.length ≤ 8 ∧ ∀ f ∈ fs, f.path.size ≤ 9223372036854775807 ∧ f.data.size ≤ 2000
set_option maxRecDepth 100000 in
set_option maxHeartbeats 4000000 in
theorem right_any (kind gen : Int) (ad : Option Addr) (cap : Nat) (fs : List TFile) (w : World) (h : TfsAt w ad fs) (hf : FewFiles fs) :
    Calls Tryz.prog 37 #[.agg #[.int .i64 kind, .int .i64 gen, .slice ad fs.length cap]] w fun e w' => e = .returned (.int .i64 (rightE kind gen fs)) ∧ Below w.heap.size w w' := by
  have hb0 := (Below.refl w.heap.size w).alloc (Nat.le_refl _) (.cells #[.int .i64 kind, .int .i64 gen, .slice ad fs.length cap] 40)
  by_cases h1 : kind = 1
  · subst h1
    have hE := Lib.hid (show rightE 1 gen fs = checkE fs by unfold rightE; rw [if_pos rfl])
    have HI := Lib.hid (imageOf_few ad cap fs (w.alloc (.cells #[.int .i64 1, .int .i64 gen, .slice ad fs.length cap] 40)) (h.below hb0) hf.1 hf.2)
    have Hb0 := Lib.hid hb0
    clear h hf hb0
    go_enter Tryz.func37, Tryz.ntmps37
    go_wp2_with fail
    refine HI.out.mono ?_
    rintro e w1 ⟨s, rfl, _, hb1⟩
    go_wp2_with fail
    go_ret
    exact ⟨ret_int hE.out.symm, Hb0.out.trans (hb1.mono (by simp))⟩
  · by_cases h35 : kind = 3 ∨ kind = 5
    · by_cases hg : gen < 0
      · have hE := Lib.hid (show rightE kind gen fs = 2 by unfold rightE; rw [if_neg h1, if_pos h35, if_pos hg])
        rcases h35 with h | h
        all_goals
          rw [h] at hE hb0 ⊢
          have Hb0 := Lib.hid hb0
          clear h h1 hb0
          go_enter Tryz.func37, Tryz.ntmps37
          go_wp2_with fail
          go_ret
          exact ⟨ret_int hE.out.symm, Hb0.out⟩
      · have hE := Lib.hid (show rightE kind gen fs = 0 by unfold rightE; rw [if_neg h1, if_pos h35, if_neg hg])
        rcases h35 with h | h
        all_goals
          rw [h] at hE hb0 ⊢
          have Hb0 := Lib.hid hb0
          clear h h1 hb0
          go_enter Tryz.func37, Tryz.ntmps37
          go_wp2_with fail
          go_ret
          exact ⟨ret_int hE.out.symm, Hb0.out⟩
    · by_cases h246 : kind = 2 ∨ kind = 4 ∨ kind = 6
      · have hE := Lib.hid (show rightE kind gen fs = 0 by unfold rightE; rw [if_neg h1, if_neg h35, if_pos h246])
        rcases h246 with h | h | h
        all_goals
          rw [h] at hE hb0 ⊢
          have Hb0 := Lib.hid hb0
          clear h h1 h35 hb0
          go_enter Tryz.func37, Tryz.ntmps37
          go_wp2_with fail
          go_ret
          exact ⟨ret_int hE.out.symm, Hb0.out⟩
      · have hE := Lib.hid (show rightE kind gen fs = 1 by unfold rightE; rw [if_neg h1, if_neg h35, if_neg h246])
        have b1 : (kind == 1) = false := beq_eq_false_iff_ne.2 h1
        have b2 : (kind == 2) = false := beq_eq_false_iff_ne.2 (fun e => h246 (Or.inl e))
        have b3 : (kind == 3) = false := beq_eq_false_iff_ne.2 (fun e => h35 (Or.inl e))
        have b4 : (kind == 4) = false := beq_eq_false_iff_ne.2 (fun e => h246 (Or.inr (Or.inl e)))
        have b5 : (kind == 5) = false := beq_eq_false_iff_ne.2 (fun e => h35 (Or.inr e))
        have b6 : (kind == 6) = false := beq_eq_false_iff_ne.2 (fun e => h246 (Or.inr (Or.inr e)))
        have Hb0 := Lib.hid hb0
        clear h1 h35 h246 hb0
        go_enter Tryz.func37, Tryz.ntmps37
        go_wp2_with fail
        go_ret
        exact ⟨ret_int hE.out.symm, Hb0.out⟩
/-- files that the call itself has made, or none: what right says of them -/
theorem tfs_touch {w w' : World} {b base : Nat} {x : Option Addr} {y : Nat} {l : List TFile} {S : CSt} (h : w.ownsRow base 101 3 (.slice x l.length y) l.length (tfsVals l)) (hC : CoordAt w b S) (ht : Touch (fun k => k = b) w w') : TfsAt w' x l :=
  tfsAt_own (row_touch h ht (fun g hg e => row_ne h hC.1 (by decide) (by rw [hg, e])))
theorem rightSays {w : World} {b base : Nat} {kind gen : Int} {x : Option Addr} {y : Nat} {l : List TFile} {S : CSt} (h : w.ownsRow base 101 3 (.slice x l.length y) l.length (tfsVals l)) (hC : CoordAt w b S) (hf : FewFiles l) :
    RightSays b kind gen (.slice x l.length y) (rightE kind gen l) w := fun w1 ht => right_any kind gen x y l w1 (tfs_touch h hC ht) hf
end Go.Proofs.YtmmnaieikfekfaaGreatDoor
