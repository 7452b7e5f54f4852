/- The statements' example: awake. No condition. -/
import Derived.Test.YtlmodbaeoheiiaaLive
namespace Go.Proofs.Ytlmodbaeoheiiaa
open Go.RowKit
set_option linter.unusedVariables false

def tA : ByteArray := ⟨#[97]⟩
def t18 : ByteArray := ⟨#[49, 50, 51, 52, 53, 54, 55, 56]⟩
def q1 : PS := ((newP 2).create ⟨#[97]⟩).2
def q2 : PS := (q1.write ⟨#[97]⟩ 60 ⟨#[49, 50, 51, 52, 53, 54, 55, 56]⟩).2
def q3 : PS := q2.crash [1]
theorem q1_r : ((newP 2).create ⟨#[97]⟩).1 = 0 := by kernel_rfl
theorem q2_r : (q1.write ⟨#[97]⟩ 60 ⟨#[49, 50, 51, 52, 53, 54, 55, 56]⟩).1 = 0 := by kernel_rfl
theorem q2_w : q2.wait.length = 2 := by kernel_rfl
theorem q3_r : q3.read ⟨#[97]⟩ 60 9 = (⟨#[49, 50, 51, 52]⟩, 0) := by kernel_rfl
attribute [irreducible] q1 q2 q3

set_option maxRecDepth 100000 in
theorem awake_any (w : World) : Calls Try.prog 11 #[] w fun e w' => e = .returned (.bool true) ∧ Below w.heap.size w w' := by
  have h1 := fun (B : Nat) (w0 w1 : World) (b n : Nat) (h : Live B w0 b n (newP 2) w1) (hn : n ≤ 1000000) => create_live h hn ⟨#[97]⟩
  have h2 := fun (B : Nat) (w0 w1 : World) (b n : Nat) (h : Live B w0 b n q1 w1) (hn : n ≤ 1000000) => write_live h hn ⟨#[97]⟩ 60 ⟨#[49, 50, 51, 52, 53, 54, 55, 56]⟩ (by decide) (by unfold maxLen; decide)
  have h3 := fun (B : Nat) (w0 w1 : World) (b n : Nat) (h : Live B w0 b n q2 w1) => waiting_live h
  rw [q1_r] at h1
  rw [q2_r] at h2
  rw [q2_w] at h3
  have H1 := Lib.hid h1
  have H2 := Lib.hid h2
  have H3 := Lib.hid h3
  clear h1 h2 h3
  go_enter Try.func11, Try.ntmps11
  go_wp2_with fail
  refine (new_live 2 w (by decide)).mono ?_
  rintro e w1 ⟨b, rfl, L1⟩
  go_wp2_with fail
  refine (H1.out _ _ _ _ _ L1 (by decide)).mono ?_
  rintro e w2 ⟨rfl, L2⟩
  go_wp2_with fail
  refine (H2.out _ _ _ _ _ (by unfold q1; exact L2) (by decide)).mono ?_
  rintro e w3 ⟨rfl, L3⟩
  go_wp2_with fail
  refine (H3.out _ _ _ _ _ (by unfold q2; exact L3)).mono ?_
  rintro e w' ⟨rfl, rfl⟩
  go_wp2_with fail
  have hI : IntsAt .i64 (w3.alloc (Obj.cells #[Value.int IntKind.i64 1] 3)) (some ⟨w3.heap.size, 0, none⟩) [1] := by
    right
    refine ⟨_, 0, rfl, by simp, fun i hi => ?_⟩
    have h0 : i = 0 := by simpa using hi
    subst h0
    rw [(Blk.new w3 [.int .i64 1] 3).cell 0]
    rfl
  have hc := crash_live (n := 0 + 1 + ByteArray.size ⟨#[49, 50, 51, 52, 53, 54, 55, 56]⟩) (P := q2) (b := b) (B := w.heap.size) (w0 := w) (Live.below (by unfold q2; exact L3) ((Below.refl _ w3).alloc (Nat.le_refl _) (Obj.cells #[Value.int IntKind.i64 1] 3))) (by decide) (some ⟨w3.heap.size, 0, none⟩) 1 [1] hI (fun g off _ e => by
    right
    injection e with e
    injection e with e1 _ _
    subst e1
    exact ⟨_, Blk.new w3 [.int .i64 1] 3⟩) (by decide)
  refine hc.mono ?_
  rintro e w4 ⟨rfl, L4⟩
  have hrd := read_live (P := q3) (n := 0 + 1 + ByteArray.size ⟨#[49, 50, 51, 52, 53, 54, 55, 56]⟩) (by unfold q3; exact L4) (by decide) ⟨#[97]⟩ 60 9 (by decide) (by decide)
  rw [q3_r] at hrd
  have HRD := Lib.hid hrd
  clear hrd hI hc
  go_wp2_with fail
  refine HRD.out.mono ?_
  rintro e w5 ⟨rfl, L5⟩
  go_wp2_with fail
  go_ret
  exact ⟨rfl, L5.bel⟩
end Go.Proofs.Ytlmodbaeoheiiaa
