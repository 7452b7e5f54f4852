/- One step of a play: a part put into both boxes. Conditions: sizes. -/
import Derived.Test.YtdhkdmnhkldebaaPlayParts
import Derived.Test.YtdhkdmnhkldebaaText
import Derived.Deep.DrawnRows
namespace Go.Proofs.Ytdhkdmnhkldebaa
open Go.RowKit
set_option linter.unusedVariables false
attribute [local go_sem ↓] Go.wp_at_zero Go.wp_at_succ

def InTwo (b gp gh gl : Nat) : Nat → Prop := fun k => InBox b gp gh k ∨ k = gl
theorem two_ne {w : World} {b gp gh q gl : Nat} {m m' : List (Option ByteArray)} (h : BoxAt w b gp gh m) (k : RefAt w q gl m') : (∀ j, InBox b gp gh j → j ≠ q ∧ j ≠ gl) := by
  intro j hj
  rcases hj with rfl | rfl | rfl
  · exact ⟨h.1.ne k.1 (by decide), h.1.ne k.2 (by decide)⟩
  · exact ⟨h.2.1.ne k.1 (by decide), h.2.1.ne k.2 (by decide)⟩
  · exact ⟨h.2.2.ne k.1 (by decide), h.2.2.ne k.2 (by decide)⟩
theorem box_touch {w w' : World} {b gp gh : Nat} {m : List (Option ByteArray)} {S : Nat → Prop} (h : BoxAt w b gp gh m) (ht : Touch S w w') (hS : ∀ j, InBox b gp gh j → ¬ S j) : BoxAt w' b gp gh m :=
  ⟨h.1.touch ht (hS _ (Or.inl rfl)), h.2.1.touch ht (hS _ (Or.inr (Or.inl rfl))), h.2.2.touch ht (hS _ (Or.inr (Or.inr rfl)))⟩
theorem ref_touch {w w' : World} {q gl : Nat} {m : List (Option ByteArray)} {S : Nat → Prop} (h : RefAt w q gl m) (ht : Touch S w w') (h1 : ¬ S q) (h2 : ¬ S gl) : RefAt w' q gl m := ⟨h.1.touch ht h1, h.2.touch ht h2⟩
def opCells (x : OpR) : List Value := [.int .i64 x.kind, .int .i64 x.n, .int .i64 x.at_, .int .i64 x.of_, .string x.text]
/-- both boxes and the call, in the midst of a step -/
structure Inv (w0 : World) (b gp gh q gl ob : Nat) (x : OpR) (m1 m2 : List (Option ByteArray)) (w : World) : Prop where
  box : BoxAt w b gp gh m1
  ref : RefAt w q gl m2
  op : Blk w ob (opCells x) 52
  touch : Touch (InTwo b gp gh gl) w0 w
theorem Inv.below {w0 : World} {b gp gh q gl ob : Nat} {x : OpR} {m1 m2 : List (Option ByteArray)} {w w' : World} (h : Inv w0 b gp gh q gl ob x m1 m2 w) (hb : Below w.heap.size w w') : Inv w0 b gp gh q gl ob x m1 m2 w' :=
  ⟨boxAt_same h.box hb, h.ref.below hb, h.op.below hb, h.touch.trans (Touch.of_below hb)⟩
theorem Inv.boxStep {w0 : World} {b gp gh q gl ob : Nat} {x : OpR} {m1 m2 m3 : List (Option ByteArray)} {w w' : World} (h : Inv w0 b gp gh q gl ob x m1 m2 w) (hb : BoxAt w' b gp gh m3) (ht : Touch (InBox b gp gh) w w') : Inv w0 b gp gh q gl ob x m3 m2 w' := by
  have hn := two_ne h.box h.ref
  refine ⟨hb, ref_touch h.ref ht (fun e => (hn _ e).1 rfl) (fun e => (hn _ e).2 rfl), h.op.touch ht ?_, h.touch.trans (ht.mono (fun k _ hk => Or.inl hk))⟩
  rintro (e | e | e)
  · exact (h.op.ne h.box.1 (by decide)) e
  · exact (h.op.ne h.box.2.1 (by decide)) e
  · exact (h.op.ne h.box.2.2 (by decide)) e
theorem Inv.refStep {w0 : World} {b gp gh q gl ob : Nat} {x : OpR} {m1 m2 m3 : List (Option ByteArray)} {w w' : World} (h : Inv w0 b gp gh q gl ob x m1 m2 w) (hb : RefAt w' q gl m3) (ht : Touch (fun k => k = gl) w w') : Inv w0 b gp gh q gl ob x m1 m3 w' := by
  have hn := two_ne h.box h.ref
  exact ⟨box_touch h.box ht (fun j hj e => (hn j hj).2 e), hb, h.op.touch ht (fun e => (h.op.ne h.ref.2 (by decide)) e), h.touch.trans (ht.mono (fun k _ hk => Or.inr hk))⟩

set_option maxRecDepth 100000 in
set_option maxHeartbeats 4000000 in
theorem step_put (b gp gh q gl : Nat) (x : OpR) (m : List (Option ByteArray)) (w : World) (hx : x.kind = 0) (h1 : BoxAt w b gp gh m) (h2 : RefAt w q gl m) (hm : m.length ≤ 60) (hs : size m ≤ 524288) (ht : x.text.size ≤ maxLen) :
    Calls Try.prog 21 #[.pointer (some ⟨b, 0, none⟩), .pointer (some ⟨q, 0, none⟩), .agg #[.int .i64 x.kind, .int .i64 x.n, .int .i64 x.at_, .int .i64 x.of_, .string x.text]] w fun e w' => e = .returned (.bool true) ∧ BoxAt w' b gp gh (putOf m x.at_ x.of_ (cut300 x.text)).1 ∧ RefAt w' q gl (putOf m x.at_ x.of_ (cut300 x.text)).1 ∧ Touch (InTwo b gp gh gl) w w' := by
  have hI0 : Inv w b gp gh q gl w.heap.size x m m (w.alloc (.cells (opCells x).toArray 52)) :=
    ⟨boxAt_same h1 ((Below.refl _ _).alloc (Nat.le_refl _) _), h2.below ((Below.refl _ _).alloc (Nat.le_refl _) _), Blk.new w _ _, (Touch.refl _ w).alloc _⟩
  have ht300 := cut300_size x.text
  have HS := Lib.hid (fun (w' : World) (m1 m2 : List (Option ByteArray)) (h : Inv w b gp gh q gl w.heap.size x m1 m2 w') => (short_any x.at_ x.of_ x.text w' ht).mono (R' := fun e w'' => e = .returned (.agg #[.int .i64 x.at_, .int .i64 x.of_, .string (cut300 x.text)]) ∧ Inv w b gp gh q gl w.heap.size x m1 m2 w'') (fun e w'' ⟨he, hb⟩ => ⟨he, h.below hb⟩))
  generalize hpo : putOf m x.at_ x.of_ (cut300 x.text) = po at *
  have HP := Lib.hid (fun (w' : World) (m2 : List (Option ByteArray)) (h : Inv w b gp gh q gl w.heap.size x m m2 w') => (put_any b gp gh m x.at_ x.of_ (cut300 x.text) w' h.box (by omega) hs (by unfold maxLen; omega)).mono (R' := fun e w'' => e = .returned (.int .i64 (po.2 : Nat)) ∧ Inv w b gp gh q gl w.heap.size x po.1 m2 w'') (fun e w'' ⟨he, hb, htt⟩ => by
    rw [hpo] at he hb
    exact ⟨he, h.boxStep hb htt⟩))
  have HR := Lib.hid (fun (w' : World) (m1 : List (Option ByteArray)) (h : Inv w b gp gh q gl w.heap.size x m1 m w') => (refPut_any q gl m x.at_ x.of_ (cut300 x.text) w' h.ref (by omega) hs (by omega)).mono (R' := fun e w'' => e = .returned (.int .i64 (po.2 : Nat)) ∧ Inv w b gp gh q gl w.heap.size x m1 po.1 w'') (fun e w'' ⟨he, hb, htt⟩ => by
    rw [hpo] at he hb
    exact ⟨he, h.refStep hb htt⟩))
  rw [hx]
  have hcell : ∀ m1 m2 w', Inv w b gp gh q gl w.heap.size x m1 m2 w' → w'.cell? ⟨w.heap.size, 2, none⟩ = some (.int .i64 x.at_) ∧ w'.cell? ⟨w.heap.size, 3, none⟩ = some (.int .i64 x.of_) ∧ w'.cell? ⟨w.heap.size, 4, none⟩ = some (.string x.text) :=
    fun m1 m2 w' h => ⟨h.op.cell 2, h.op.cell 3, h.op.cell 4⟩
  have HCELL := Lib.hid hcell
  have hob : (opCells x).toArray = #[.int .i64 0, .int .i64 x.n, .int .i64 x.at_, .int .i64 x.of_, .string x.text] := by unfold opCells; rw [hx]
  rw [hob] at hI0
  have HI0 := Lib.hid hI0
  generalize cut300 x.text = t at *
  clear h1 h2 hm hs ht hx hpo hcell hob hI0 ht300
  go_enter Try.func21, Try.ntmps21
  go_wp2_with fail
  have hI1 : Inv w b gp gh q gl w.heap.size x m m ((w.alloc (.cells #[.int .i64 0, .int .i64 x.n, .int .i64 x.at_, .int .i64 x.of_, .string x.text] 52)).drew) := HI0.out.below (Below.refl _ _).drew
  clear HI0
  go_region_held3 (fun w' => w'.cell? ⟨w.heap.size, 2, none⟩ = some (.int .i64 x.at_) ∧ w'.cell? ⟨w.heap.size, 3, none⟩ = some (.int .i64 x.of_) ∧ w'.cell? ⟨w.heap.size, 4, none⟩ = some (.string x.text))
    (exact HCELL.out _ _ _ (by assumption))
    (first
      | (go_at_call 24; refine (HS.out _ _ _ (by assumption)).mono ?_; rintro e w1 ⟨rfl, hI⟩)
      | (go_at_call 15; refine (HP.out _ _ (by assumption)).mono ?_; rintro e w1 ⟨rfl, hI⟩)
      | (go_at_call 25; refine (HR.out _ _ (by assumption)).mono ?_; rintro e w1 ⟨rfl, hI⟩))
  all_goals go_wp2_with fail
  all_goals go_ret
  all_goals
    exact ⟨by first | rfl | (exact ret_bool (by simp)), Inv.box (by assumption), Inv.ref (by assumption), Inv.touch (by assumption)⟩
end Go.Proofs.Ytdhkdmnhkldebaa
