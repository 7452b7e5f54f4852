/- The walk of a coordinator's Ask. No condition. -/
import Derived.Test.YtmmnaieikfekfaaGreatDoorAsk
import Derived.Test.YtmmnaieikfekfaaGreatDoorClone
import Derived.Deep.RegionLaw
import Derived.StillTailTactics
namespace Go.Proofs.YtmmnaieikfekfaaGreatDoor
open Go.RowKit
set_option linter.unusedVariables false

/-- what right says of a call: no more than that it answers E, and that what was there stays -/
def RightSays (b : Nat) (kind gen : Int) (fv : Value) (E : Int) (w : World) : Prop :=
  ∀ w1, Touch (fun k => k = b) w w1 → Calls Tryz.prog 37 #[.agg #[.int .i64 kind, .int .i64 gen, fv]] w1 fun e w' => e = .returned (.int .i64 E) ∧ Below w1.heap.size w1 w'
def CSt.asked (c : CSt) (v : Value) : CSt := { c with call := v, left := 40 }

set_option maxRecDepth 100000 in
set_option maxHeartbeats 4000000 in
theorem ask_any (b : Nat) (c : CSt) (kind gen : Int) (fv : Value) (l : List TFile) (base : Nat) (E : Int) (w : World) (h : CoordAt w b c) (hn1 : 1 ≤ c.n) (hph : (c.phase == 0) = false) (hc : c.call = .pointer none) (ha : c.answer = .pointer none) (hj : c.job = .pointer none)
    (hown : w.ownsRow base 101 3 fv l.length (tfsVals l)) (hl : l.length ≤ 1000000) (hR : RightSays b kind gen fv E w) :
    Calls Tryz.prog 23 #[.pointer (some ⟨b, 0, none⟩), .agg #[.int .i64 kind, .int .i64 gen, fv]] w fun e w' => e = .returned (.int .i64 0) ∧ Touch (fun k => k = b) w w' ∧
      (E = 0 → ∃ k, CoordAt w' b (c.asked (.pointer (some ⟨k, 0, none⟩)))) ∧ (E ≠ 0 → ∃ v a, w.heap.size ≤ a ∧ answerAt w' a E 0 0 ∧ CoordAt w' b ((c.asked v).ended (.pointer (some ⟨a, 0, none⟩)))) := by
  obtain ⟨fa, fc, rfl⟩ := row_shape hown
  have hbl := h.1.lt
  have h4 : w.cell? ⟨b, 4, none⟩ = some (.int .i64 c.phase) := h.hd 4 (by omega)
  have h86 : w.cell? ⟨b, 86, none⟩ = some (.pointer none) := by have := h.ft 2; rw [← hc]; exact this
  have h91 : w.cell? ⟨b, 91, none⟩ = some (.pointer none) := by have := h.ft 7; rw [← ha]; exact this
  have H := Lib.hid h
  have Hj := Lib.hid hj
  have HR := Lib.hid hR
  have HCl := Lib.hid (fun w1 (hb : Below w.heap.size w w1) => cloneFiles_any (.slice fa l.length fc) l base w1 (ownsRow_below hown hb) hl)
  have HQ0 := Lib.hid (Blk.new w [.int .i64 kind, .int .i64 gen, .slice fa l.length fc] 40)
  have HB0 := Lib.hid ((Below.refl w.heap.size w).alloc (Nat.le_refl _) (.cells #[.int .i64 kind, .int .i64 gen, .slice fa l.length fc] 40))
  clear h hc ha hj hown hR
  go_enter Tryz.func23, Tryz.ntmps23
  go_wp2_with fail
  refine (none_any b c _ (H.out.alloc _) hn1).mono ?_
  rintro e wx ⟨rfl, rfl⟩
  go_wp2_with fail
  obtain ⟨q, hq⟩ : ∃ q, q = w.heap.size := ⟨_, rfl⟩
  have HQ0' := HQ0.out
  have hbq : b < q := by omega
  rw [← hq] at HQ0' ⊢
  have HB0' := HB0.out
  generalize w.alloc (.cells #[.int .i64 kind, .int .i64 gen, .slice fa l.length fc] 40) = w0 at HB0' HQ0' ⊢
  have Hq := Lib.hid hq
  have HQ1 := Lib.hid HQ0'
  have HB1 := Lib.hid HB0'
  have hq0 := HQ0'.lt
  clear HQ0 HB0 HQ0' HB0' hq h86 h91
  have KE := Lib.hid (show ∀ w', Below w0.heap.size w0 w' → w'.cell? ⟨q, 0, none⟩ = some (.int .i64 kind) ∧ w'.cell? ⟨q, 1, none⟩ = some (.int .i64 gen) ∧ w'.cell? ⟨q, 2, none⟩ = some (.slice fa l.length fc) ∧ CoordAt w' b c from fun w' hb => ⟨(HQ1.out.below hb).cell 0, (HQ1.out.below hb).cell 1, (HQ1.out.below hb).cell 2, (H.out.below HB1.out).below hb⟩)
  have KC := Lib.hid (show ∀ w', CoordAt w' b c → w'.cell? ⟨b, 86, none⟩ = some c.call ∧ w'.cell? ⟨b, 87, none⟩ = some (.int .i64 c.left) ∧ w'.frozen? ⟨b, 86, none⟩ = false ∧ w'.frozen? ⟨b, 87, none⟩ = false from fun w' h => ⟨h.ft 2, h.ft 3, h.1.free 86, h.1.free 87⟩)
  have e0 : w0.cell? ⟨q, 0, none⟩ = some (.int .i64 kind) := HQ1.out.cell 0
  have e1 : w0.cell? ⟨q, 1, none⟩ = some (.int .i64 gen) := HQ1.out.cell 1
  have e2 : w0.cell? ⟨q, 2, none⟩ = some (.slice fa l.length fc) := HQ1.out.cell 2
  have HKA := Lib.hid (show ∀ w', Below w0.heap.size w0 w' → w'.cell? ⟨q, 0, none⟩ = some (.int .i64 kind) ∧ w'.cell? ⟨q, 1, none⟩ = some (.int .i64 gen) ∧ w'.cell? ⟨q, 2, none⟩ = some (.slice fa l.length fc) from fun w' hb => ⟨(KE.out w' hb).1, (KE.out w' hb).2.1, (KE.out w' hb).2.2.1⟩)
  have HKS := Lib.hid (show ∀ w', Below w0.heap.size w0 w' → ∀ v o, ((w'.setCell ⟨b, 86, none⟩ v).alloc o).cell? ⟨q, 0, none⟩ = some (.int .i64 kind) ∧ ((w'.setCell ⟨b, 86, none⟩ v).alloc o).cell? ⟨q, 1, none⟩ = some (.int .i64 gen) ∧ ((w'.setCell ⟨b, 86, none⟩ v).alloc o).cell? ⟨q, 2, none⟩ = some (.slice fa l.length fc) from fun w' hb v o => by
    have h := ((HQ1.out.below hb).set_other (a := ⟨b, 86, none⟩) (by simp; omega) v).alloc o
    exact ⟨h.cell 0, h.cell 1, h.cell 2⟩)
  have HKS2 := Lib.hid (show ∀ w', Below w0.heap.size w0 w' → ∀ v v2 o, (((w'.setCell ⟨b, 86, none⟩ v).setCell ⟨b, 87, none⟩ v2).alloc o).cell? ⟨q, 0, none⟩ = some (.int .i64 kind) ∧ (((w'.setCell ⟨b, 86, none⟩ v).setCell ⟨b, 87, none⟩ v2).alloc o).cell? ⟨q, 1, none⟩ = some (.int .i64 gen) ∧ (((w'.setCell ⟨b, 86, none⟩ v).setCell ⟨b, 87, none⟩ v2).alloc o).cell? ⟨q, 2, none⟩ = some (.slice fa l.length fc) from fun w' hb v v2 o => by
    have h := (((HQ1.out.below hb).set_other (a := ⟨b, 86, none⟩) (by simp; omega) v).set_other (a := ⟨b, 87, none⟩) (by simp; omega) v2).alloc o
    exact ⟨h.cell 0, h.cell 1, h.cell 2⟩)
  go_region_held3 (fun w' => w'.cell? ⟨q, 0, none⟩ = some (.int .i64 kind) ∧ w'.cell? ⟨q, 1, none⟩ = some (.int .i64 gen) ∧ w'.cell? ⟨q, 2, none⟩ = some (.slice fa l.length fc))
    (first | exact HKA.out _ (by assumption) | exact HKA.out _ (Below.refl _ _).drew | exact HKS.out _ (by assumption) _ _ | exact HKS2.out _ (by assumption) _ _ _ | go_keep)
    ((go_at_call 36; refine (HCl.out _ HB1.out.drew).mono ?_; rintro e w1 ⟨ad, cap, rfl, hown1, hbx⟩; have hb1 := below_step ((Below.refl _ w0).drew) hbx; obtain ⟨kc86, kc87, kf86, kf87⟩ := KC.out w1 (KE.out w1 hb1).2.2.2; have hs1 := hb1.size; have hbl1 : b < w1.heap.size := Nat.lt_of_lt_of_le (Nat.lt_trans hbq hq0) hs1; have hql1 : q < w1.heap.size := Nat.lt_of_lt_of_le hq0 hs1))
  have hcj : (c.asked (.pointer (some ⟨w1.heap.size, 0, none⟩))).job = .pointer none := Hj.out
  have C1 := (KE.out w1 hb1).2.2.2
  have C2 : CoordAt (w1.setCell ⟨b, 86, none⟩ (.pointer (some ⟨w1.heap.size, 0, none⟩))) b { c with call := .pointer (some ⟨w1.heap.size, 0, none⟩) } := C1.setFt 2 _ _ rfl rfl rfl
  have C3 : CoordAt ((w1.setCell ⟨b, 86, none⟩ (.pointer (some ⟨w1.heap.size, 0, none⟩))).setCell ⟨b, 87, none⟩ (.int .i64 40)) b (c.asked (.pointer (some ⟨w1.heap.size, 0, none⟩))) := C2.setFt 3 _ _ rfl rfl rfl
  have C4 := C3.alloc (.cells #[.int .i64 kind, .int .i64 gen, .slice ad l.length cap] 40)
  have Q4 := (((HQ1.out.below hb1).set_other (a := ⟨b, 86, none⟩) (by simp; omega) (.pointer (some ⟨w1.heap.size, 0, none⟩))).set_other (a := ⟨b, 87, none⟩) (by simp; omega) (.int .i64 40)).alloc (.cells #[.int .i64 kind, .int .i64 gen, .slice ad l.length cap] 40)
  have T4 := (touchOne_set (o := 87) (touchOne_set (o := 86) (Touch.of_below (S := fun k => k = b) (below_step HB1.out hb1)) (.pointer (some ⟨w1.heap.size, 0, none⟩))) (.int .i64 40)).alloc (.cells #[.int .i64 kind, .int .i64 gen, .slice ad l.length cap] 40)
  generalize hk : w1.heap.size = kk at C4 Q4 T4 hcj ⊢
  clear C2 C3 C1
  generalize ((w1.setCell ⟨b, 86, none⟩ (.pointer (some ⟨kk, 0, none⟩))).setCell ⟨b, 87, none⟩ (.int .i64 40)).alloc (.cells #[.int .i64 kind, .int .i64 gen, .slice ad l.length cap] 40) = w2 at C4 Q4 T4 ⊢
  have HC4 := Lib.hid C4
  have HQ4 := Lib.hid Q4
  have HT4 := Lib.hid T4
  have Hcj := Lib.hid hcj
  have q0 : w2.cell? ⟨q, 0, none⟩ = some (.int .i64 kind) := Q4.cell 0
  have q1 : w2.cell? ⟨q, 1, none⟩ = some (.int .i64 gen) := Q4.cell 1
  have q2 : w2.cell? ⟨q, 2, none⟩ = some (.slice fa l.length fc) := Q4.cell 2
  clear C4 Q4 T4 hk hcj kc86 kc87 kf86 kf87 hown1 hbx hb1 hs1 hbl1 hql1 HKS HKS2 HKA KE KC HCl e0 e1 e2 HQ1 HB1
  go_wp2_with fail
  refine (HR.out w2 HT4.out).mono ?_
  rintro e w3 ⟨rfl, hb3⟩
  have HC5 := Lib.hid (HC4.out.below hb3)
  have HT5 := Lib.hid (HT4.out.trans (Touch.of_below hb3))
  clear hb3 HC4 HT4 HQ4 q0 q1 q2
  by_cases hE : E = 0
  · have hE2 : (E != 0) = false := by rw [hE]; rfl
    have HE := Lib.hid hE
    clear hE
    go_wp2_with fail
    go_ret
    exact ⟨rfl, HT5.out, fun _ => ⟨kk, HC5.out⟩, fun h => absurd HE.out h⟩
  · have hE2 : (E != 0) = true := by rw [bne_iff_ne]; exact hE
    have hsz := HT5.out.size
    have HE := Lib.hid hE
    clear hE
    go_wp2_with fail
    refine (end_call b kk _ E 0 0 none none 0 0 0 0 _ HC5.out rfl Hcj.out).mono ?_
    rintro e w4 ⟨rfl, a, ha0, hA, hC, hT⟩
    have HA := Lib.hid hA
    have HC := Lib.hid hC
    have HT := Lib.hid (HT5.out.trans hT)
    clear hA hC hT
    go_wp2_with fail
    go_ret
    exact ⟨rfl, HT.out, fun h => absurd h HE.out, fun _ => ⟨_, a, Nat.le_trans hsz ha0, HA.out, HC.out⟩⟩
end Go.Proofs.YtmmnaieikfekfaaGreatDoor
