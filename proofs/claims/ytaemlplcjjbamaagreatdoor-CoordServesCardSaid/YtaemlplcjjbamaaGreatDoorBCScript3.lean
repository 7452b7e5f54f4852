/- The walk of a coordinator's Ask, telling what stands in the call. No condition. The walk of right: what is wrong with a call. Conditions: at most 8 files, each of at most 2000 bytes. CoordServes' first backup and its list as rounds; how a call is asked. Condition: all vaults stand alike. -/
import Derived.Test.YtaemlplcjjbamaaGreatDoorBAsk2
import Derived.Test.YtaemlplcjjbamaaGreatDoorBHeld
import Derived.Test.YtaemlplcjjbamaaGreatDoorBCHas
namespace Go.Proofs.YtaemlplcjjbamaaGreatDoor
open Go.RowKit
set_option linter.unusedVariables false
def AskSays (b : Nat) (c : CSt) (kind gen : Int) (l : List TFile) (E : Int) (w : World) (e : Ending) (w' : World) : Prop :=
  e = .returned (.int .i64 0) ∧ Touch (fun k => k = b) w w' ∧
      (E = 0 → ∃ k ad cap, w.heap.size ≤ k ∧ CoordAt w' b (c.asked (.pointer (some ⟨k, 0, none⟩))) ∧ Blk w' k [.int .i64 kind, .int .i64 gen, .slice ad l.length cap] 33 ∧ w'.ownsRow 0 65 3 (.slice ad l.length cap) l.length (tfsVals l)) ∧
      (E ≠ 0 → ∃ v a, w.heap.size ≤ a ∧ answerAt w' a E 0 0 ∧ CoordAt w' b ((c.asked v).ended (.pointer (some ⟨a, 0, none⟩))))
set_option maxRecDepth 100000 in
set_option maxHeartbeats 4000000 in
theorem ask_full (b : Nat) (c : CSt) (kind gen : Int) (fv : Value) (l : List TFile) (base : Nat) (E : Int) (w : World) (h : CoordAt w b c) (hn1 : 1 ≤ c.n) (hph : (c.phase == 0) = false) (hc : c.call = .pointer none) (ha : c.answer = .pointer none) (hj : c.job = .pointer none)
    (hown : w.ownsRow base 65 3 fv l.length (tfsVals l)) (hl : l.length ≤ 1000000) (hR : RightSays b kind gen fv E w) :
    Calls Tryz.prog 9 #[.pointer (some ⟨b, 0, none⟩), .agg #[.int .i64 kind, .int .i64 gen, fv]] w (AskSays b c kind gen l E w) := by
  obtain ⟨fa, fc, rfl⟩ := row_shape hown
  have hbl := h.1.lt
  have h4 : w.cell? ⟨b, 4, none⟩ = some (.int .i64 c.phase) := h.hd 4 (by omega)
  have h86 : w.cell? ⟨b, 86, none⟩ = some (.pointer none) := by have := h.ft 2; rw [← hc]; exact this
  have h91 : w.cell? ⟨b, 91, none⟩ = some (.pointer none) := by have := h.ft 7; rw [← ha]; exact this
  have H := Lib.hid h
  have Hj := Lib.hid hj
  have HR := Lib.hid hR
  have HCl := Lib.hid (fun w1 (hb : Below w.heap.size w w1) => cloneFiles_any (.slice fa l.length fc) l base w1 (ownsRow_below hown hb) hl)
  have HQ0 := Lib.hid (Blk.new w [.int .i64 kind, .int .i64 gen, .slice fa l.length fc] 33)
  have HB0 := Lib.hid ((Below.refl w.heap.size w).alloc (Nat.le_refl _) (.cells #[.int .i64 kind, .int .i64 gen, .slice fa l.length fc] 33))
  clear h hc ha hj hown hR
  go_enter Tryz.func9, Tryz.ntmps9
  go_wp2_with fail
  refine (none_any b c _ (H.out.alloc _) hn1).mono ?_
  rintro e wx ⟨rfl, rfl⟩
  go_wp2_with fail
  obtain ⟨q, hq⟩ : ∃ q, q = w.heap.size := ⟨_, rfl⟩
  have HQ0' := HQ0.out
  have hbq : b < q := by omega
  rw [← hq] at HQ0' ⊢
  have HB0' := HB0.out
  generalize w.alloc (.cells #[.int .i64 kind, .int .i64 gen, .slice fa l.length fc] 33) = w0 at HB0' HQ0' ⊢
  have Hq := Lib.hid hq
  have HQ1 := Lib.hid HQ0'
  have HB1 := Lib.hid HB0'
  have hq0 := HQ0'.lt
  clear HQ0 HB0 HQ0' HB0' hq h86 h91
  have KE := Lib.hid (show ∀ w', Below w0.heap.size w0 w' → w'.cell? ⟨q, 0, none⟩ = some (.int .i64 kind) ∧ w'.cell? ⟨q, 1, none⟩ = some (.int .i64 gen) ∧ w'.cell? ⟨q, 2, none⟩ = some (.slice fa l.length fc) ∧ CoordAt w' b c from fun w' hb => ⟨(HQ1.out.below hb).cell 0, (HQ1.out.below hb).cell 1, (HQ1.out.below hb).cell 2, (H.out.below HB1.out).below hb⟩)
  have KC := Lib.hid (show ∀ w', CoordAt w' b c → w'.cell? ⟨b, 86, none⟩ = some c.call ∧ w'.cell? ⟨b, 87, none⟩ = some (.int .i64 c.left) ∧ w'.frozen? ⟨b, 86, none⟩ = false ∧ w'.frozen? ⟨b, 87, none⟩ = false from fun w' h => ⟨h.ft 2, h.ft 3, h.1.free 86, h.1.free 87⟩)
  have e0 : w0.cell? ⟨q, 0, none⟩ = some (.int .i64 kind) := HQ1.out.cell 0
  have e1 : w0.cell? ⟨q, 1, none⟩ = some (.int .i64 gen) := HQ1.out.cell 1
  have e2 : w0.cell? ⟨q, 2, none⟩ = some (.slice fa l.length fc) := HQ1.out.cell 2
  have HKA := Lib.hid (show ∀ w', Below w0.heap.size w0 w' → w'.cell? ⟨q, 0, none⟩ = some (.int .i64 kind) ∧ w'.cell? ⟨q, 1, none⟩ = some (.int .i64 gen) ∧ w'.cell? ⟨q, 2, none⟩ = some (.slice fa l.length fc) from fun w' hb => ⟨(KE.out w' hb).1, (KE.out w' hb).2.1, (KE.out w' hb).2.2.1⟩)
  have HKS := Lib.hid (show ∀ w', Below w0.heap.size w0 w' → ∀ v o, ((w'.setCell ⟨b, 86, none⟩ v).alloc o).cell? ⟨q, 0, none⟩ = some (.int .i64 kind) ∧ ((w'.setCell ⟨b, 86, none⟩ v).alloc o).cell? ⟨q, 1, none⟩ = some (.int .i64 gen) ∧ ((w'.setCell ⟨b, 86, none⟩ v).alloc o).cell? ⟨q, 2, none⟩ = some (.slice fa l.length fc) from fun w' hb v o => by
    have h := ((HQ1.out.below hb).set_other (a := ⟨b, 86, none⟩) (by simp; omega) v).alloc o
    exact ⟨h.cell 0, h.cell 1, h.cell 2⟩)
  have HKS2 := Lib.hid (show ∀ w', Below w0.heap.size w0 w' → ∀ v v2 o, (((w'.setCell ⟨b, 86, none⟩ v).setCell ⟨b, 87, none⟩ v2).alloc o).cell? ⟨q, 0, none⟩ = some (.int .i64 kind) ∧ (((w'.setCell ⟨b, 86, none⟩ v).setCell ⟨b, 87, none⟩ v2).alloc o).cell? ⟨q, 1, none⟩ = some (.int .i64 gen) ∧ (((w'.setCell ⟨b, 86, none⟩ v).setCell ⟨b, 87, none⟩ v2).alloc o).cell? ⟨q, 2, none⟩ = some (.slice fa l.length fc) from fun w' hb v v2 o => by
    have h := (((HQ1.out.below hb).set_other (a := ⟨b, 86, none⟩) (by simp; omega) v).set_other (a := ⟨b, 87, none⟩) (by simp; omega) v2).alloc o
    exact ⟨h.cell 0, h.cell 1, h.cell 2⟩)
  go_region_held3 (fun w' => w'.cell? ⟨q, 0, none⟩ = some (.int .i64 kind) ∧ w'.cell? ⟨q, 1, none⟩ = some (.int .i64 gen) ∧ w'.cell? ⟨q, 2, none⟩ = some (.slice fa l.length fc))
    (first | exact HKA.out _ (by assumption) | exact HKA.out _ (Below.refl _ _).drew | exact HKS.out _ (by assumption) _ _ | exact HKS2.out _ (by assumption) _ _ _ | go_keep)
    ((go_at_call 19; refine (HCl.out _ HB1.out.drew).mono ?_; rintro e w1 ⟨ad, cap, rfl, hown1, hbx⟩; have hb1 := below_step ((Below.refl _ w0).drew) hbx; obtain ⟨kc86, kc87, kf86, kf87⟩ := KC.out w1 (KE.out w1 hb1).2.2.2; have hs1 := hb1.size; have hbl1 : b < w1.heap.size := Nat.lt_of_lt_of_le (Nat.lt_trans hbq hq0) hs1; have hql1 : q < w1.heap.size := Nat.lt_of_lt_of_le hq0 hs1))
  have hcj : (c.asked (.pointer (some ⟨w1.heap.size, 0, none⟩))).job = .pointer none := Hj.out
  have C1 := (KE.out w1 hb1).2.2.2
  have C2 : CoordAt (w1.setCell ⟨b, 86, none⟩ (.pointer (some ⟨w1.heap.size, 0, none⟩))) b { c with call := .pointer (some ⟨w1.heap.size, 0, none⟩) } := C1.setFt 2 _ _ rfl rfl rfl
  have C3 : CoordAt ((w1.setCell ⟨b, 86, none⟩ (.pointer (some ⟨w1.heap.size, 0, none⟩))).setCell ⟨b, 87, none⟩ (.int .i64 40)) b (c.asked (.pointer (some ⟨w1.heap.size, 0, none⟩))) := C2.setFt 3 _ _ rfl rfl rfl
  have C4 := C3.alloc (.cells #[.int .i64 kind, .int .i64 gen, .slice ad l.length cap] 33)
  have Q4 := (((HQ1.out.below hb1).set_other (a := ⟨b, 86, none⟩) (by simp; omega) (.pointer (some ⟨w1.heap.size, 0, none⟩))).set_other (a := ⟨b, 87, none⟩) (by simp; omega) (.int .i64 40)).alloc (.cells #[.int .i64 kind, .int .i64 gen, .slice ad l.length cap] 33)
  have T4 := (touchOne_set (o := 87) (touchOne_set (o := 86) (Touch.of_below (S := fun k => k = b) (below_step HB1.out hb1)) (.pointer (some ⟨w1.heap.size, 0, none⟩))) (.int .i64 40)).alloc (.cells #[.int .i64 kind, .int .i64 gen, .slice ad l.length cap] 33)
  have K4 : Blk (((w1.setCell ⟨b, 86, none⟩ (.pointer (some ⟨w1.heap.size, 0, none⟩))).setCell ⟨b, 87, none⟩ (.int .i64 40)).alloc (.cells #[.int .i64 kind, .int .i64 gen, .slice ad l.length cap] 33)) w1.heap.size [.int .i64 kind, .int .i64 gen, .slice ad l.length cap] 33 := by
    have hh := Blk.new ((w1.setCell ⟨b, 86, none⟩ (.pointer (some ⟨w1.heap.size, 0, none⟩))).setCell ⟨b, 87, none⟩ (.int .i64 40)) [.int .i64 kind, .int .i64 gen, .slice ad l.length cap] 33
    simpa using hh
  have R4 : (((w1.setCell ⟨b, 86, none⟩ (.pointer (some ⟨w1.heap.size, 0, none⟩))).setCell ⟨b, 87, none⟩ (.int .i64 40)).alloc (.cells #[.int .i64 kind, .int .i64 gen, .slice ad l.length cap] 33)).ownsRow 0 65 3 (.slice ad l.length cap) l.length (tfsVals l) :=
    row_touch (row_base hown1 (Nat.zero_le _)) ((touchOne_set (o := 87) (touchOne_set (o := 86) (Touch.refl (fun k => k = b) w1) (.pointer (some ⟨w1.heap.size, 0, none⟩))) (.int .i64 40)).alloc (.cells #[.int .i64 kind, .int .i64 gen, .slice ad l.length cap] 33)) (fun g hg e => row_ne hown1 C1.1 (by decide) (by rw [hg, e]))
  have hkw : w.heap.size ≤ w1.heap.size := by have := HB1.out.size; omega
  generalize hk : w1.heap.size = kk at C4 Q4 T4 K4 R4 hkw hcj ⊢
  clear C2 C3 C1
  generalize ((w1.setCell ⟨b, 86, none⟩ (.pointer (some ⟨kk, 0, none⟩))).setCell ⟨b, 87, none⟩ (.int .i64 40)).alloc (.cells #[.int .i64 kind, .int .i64 gen, .slice ad l.length cap] 33) = w2 at C4 Q4 T4 K4 R4 ⊢
  have HC4 := Lib.hid C4
  have HQ4 := Lib.hid Q4
  have HT4 := Lib.hid T4
  have HK4 := Lib.hid K4
  have HR4 := Lib.hid R4
  have Hkw := Lib.hid hkw
  have Hcj := Lib.hid hcj
  have q0 : w2.cell? ⟨q, 0, none⟩ = some (.int .i64 kind) := Q4.cell 0
  have q1 : w2.cell? ⟨q, 1, none⟩ = some (.int .i64 gen) := Q4.cell 1
  have q2 : w2.cell? ⟨q, 2, none⟩ = some (.slice fa l.length fc) := Q4.cell 2
  clear C4 Q4 T4 K4 R4 hkw hk hcj kc86 kc87 kf86 kf87 hown1 hbx hb1 hs1 hbl1 hql1 HKS HKS2 HKA KE KC HCl e0 e1 e2 HQ1 HB1
  go_wp2_with fail
  refine (HR.out w2 HT4.out).mono ?_
  rintro e w3 ⟨rfl, hb3⟩
  have HC5 := Lib.hid (HC4.out.below hb3)
  have HT5 := Lib.hid (HT4.out.trans (Touch.of_below hb3))
  have HK5 := Lib.hid (HK4.out.below hb3)
  have HR5 := Lib.hid (ownsRow_below HR4.out hb3)
  clear HK4 HR4
  clear hb3 HC4 HT4 HQ4 q0 q1 q2
  by_cases hE : E = 0
  · have hE2 : (E != 0) = false := by rw [hE]; rfl
    have HE := Lib.hid hE
    clear hE
    go_wp2_with fail
    go_ret
    exact ⟨rfl, HT5.out, fun _ => ⟨kk, ad, cap, Hkw.out, HC5.out, HK5.out, HR5.out⟩, fun h => absurd HE.out h⟩
  · have hE2 : (E != 0) = true := by rw [bne_iff_ne]; exact hE
    have hsz := HT5.out.size
    have HE := Lib.hid hE
    clear hE
    go_wp2_with fail
    refine (end_call b kk _ E 0 0 none none 0 0 0 0 _ HC5.out rfl Hcj.out).mono ?_
    rintro e w4 ⟨rfl, a, ha0, hA, hC, hT⟩
    have HA := Lib.hid hA
    have HC := Lib.hid hC
    have HT := Lib.hid (HT5.out.trans hT)
    clear hA hC hT
    go_wp2_with fail
    go_ret
    exact ⟨rfl, HT.out, fun h => absurd h HE.out, fun _ => ⟨_, a, Nat.le_trans hsz ha0, HA.out, HC.out⟩⟩
end Go.Proofs.YtaemlplcjjbamaaGreatDoor
namespace Go.Proofs.YtaemlplcjjbamaaGreatDoor
open Go Go.RowKit
set_option linter.unusedVariables false
def rightE (kind gen : Int) (fs : List TFile) : Int := if kind = 1 then checkE fs else if kind = 3 ∨ kind = 5 then (if gen < 0 then 2 else 0) else if kind = 2 ∨ kind = 4 ∨ kind = 6 then 0 else 1
def FewFiles (fs : List TFile) : Prop := fs.length ≤ 8 ∧ ∀ f ∈ fs, f.path.size ≤ 9223372036854775807 ∧ f.data.size ≤ 2000
set_option maxRecDepth 100000 in
set_option maxHeartbeats 4000000 in
theorem right_any (kind gen : Int) (ad : Option Addr) (cap : Nat) (fs : List TFile) (w : World) (h : TfsAt w ad fs) (hf : FewFiles fs) :
    Calls Tryz.prog 20 #[.agg #[.int .i64 kind, .int .i64 gen, .slice ad fs.length cap]] w fun e w' => e = .returned (.int .i64 (rightE kind gen fs)) ∧ Below w.heap.size w w' := by
  have hb0 := (Below.refl w.heap.size w).alloc (Nat.le_refl _) (.cells #[.int .i64 kind, .int .i64 gen, .slice ad fs.length cap] 33)
  by_cases h1 : kind = 1
  · subst h1
    have hE := Lib.hid (show rightE 1 gen fs = checkE fs by unfold rightE; rw [if_pos rfl])
    have HI := Lib.hid (imageOf_few ad cap fs (w.alloc (.cells #[.int .i64 1, .int .i64 gen, .slice ad fs.length cap] 33)) (h.below hb0) hf.1 hf.2)
    have Hb0 := Lib.hid hb0
    clear h hf hb0
    go_enter Tryz.func20, Tryz.ntmps20
    go_wp2_with fail
    refine HI.out.mono ?_
    rintro e w1 ⟨s, rfl, _, hb1⟩
    go_wp2_with fail
    go_ret
    exact ⟨ret_int hE.out.symm, Hb0.out.trans (hb1.mono (by simp))⟩
  · by_cases h35 : kind = 3 ∨ kind = 5
    · by_cases hg : gen < 0
      · have hE := Lib.hid (show rightE kind gen fs = 2 by unfold rightE; rw [if_neg h1, if_pos h35, if_pos hg])
        rcases h35 with h | h
        all_goals
          rw [h] at hE hb0 ⊢
          have Hb0 := Lib.hid hb0
          clear h h1 hb0
          go_enter Tryz.func20, Tryz.ntmps20
          go_wp2_with fail
          go_ret
          exact ⟨ret_int hE.out.symm, Hb0.out⟩
      · have hE := Lib.hid (show rightE kind gen fs = 0 by unfold rightE; rw [if_neg h1, if_pos h35, if_neg hg])
        rcases h35 with h | h
        all_goals
          rw [h] at hE hb0 ⊢
          have Hb0 := Lib.hid hb0
          clear h h1 hb0
          go_enter Tryz.func20, Tryz.ntmps20
          go_wp2_with fail
          go_ret
          exact ⟨ret_int hE.out.symm, Hb0.out⟩
    · by_cases h246 : kind = 2 ∨ kind = 4 ∨ kind = 6
      · have hE := Lib.hid (show rightE kind gen fs = 0 by unfold rightE; rw [if_neg h1, if_neg h35, if_pos h246])
        rcases h246 with h | h | h
        all_goals
          rw [h] at hE hb0 ⊢
          have Hb0 := Lib.hid hb0
          clear h h1 h35 hb0
          go_enter Tryz.func20, Tryz.ntmps20
          go_wp2_with fail
          go_ret
          exact ⟨ret_int hE.out.symm, Hb0.out⟩
      · have hE := Lib.hid (show rightE kind gen fs = 1 by unfold rightE; rw [if_neg h1, if_neg h35, if_neg h246])
        have b1 : (kind == 1) = false := beq_eq_false_iff_ne.2 h1
        have b2 : (kind == 2) = false := beq_eq_false_iff_ne.2 (fun e => h246 (Or.inl e))
        have b3 : (kind == 3) = false := beq_eq_false_iff_ne.2 (fun e => h35 (Or.inl e))
        have b4 : (kind == 4) = false := beq_eq_false_iff_ne.2 (fun e => h246 (Or.inr (Or.inl e)))
        have b5 : (kind == 5) = false := beq_eq_false_iff_ne.2 (fun e => h35 (Or.inr e))
        have b6 : (kind == 6) = false := beq_eq_false_iff_ne.2 (fun e => h246 (Or.inr (Or.inr e)))
        have Hb0 := Lib.hid hb0
        clear h1 h35 h246 hb0
        go_enter Tryz.func20, Tryz.ntmps20
        go_wp2_with fail
        go_ret
        exact ⟨ret_int hE.out.symm, Hb0.out⟩
/-- files that the call itself has made, or none: what right says of them -/
theorem tfs_touch {w w' : World} {b base : Nat} {x : Option Addr} {y : Nat} {l : List TFile} {S : CSt} (h : w.ownsRow base 65 3 (.slice x l.length y) l.length (tfsVals l)) (hC : CoordAt w b S) (ht : Touch (fun k => k = b) w w') : TfsAt w' x l :=
  tfsAt_own (row_touch h ht (fun g hg e => row_ne h hC.1 (by decide) (by rw [hg, e])))
theorem rightSays {w : World} {b base : Nat} {kind gen : Int} {x : Option Addr} {y : Nat} {l : List TFile} {S : CSt} (h : w.ownsRow base 65 3 (.slice x l.length y) l.length (tfsVals l)) (hC : CoordAt w b S) (hf : FewFiles l) :
    RightSays b kind gen (.slice x l.length y) (rightE kind gen l) w := fun w1 ht => right_any kind gen x y l w1 (tfs_touch h hC ht) hf
end Go.Proofs.YtaemlplcjjbamaaGreatDoor
namespace Go.Proofs.YtaemlplcjjbamaaGreatDoor
open Go Go.RowKit
set_option linter.unusedVariables false
theorem PSt.rw {w0 : World} {c t wb kb mb n K : Nat} {sv : Value} {L : List MG} {kd left rd : Int} {fs : List TFile} {bkl v : Nat} {w : World} (h : PSt w0 c t wb kb mb n K sv L kd left rd fs bkl v w) : RW w0 c wb kb n w := ⟨K, sv, h.blk.1⟩
theorem PA0.keepA {w0 w w' : World} {c t wb kb mb n K bkl : Nat} {kd : Int} {fs : List TFile} (h : PA0 w0 c t wb kb mb n K bkl kd fs w) (k : KA w0 w w') : PA0 w0 c t wb kb mb n K bkl kd fs w' := by
  obtain ⟨S, qs, Bk, sv, h1, h2, h3, h4, h5⟩ := h
  have h1' := h1.step k.1.1 k.2 (by decide) (by decide)
  exact ⟨S, qs, Bk, sv, h1', h2.keep k.1 h1'.below (by decide) (by decide) (by decide), h3, sideA_none _ _ _ h4 k.1.1, h5⟩
/-- the rounds of the first backup -/
def PAf (w0 : World) (c t wb kb mb n K bkl : Nat) (fs : List TFile) : Nat → World → Prop
  | 0 => PA0 w0 c t wb kb mb n K bkl 1 fs
  | 1 => PA1 w0 c wb kb mb n K bkl 1 fs
  | _ => BA2 w0 c wb kb mb n K bkl fs [] []
def PMf (w0 : World) (c t wb kb mb n K bkl : Nat) (fs : List TFile) : Nat → Nat → World → Prop
  | 0 => PM0 w0 c t wb kb mb n K bkl 1 fs
  | 1 => BM1 w0 c wb kb mb n K bkl fs [] []
  | _ => BM2 w0 c wb kb mb n K bkl fs [] []
theorem rounds_first {w0 : World} {c t wb kb mb n K bkl : Nat} {fs : List TFile} (hb : Bkp w0 mb n K bkl fs [] []) :
    Rounds w0 c wb kb n 3 0 0 (PAf w0 c t wb kb mb n K bkl fs) (PMf w0 c t wb kb mb n K bkl fs) (BE w0 c wb kb mb n K bkl fs [] []) := by
  refine ⟨?_, ?_, ?_, ?_, by omega, ?_, ?_, ?_, ?_, ?_, ?_⟩
  · intro i w ht h
    obtain rfl | rfl | rfl : i = 0 ∨ i = 1 ∨ i = 2 := by omega
    · exact pa0_tick h
    · exact pa1_tick hb h
    · exact ba2_tick hb h
  · intro i v w ht hv h
    obtain rfl | rfl | rfl : i = 0 ∨ i = 1 ∨ i = 2 := by omega
    · exact pm0_five hb.n9 hb.k hv h
    · exact bm1_five hb hv h
    · exact bm2_five hb hv h
  · intro i w ht h
    obtain rfl | rfl : i = 0 ∨ i = 1 := by omega
    · exact pm0_take hb.n1 hb.n9 h
    · exact bm1_take hb h
  · intro w h
    exact bm2_last hb h
  · intro i w h
    rcases i with _ | _ | i
    · obtain ⟨_, _, _, sv, h, _⟩ := h; exact ⟨K, sv, h⟩
    · obtain ⟨_, _, h⟩ := h; exact h.rw
    · obtain ⟨_, _, _, _, h⟩ := h; exact h.rw
  · intro i v w h
    rcases i with _ | _ | i
    · obtain ⟨_, h⟩ := h; exact h.rw
    · obtain ⟨_, _, _, _, _, h⟩ := h; exact h.rw
    · obtain ⟨_, _, _, h⟩ := h; exact h.rw
  · rintro w ⟨_, _, _, _, h⟩
    exact h.rw
  · intro i w w' h hb
    rcases i with _ | _ | i
    · exact PA0.keepA h hb
    · obtain ⟨sv, L, h⟩ := h; exact ⟨sv, L, h.keepA sideA_none hb⟩
    · obtain ⟨mk, sv, L, h1, h⟩ := h; exact ⟨mk, sv, L, h1, h.keepA sideA_job hb⟩
  · intro i v w w' h hb
    rcases i with _ | _ | i
    · obtain ⟨sv, h⟩ := h; exact ⟨sv, h.below hb⟩
    · obtain ⟨mk, sv, L, h1, h2, h⟩ := h; exact ⟨mk, sv, L, h1, h2, h.below side_job hb⟩
    · obtain ⟨mk, sv, h1, h⟩ := h; exact ⟨mk, sv, h1, h.below hb⟩
  · rintro w w' ⟨mk, sv, L, h1, h⟩ hb
    exact ⟨mk, sv, L, h1, h.keepA sideA_idle hb⟩
/-- the list's rounds -/
def LM0 (w0 : World) (c wb kb mb n K bkl : Nat) (l : List Ent) (I : List (Int × List UInt8)) (q : Nat) (mq : ByteArray) (v : Nat) (w : World) : Prop :=
  ∃ sv, Md w0 c wb kb mb n (K + 18 * v) sv (chosensL (q : Int) mq n ++ asksL 1 17 1 n) l I (XAsked w0 n 39 1 [] (fullM v)) bkl (Mix n (fun i => i < v) (PFar ((q : Int) + 1)) (PGot (q : Int) mq)) w
def LA1 (w0 : World) (c wb kb mb n K bkl : Nat) (l : List Ent) (I : List (Int × List UInt8)) (left : Int) (w : World) : Prop :=
  ∃ sv L, Md w0 c wb kb mb n (K + 500) sv L l I (XAsked w0 n left 1 [] (fullM n)) bkl (AllP n (PFar (l.length : Int))) w
def LM1 (w0 : World) (c wb kb mb n K bkl : Nat) (l : List Ent) (I : List (Int × List UInt8)) (w : World) : Prop :=
  ∃ sv, Md w0 c wb kb mb n (K + 500) sv [] l I (XTold l.length) bkl (AllP n (PFar (l.length : Int))) w
def QM1 (w0 : World) (c wb kb mb n K bkl : Nat) (v : Nat) (w : World) : Prop :=
  ∃ sv, Md w0 c wb kb mb n (K + 100 + 9 * v) sv (asksL 1 17 1 n) [] [] (XAsked w0 n 38 1 [] (fullM v)) bkl (AllP n (PFar 0)) w
theorem la0_tick {w0 w : World} {c wb kb mb n K bkl q : Nat} {sv : Value} {L : List MG} {mq : ByteArray} {l : List Ent} {I : List (Int × List UInt8)} (hn1 : 1 ≤ n) (hn9 : n ≤ 9) (hl5 : l.length ≤ 5) (hbk : bkl ≤ 300000000) (hm0 : w0.heap.size ≤ mb) (hl : l.length = q + 1) (hm : mkF l (q : Int) = some mq) (hmq : mq.size = 32)
    (h : Md w0 c wb kb mb n K sv L l I (Xt 4 40 0 (.pointer none) [] JNone) bkl (AllP n (PGot (q : Int) mq)) w) : ZeroCalls wb w (LM0 w0 c wb kb mb n K bkl l I q mq 0) := by
  intro o1 m0 m1 m2 m3 m4 m5 m6 m7 m8 m9 m10 m11 m12 m13 tx k0 k1 k2
  refine (zero_tk (LF := fun L => L = chosensL (q : Int) mq n ++ asksL 1 17 1 n) (I2 := I) (X' := XAsked w0 n 39 1 [] zerosM) (bk2 := bkl) (PP2 := AllP n (PGot (q : Int) mq)) (side_xt jside_none) side_asked hn1 hn9 h (fun L hL => ?_) (fun w1 hm1 => ?_) o1 m0 m1 m2 m3 m4 m5 m6 m7 m8 m9 m10 m11 m12 m13 tx k0 k1 k2).mono ?_
  · rw [hL]
    have a := sent_chosens (n := n) (g := (q : Int)) (mk := mq) hn9 (by omega) (by omega) hmq
    have b := sent_asks (n := n) (rd := 1) hn9 (by omega) (by omega)
    exact ⟨fun m hm => (List.mem_append.1 hm).elim (a.1 m) (b.1 m), by rw [List.length_append, chosensL_length, asksL_length]; omega⟩
  · obtain ⟨S, ps, Bk, b1, b2, b3⟩ := md_tick0 hn1 hn9 hl5 (by omega) hm0 hm1
    refine (tick_ask b1 (by omega) (by omega) hl hm b3).mono ?_
    intro e w2 hs
    exact tickSays_imp hs (fun L w' hh => ⟨hh.1.imp b2 (fun _ x => x), hh.2⟩)
  · rintro e w' ⟨r, rfl, ⟨sv', L', rfl, a⟩, b⟩
    refine ⟨r, rfl, ⟨sv', ?_⟩, b⟩
    rw [fullM_zero]
    exact a.imp (by omega) (fun ps hp => Mix.all hp)
theorem lm0_five {w0 w : World} {c wb kb mb n K bkl q v : Nat} {mq : ByteArray} {l : List Ent} {I : List (Int × List UInt8)} (hn9 : n ≤ 9) (hK : K ≤ 800000) (hq : q ≤ 5) (hv : v < n) (h : LM0 w0 c wb kb mb n K bkl l I q mq v w) : FiveCalls wb v w (LM0 w0 c wb kb mb n K bkl l I q mq (v + 1)) := by
  obtain ⟨sv, h2⟩ := h
  intro m0 m1 m2 m3 m4 m5 m6 m7 m8 m9 m10 m11 m12 m13 tx k0 k1 k2
  refine (five_ask hv hn9 (by omega) (by omega) h2 m0 m1 m2 m3 m4 m5 m6 m7 m8 m9 m10 m11 m12 m13 tx k0 k1 k2).mono ?_
  rintro e w' ⟨r, rfl, a, b⟩
  exact ⟨r, rfl, ⟨sv, a.imp (by omega) (fun _ x => x)⟩, b⟩
theorem lm0_take {w0 w : World} {c wb kb mb n K bkl q : Nat} {mq : ByteArray} {l : List Ent} {I : List (Int × List UInt8)} (hn1 : 1 ≤ n) (hn9 : n ≤ 9) (hl : l.length = q + 1) (h : LM0 w0 c wb kb mb n K bkl l I q mq n w) :
    Calls Tryz.prog 13 #[.pointer (some ⟨c, 0, none⟩)] w fun e w' => e = .returned noAnswer ∧ LA1 w0 c wb kb mb n K bkl l I 39 w' ∧ KeepOA w w' := by
  obtain ⟨sv, h3⟩ := h
  refine (md_take_none side_asked hn1 (fun S w hx => by obtain ⟨_, hx, _⟩ := hx; exact hx.ans) h3).mono ?_
  rintro e w' ⟨he, a, b⟩
  refine ⟨he, ⟨sv, _, a.imp (by omega) (fun ps hp => ?_)⟩, b⟩
  rw [hl]
  exact Mix.full hp
theorem la1_tick {w0 w : World} {c wb kb mb n K bkl : Nat} {left : Int} {l : List Ent} {I : List (Int × List UInt8)} (hn1 : 1 ≤ n) (hn9 : n ≤ 9) (hl5 : l.length ≤ 5) (hbk : bkl ≤ 300000000) (hm0 : w0.heap.size ≤ mb) (hlf : 2 ≤ left ∧ left ≤ 1000) (h : LA1 w0 c wb kb mb n K bkl l I left w) : ZeroCalls wb w (LM1 w0 c wb kb mb n K bkl l I) := by
  obtain ⟨sv, L, h3⟩ := h
  intro o1 m0 m1 m2 m3 m4 m5 m6 m7 m8 m9 m10 m11 m12 m13 tx k0 k1 k2
  refine (zero_tk (LF := fun L => L = []) (I2 := I) (X' := XTold l.length) (bk2 := bkl) (PP2 := AllP n (PFar (l.length : Int))) side_asked side_told hn1 hn9 h3 (fun L hL => by rw [hL]; exact ⟨(fun m hm => by cases hm), by simp⟩) (fun w1 hm1 => ?_) o1 m0 m1 m2 m3 m4 m5 m6 m7 m8 m9 m10 m11 m12 m13 tx k0 k1 k2).mono ?_
  · obtain ⟨S, ps, Bk, b1, b2, b3⟩ := md_tick0 hn1 hn9 hl5 (by omega) hm0 hm1
    refine (tick_told b1 (fullM_won n (by omega) hn1) hlf b3).mono ?_
    intro e w2 hs
    exact tickSays_imp hs (fun L w' hh => ⟨hh.1.imp b2 (fun _ x => x), hh.2⟩)
  · rintro e w' ⟨r, rfl, ⟨sv', L', rfl, a⟩, b⟩
    exact ⟨r, rfl, ⟨sv', a⟩, b⟩
theorem lm1_five {w0 w : World} {c wb kb mb n K bkl v : Nat} {l : List Ent} {I : List (Int × List UInt8)} (h : LM1 w0 c wb kb mb n K bkl l I w) : FiveCalls wb v w (LM1 w0 c wb kb mb n K bkl l I) := by
  obtain ⟨sv, h3⟩ := h
  intro m0 m1 m2 m3 m4 m5 m6 m7 m8 m9 m10 m11 m12 m13 tx k0 k1 k2
  refine (five_nil side_told h3 m0 m1 m2 m3 m4 m5 m6 m7 m8 m9 m10 m11 m12 m13 tx k0 k1 k2).mono ?_
  rintro e w' ⟨r, rfl, a, b⟩
  exact ⟨r, rfl, ⟨sv, a⟩, b⟩
theorem lm1_last {w0 w : World} {c wb kb mb n K bkl : Nat} {l : List Ent} {I : List (Int × List UInt8)} (hn1 : 1 ≤ n) (h : LM1 w0 c wb kb mb n K bkl l I w) :
    Calls Tryz.prog 13 #[.pointer (some ⟨c, 0, none⟩)] w fun e w' => ∃ (fa : Option Addr) (fl fc : Nat) (ma : Option Addr) (mc : Nat), e = .returned (.tuple #[.agg #[.int .i64 0, .int .i64 (l.length : Int), .int .i64 0, .slice fa fl fc, .slice ma l.length mc], .bool true]) ∧ RW w0 c wb kb n w' ∧ KeepOA w w' := by
  obtain ⟨sv, h3⟩ := h
  refine (md_take_told hn1 h3).mono ?_
  rintro e w' ⟨ma, mc, rfl, a, b⟩
  exact ⟨none, 0, 0, ma, mc, rfl, a, b⟩
def LAm (w0 : World) (c wb kb mb n K bkl : Nat) (l : List Ent) (I : List (Int × List UInt8)) (q : Nat) (mq : ByteArray) : Nat → World → Prop
  | 0 => fun w => ∃ sv L, Md w0 c wb kb mb n K sv L l I (Xt 4 40 0 (.pointer none) [] JNone) bkl (AllP n (PGot (q : Int) mq)) w
  | _ => LA1 w0 c wb kb mb n K bkl l I 39
def LMm (w0 : World) (c wb kb mb n K bkl : Nat) (l : List Ent) (I : List (Int × List UInt8)) (q : Nat) (mq : ByteArray) : Nat → Nat → World → Prop
  | 0 => LM0 w0 c wb kb mb n K bkl l I q mq
  | _ => fun _ => LM1 w0 c wb kb mb n K bkl l I
theorem list_more {w0 : World} {c wb kb mb n K bkl q : Nat} {mq : ByteArray} {l : List Ent} {I : List (Int × List UInt8)} (hn1 : 1 ≤ n) (hn9 : n ≤ 9) (hl5 : l.length ≤ 5) (hbk : bkl ≤ 300000000) (hm0 : w0.heap.size ≤ mb) (hK : K ≤ 800000) (hl : l.length = q + 1) (hm : mkF l (q : Int) = some mq) (hmq : mq.size = 32) :
    Rounds w0 c wb kb n 2 l.length (l.length : Int) (LAm w0 c wb kb mb n K bkl l I q mq) (LMm w0 c wb kb mb n K bkl l I q mq) (RW w0 c wb kb n) := by
  refine ⟨?_, ?_, ?_, ?_, by omega, ?_, ?_, ?_, ?_, ?_, ?_⟩
  · intro i w ht h
    obtain rfl | rfl : i = 0 ∨ i = 1 := by omega
    · obtain ⟨sv, L, h⟩ := h
      exact la0_tick hn1 hn9 hl5 hbk hm0 hl hm hmq h
    · exact la1_tick hn1 hn9 hl5 hbk hm0 (by omega) h
  · intro i v w ht hv h
    obtain rfl | rfl : i = 0 ∨ i = 1 := by omega
    · exact lm0_five hn9 hK (by omega) hv h
    · exact lm1_five h
  · intro i w ht h
    obtain rfl : i = 0 := by omega
    exact lm0_take hn1 hn9 hl h
  · intro w h
    exact lm1_last hn1 h
  · intro i w h
    rcases i with _ | i
    · obtain ⟨_, _, h⟩ := h; exact h.rw
    · obtain ⟨_, _, h⟩ := h; exact h.rw
  · intro i v w h
    rcases i with _ | i
    · obtain ⟨_, h⟩ := h; exact h.rw
    · obtain ⟨_, h⟩ := h; exact h.rw
  · intro w h
    exact h
  · intro i w w' h hb
    rcases i with _ | i
    · obtain ⟨sv, L, h⟩ := h; exact ⟨sv, L, h.keepA sideA_none hb⟩
    · obtain ⟨sv, L, h⟩ := h; exact ⟨sv, L, h.keepA sideA_asked hb⟩
  · intro i v w w' h hb
    rcases i with _ | i
    · obtain ⟨sv, h⟩ := h; exact ⟨sv, h.below side_asked hb⟩
    · obtain ⟨sv, h⟩ := h; exact ⟨sv, h.below side_told hb⟩
  · intro w w' h hb
    exact h.keepA hb
theorem pa1_ask {w0 w : World} {c wb kb mb n K bkl : Nat} (hn1 : 1 ≤ n) (hn9 : n ≤ 9) (hbk : bkl ≤ 300000000) (hm0 : w0.heap.size ≤ mb) (h : PA1 w0 c wb kb mb n K bkl 4 [] w) : ZeroCalls wb w (QM1 w0 c wb kb mb n K bkl 0) := by
  obtain ⟨sv, L, h3⟩ := h
  intro o1 m0 m1 m2 m3 m4 m5 m6 m7 m8 m9 m10 m11 m12 m13 tx k0 k1 k2
  refine (zero_tk (LF := fun L => L = asksL 1 17 1 n) (I2 := []) (X' := XAsked w0 n 38 1 [] zerosM) (bk2 := bkl) (PP2 := AllP n (PFar 0)) (side_xt jside_none) side_asked hn1 hn9 h3 (fun L hL => by rw [hL]; exact sent_asks hn9 (by omega) (by omega)) (fun w1 hm1 => ?_) o1 m0 m1 m2 m3 m4 m5 m6 m7 m8 m9 m10 m11 m12 m13 tx k0 k1 k2).mono ?_
  · obtain ⟨S, ps, Bk, b1, b2, b3⟩ := md_tick0 hn1 hn9 (by simp) (by omega) hm0 hm1
    refine (tick_ask0 b1 (by omega) (by omega) b3).mono ?_
    intro e w2 hs
    exact tickSays_imp hs (fun L w' hh => ⟨hh.1.imp b2 (fun _ x => x), hh.2⟩)
  · rintro e w' ⟨r, rfl, ⟨sv', L', rfl, a⟩, b⟩
    refine ⟨r, rfl, ⟨sv', ?_⟩, b⟩
    rw [fullM_zero]
    exact a
theorem qm1_five {w0 w : World} {c wb kb mb n K bkl v : Nat} (hn9 : n ≤ 9) (hK : K ≤ 800000) (hv : v < n) (h : QM1 w0 c wb kb mb n K bkl v w) : FiveCalls wb v w (QM1 w0 c wb kb mb n K bkl (v + 1)) := by
  obtain ⟨sv, h2⟩ := h
  intro m0 m1 m2 m3 m4 m5 m6 m7 m8 m9 m10 m11 m12 m13 tx k0 k1 k2
  refine (five_ask0 hv hn9 (by omega) (Int.le_refl 0) h2 m0 m1 m2 m3 m4 m5 m6 m7 m8 m9 m10 m11 m12 m13 tx k0 k1 k2).mono ?_
  rintro e w' ⟨r, rfl, a, b⟩
  exact ⟨r, rfl, ⟨sv, a.imp (by omega) (fun _ x => x)⟩, b⟩
theorem qm1_take {w0 w : World} {c wb kb mb n K bkl : Nat} (hn1 : 1 ≤ n) (hn9 : n ≤ 9) (h : QM1 w0 c wb kb mb n K bkl n w) :
    Calls Tryz.prog 13 #[.pointer (some ⟨c, 0, none⟩)] w fun e w' => e = .returned noAnswer ∧ LA1 w0 c wb kb mb n K bkl [] [] 38 w' ∧ KeepOA w w' := by
  obtain ⟨sv, h3⟩ := h
  refine (md_take_none side_asked hn1 (fun S w hx => by obtain ⟨_, hx, _⟩ := hx; exact hx.ans) h3).mono ?_
  rintro e w' ⟨he, a, b⟩
  exact ⟨he, ⟨sv, _, a.imp (by omega) (fun ps hp => hp)⟩, b⟩
def QAf (w0 : World) (c t wb kb mb n K bkl : Nat) : Nat → World → Prop
  | 0 => PA0 w0 c t wb kb mb n K bkl 4 []
  | 1 => PA1 w0 c wb kb mb n K bkl 4 []
  | _ => LA1 w0 c wb kb mb n K bkl [] [] 38
def QMf (w0 : World) (c t wb kb mb n K bkl : Nat) : Nat → Nat → World → Prop
  | 0 => PM0 w0 c t wb kb mb n K bkl 4 []
  | 1 => QM1 w0 c wb kb mb n K bkl
  | _ => fun _ => LM1 w0 c wb kb mb n K bkl [] []
theorem list_first {w0 : World} {c t wb kb mb n K bkl : Nat} (hn1 : 1 ≤ n) (hn9 : n ≤ 9) (hbk : bkl ≤ 300000000) (hm0 : w0.heap.size ≤ mb) (hK : K ≤ 800000) :
    Rounds w0 c wb kb n 3 0 0 (QAf w0 c t wb kb mb n K bkl) (QMf w0 c t wb kb mb n K bkl) (RW w0 c wb kb n) := by
  refine ⟨?_, ?_, ?_, ?_, by omega, ?_, ?_, ?_, ?_, ?_, ?_⟩
  · intro i w ht h
    obtain rfl | rfl | rfl : i = 0 ∨ i = 1 ∨ i = 2 := by omega
    · exact pa0_tick h
    · exact pa1_ask hn1 hn9 hbk hm0 h
    · exact la1_tick hn1 hn9 (by simp) hbk hm0 (by omega) h
  · intro i v w ht hv h
    obtain rfl | rfl | rfl : i = 0 ∨ i = 1 ∨ i = 2 := by omega
    · exact pm0_five hn9 hK hv h
    · exact qm1_five hn9 hK hv h
    · exact lm1_five h
  · intro i w ht h
    obtain rfl | rfl : i = 0 ∨ i = 1 := by omega
    · exact pm0_take hn1 hn9 h
    · exact qm1_take hn1 hn9 h
  · intro w h
    exact lm1_last hn1 h
  · intro i w h
    rcases i with _ | _ | i
    · obtain ⟨_, _, _, sv, h, _⟩ := h; exact ⟨K, sv, h⟩
    · obtain ⟨_, _, h⟩ := h; exact h.rw
    · obtain ⟨_, _, h⟩ := h; exact h.rw
  · intro i v w h
    rcases i with _ | _ | i
    · obtain ⟨_, h⟩ := h; exact h.rw
    · obtain ⟨_, h⟩ := h; exact h.rw
    · obtain ⟨_, h⟩ := h; exact h.rw
  · intro w h
    exact h
  · intro i w w' h hb
    rcases i with _ | _ | i
    · exact PA0.keepA h hb
    · obtain ⟨sv, L, h⟩ := h; exact ⟨sv, L, h.keepA sideA_none hb⟩
    · obtain ⟨sv, L, h⟩ := h; exact ⟨sv, L, h.keepA sideA_asked hb⟩
  · intro i v w w' h hb
    rcases i with _ | _ | i
    · obtain ⟨sv, h⟩ := h; exact ⟨sv, h.below hb⟩
    · obtain ⟨sv, h⟩ := h; exact ⟨sv, h.below side_asked hb⟩
    · obtain ⟨sv, h⟩ := h; exact ⟨sv, h.below side_told hb⟩
  · intro w w' h hb
    exact h.keepA hb
end Go.Proofs.YtaemlplcjjbamaaGreatDoor
