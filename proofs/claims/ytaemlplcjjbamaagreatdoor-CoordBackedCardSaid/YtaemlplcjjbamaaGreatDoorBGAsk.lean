/- The walk of the statement's majority over what was told, and -/
import Derived.Test.YtaemlplcjjbamaaGreatDoorBGEnd
namespace Go.Proofs.YtaemlplcjjbamaaGreatDoor
open Go.Lib (hid)
set_option maxRecDepth 100000
set_option maxHeartbeats 8000000
open Go Go.RowKit
set_option linter.unusedVariables false
variable {Z b base c i k kb mb n : Nat} {bal gen id kind : Int} {w w' w0 : World}
structure Tl where
 k : Int
 fr : Int
 gen : Int
 rd : Int
 mrk : ByteArray
def Tl.vals (x : Tl) : List Value := [.int .i64 x.k, .int .i64 x.fr, .int .i64 x.gen, .int .i64 x.rd, .string x.mrk]
def toldV (l : List Tl) : List Value := l.flatMap Tl.vals
theorem zIc (a b : List Tl) : toldV (a ++ b) = toldV a ++ toldV b := by unfold toldV; rw [List.flatMap_append]
theorem zBq {L : List Tl} {m : Tl} (h : L[k]? = some m) (j : Nat) (hj : j < 5) : (toldV L)[k * 5 + j]? = m.vals[j]? := by
 induction L generalizing k with
 | nil => simp at h
 | cons x L ih =>
  have e : toldV (x :: L) = x.vals ++ toldV L := rfl
  have hl : x.vals.length = 5 := rfl
  cases k with
  | zero =>
   have hx : x = m := by simpa using h
   subst hx
   rw [e, List.getElem?_append_left (by omega)]
   simp
  | succ k =>
   rw [e, List.getElem?_append_right (by omega), hl, show (k + 1) * 5 + j - 5 = k * 5 + j by omega]
   exact ih (by simpa using h)
def told8 (v : Nat) (g : Int) (mk : ByteArray) (x : Tl) : Bool := decide (x.k = 8 ∧ x.fr = (v : Int) ∧ x.gen = g ∧ x.mrk = mk)
def zAE (v : Nat) (r : Int) (x : Tl) : Bool := decide (x.k = 12 ∧ x.fr = (v : Int) ∧ x.rd = r)
theorem any_take_succ {L : List Tl} {p : Tl → Bool} {x : Tl} (h : L[i]? = some x) : (L.take (i + 1)).any p = ((L.take i).any p || p x) := by
 rw [List.take_add_one, h, List.any_append]
 simp
theorem zIk (q : Nat → Bool) (n : Nat) : ∀ d, (List.range (n + d)).countP (fun i => decide (i < n) && q i) = (List.range n).countP q
 | 0 => by
  rw [Nat.add_zero]
  refine List.countP_congr (fun i hi => ?_)
  have : i < n := List.mem_range.1 hi
  simp [this]
 | d + 1 => by
  rw [← Nat.add_assoc, List.range_succ, List.countP_append, zIk q n d]
  have : ¬ n + d < n := by omega
  simp [this]
theorem zHe (hn : n ≤ 9) {P : Nat → Prop} (h : Maj n P) (q : Nat → Bool) (hq : ∀ i, i < n → P i → q i = true) : n < 2 * (List.range n).countP q := by
 obtain ⟨M, hw, hp⟩ := h
 unfold wonT at hw
 simp only [Bool.and_eq_true, decide_eq_true_eq] at hw
 have h1 : cnt M n = (List.range n).countP (fun i => M.getD i false) := by
  unfold cnt cntTo
  have := zIk (fun i => M.getD i false) n (9 - n)
  rw [show n + (9 - n) = 9 by omega] at this
  exact this
 have h2 : (List.range n).countP (fun i => M.getD i false) ≤ (List.range n).countP q := List.countP_mono_left (fun i hi hm => hq i (List.mem_range.1 hi) (hp i (List.mem_range.1 hi) hm))
 omega
open Go.RowKit
def zHo (b : Nat) (kind gen : Int) (fv : Value) (E : Int) (w : World) : Prop :=
 ∀ w1, Touch (fun k => k = b) w w1 → Calls Tryz.prog 20 #[.agg #[.int .i64 kind, .int .i64 gen, fv]] w1 fun e w' => e = .returned (.int .i64 E) ∧ Below w1.heap.size w1 w'
def CSt.asked (c : CSt) (v : Value) : CSt := { c with call := v, left := 40 }
theorem ask_gen (b : Nat) (c : CSt) (kind gen : Int) (fv : Value) (l : List TFile) (base : Nat) (E : Int) (w : World) (QY QN : World → Prop) (h : zAb w b c) (hn1 : 1 ≤ c.n) (hph : (c.phase == 0) = false) (hc : c.call = .pointer none) (ha : c.answer = .pointer none)
  (hown : w.ownsRow base 65 3 fv l.length (zAq l)) (hl : l.length ≤ 1000000) (hR : zHo b kind gen fv E w)
  (hY : E = 0 → ∀ w' k ad cap, w.heap.size ≤ k → zAb w' b (c.asked (.pointer (some ⟨k, 0, none⟩))) → Touch (fun k => k = b) w w' → Blk w' k [.int .i64 kind, .int .i64 gen, .slice ad l.length cap] 33 → w'.ownsRow 0 65 3 (.slice ad l.length cap) l.length (zAq l) → QY w')
  (hN : E ≠ 0 → ∀ w' k ad cap, w.heap.size ≤ k → zAb w' b (c.asked (.pointer (some ⟨k, 0, none⟩))) → Touch (fun k => k = b) w w' → Blk w' k [.int .i64 kind, .int .i64 gen, .slice ad l.length cap] 33 → w'.ownsRow 0 65 3 (.slice ad l.length cap) l.length (zAq l) → Calls Tryz.prog 21 #[.pointer (some ⟨b, 0, none⟩), .agg #[.int .i64 E, .int .i64 0, .int .i64 0, .slice none 0 0, .slice none 0 0]] w' fun x w2 => x = .returned (.tuple #[]) ∧ QN w2) :
  Calls Tryz.prog 9 #[.pointer (some ⟨b, 0, none⟩), .agg #[.int .i64 kind, .int .i64 gen, fv]] w fun e w' => e = .returned (.int .i64 0) ∧ ((E = 0 ∧ QY w') ∨ (E ≠ 0 ∧ QN w')) := by
 obtain ⟨fa, fc, rfl⟩ := zAe hown
 have hbl := h.1.lt
 have h4 : w.cell? ⟨b, 4, none⟩ = some (.int .i64 c.phase) := h.hd 4 (by omega)
 have h86 : w.cell? ⟨b, 86, none⟩ = some (.pointer none) := by have := h.ft 2; rw [← hc]; exact this
 have h91 : w.cell? ⟨b, 91, none⟩ = some (.pointer none) := by have := h.ft 7; rw [← ha]; exact this
 have H := hid h
 have HY := hid hY
 have HN := hid hN
 have HR := hid hR
 have HCl := hid (fun w1 (hb : Below w.heap.size w w1) => zFB (.slice fa l.length fc) l base w1 (zAc hown hb) hl)
 have HQ0 := hid (Blk.new w [.int .i64 kind, .int .i64 gen, .slice fa l.length fc] 33)
 have HB0 := hid ((Below.refl w.heap.size w).alloc (Nat.le_refl _) (.cells #[.int .i64 kind, .int .i64 gen, .slice fa l.length fc] 33))
 clear h hc ha hY hN hown hR
 go_enter Tryz.func9, Tryz.ntmps9
 go_wp2_with fail
 refine (zAh b c _ (H.out.alloc _) hn1).mono ?_
 rintro e wx ⟨rfl, rfl⟩
 go_wp2_with fail
 obtain ⟨q, hq⟩ : ∃ q, q = w.heap.size := ⟨_, rfl⟩
 have HQ0' := HQ0.out
 have hbq : b < q := by omega
 rw [← hq] at HQ0' ⊢
 have HB0' := HB0.out
 generalize w.alloc (.cells #[.int .i64 kind, .int .i64 gen, .slice fa l.length fc] 33) = w0 at HB0' HQ0' ⊢
 have Hq := hid hq
 have HQ1 := hid HQ0'
 have HB1 := hid HB0'
 have hq0 := HQ0'.lt
 clear HQ0 HB0 HQ0' HB0' hq h86 h91
 have KE := hid (show ∀ w', Below w0.heap.size w0 w' → w'.cell? ⟨q, 0, none⟩ = some (.int .i64 kind) ∧ w'.cell? ⟨q, 1, none⟩ = some (.int .i64 gen) ∧ w'.cell? ⟨q, 2, none⟩ = some (.slice fa l.length fc) ∧ zAb w' b c from fun w' hb => ⟨(HQ1.out.below hb).cell 0, (HQ1.out.below hb).cell 1, (HQ1.out.below hb).cell 2, (H.out.below HB1.out).below hb⟩)
 have KC := hid (show ∀ w', zAb w' b c → w'.cell? ⟨b, 86, none⟩ = some c.call ∧ w'.cell? ⟨b, 87, none⟩ = some (.int .i64 c.left) ∧ w'.frozen? ⟨b, 86, none⟩ = false ∧ w'.frozen? ⟨b, 87, none⟩ = false from fun w' h => ⟨h.ft 2, h.ft 3, h.1.free 86, h.1.free 87⟩)
 have e0 : w0.cell? ⟨q, 0, none⟩ = some (.int .i64 kind) := HQ1.out.cell 0
 have e1 : w0.cell? ⟨q, 1, none⟩ = some (.int .i64 gen) := HQ1.out.cell 1
 have e2 : w0.cell? ⟨q, 2, none⟩ = some (.slice fa l.length fc) := HQ1.out.cell 2
 have HKA := hid (show ∀ w', Below w0.heap.size w0 w' → w'.cell? ⟨q, 0, none⟩ = some (.int .i64 kind) ∧ w'.cell? ⟨q, 1, none⟩ = some (.int .i64 gen) ∧ w'.cell? ⟨q, 2, none⟩ = some (.slice fa l.length fc) from fun w' hb => ⟨(KE.out w' hb).1, (KE.out w' hb).2.1, (KE.out w' hb).2.2.1⟩)
 have HKS := hid (show ∀ w', Below w0.heap.size w0 w' → ∀ v o, ((w'.setCell ⟨b, 86, none⟩ v).alloc o).cell? ⟨q, 0, none⟩ = some (.int .i64 kind) ∧ ((w'.setCell ⟨b, 86, none⟩ v).alloc o).cell? ⟨q, 1, none⟩ = some (.int .i64 gen) ∧ ((w'.setCell ⟨b, 86, none⟩ v).alloc o).cell? ⟨q, 2, none⟩ = some (.slice fa l.length fc) from fun w' hb v o => by
  have h := ((HQ1.out.below hb).set_other (a := ⟨b, 86, none⟩) (by simp; omega) v).alloc o
  exact ⟨h.cell 0, h.cell 1, h.cell 2⟩)
 have HKS2 := hid (show ∀ w', Below w0.heap.size w0 w' → ∀ v v2 o, (((w'.setCell ⟨b, 86, none⟩ v).setCell ⟨b, 87, none⟩ v2).alloc o).cell? ⟨q, 0, none⟩ = some (.int .i64 kind) ∧ (((w'.setCell ⟨b, 86, none⟩ v).setCell ⟨b, 87, none⟩ v2).alloc o).cell? ⟨q, 1, none⟩ = some (.int .i64 gen) ∧ (((w'.setCell ⟨b, 86, none⟩ v).setCell ⟨b, 87, none⟩ v2).alloc o).cell? ⟨q, 2, none⟩ = some (.slice fa l.length fc) from fun w' hb v v2 o => by
  have h := (((HQ1.out.below hb).set_other (a := ⟨b, 86, none⟩) (by simp; omega) v).set_other (a := ⟨b, 87, none⟩) (by simp; omega) v2).alloc o
  exact ⟨h.cell 0, h.cell 1, h.cell 2⟩)
 go_region_held3 (fun w' => w'.cell? ⟨q, 0, none⟩ = some (.int .i64 kind) ∧ w'.cell? ⟨q, 1, none⟩ = some (.int .i64 gen) ∧ w'.cell? ⟨q, 2, none⟩ = some (.slice fa l.length fc))
  (first | exact HKA.out _ (by assumption) | exact HKA.out _ (Below.refl _ _).drew | exact HKS.out _ (by assumption) _ _ | exact HKS2.out _ (by assumption) _ _ _ | go_keep)
  ((go_at_call 19; refine (HCl.out _ HB1.out.drew).mono ?_; rintro e w1 ⟨ad, cap, rfl, hown1, hbx⟩; have hb1 := zAd ((Below.refl _ w0).drew) hbx; obtain ⟨kc86, kc87, kf86, kf87⟩ := KC.out w1 (KE.out w1 hb1).2.2.2; have hs1 := hb1.size; have hbl1 : b < w1.heap.size := Nat.lt_of_lt_of_le (Nat.lt_trans hbq hq0) hs1; have hql1 : q < w1.heap.size := Nat.lt_of_lt_of_le hq0 hs1))
 have C1 := (KE.out w1 hb1).2.2.2
 have C2 : zAb (w1.setCell ⟨b, 86, none⟩ (.pointer (some ⟨w1.heap.size, 0, none⟩))) b { c with call := .pointer (some ⟨w1.heap.size, 0, none⟩) } := C1.setFt 2 _ _ rfl rfl rfl
 have C3 : zAb ((w1.setCell ⟨b, 86, none⟩ (.pointer (some ⟨w1.heap.size, 0, none⟩))).setCell ⟨b, 87, none⟩ (.int .i64 40)) b (c.asked (.pointer (some ⟨w1.heap.size, 0, none⟩))) := C2.setFt 3 _ _ rfl rfl rfl
 have C4 := C3.alloc (.cells #[.int .i64 kind, .int .i64 gen, .slice ad l.length cap] 33)
 have Q4 := (((HQ1.out.below hb1).set_other (a := ⟨b, 86, none⟩) (by simp; omega) (.pointer (some ⟨w1.heap.size, 0, none⟩))).set_other (a := ⟨b, 87, none⟩) (by simp; omega) (.int .i64 40)).alloc (.cells #[.int .i64 kind, .int .i64 gen, .slice ad l.length cap] 33)
 have T4 := (zAa (o := 87) (zAa (o := 86) (Touch.of_below (S := fun k => k = b) (zAd HB1.out hb1)) (.pointer (some ⟨w1.heap.size, 0, none⟩))) (.int .i64 40)).alloc (.cells #[.int .i64 kind, .int .i64 gen, .slice ad l.length cap] 33)
 have K4 : Blk (((w1.setCell ⟨b, 86, none⟩ (.pointer (some ⟨w1.heap.size, 0, none⟩))).setCell ⟨b, 87, none⟩ (.int .i64 40)).alloc (.cells #[.int .i64 kind, .int .i64 gen, .slice ad l.length cap] 33)) w1.heap.size [.int .i64 kind, .int .i64 gen, .slice ad l.length cap] 33 := by
  have hh := Blk.new ((w1.setCell ⟨b, 86, none⟩ (.pointer (some ⟨w1.heap.size, 0, none⟩))).setCell ⟨b, 87, none⟩ (.int .i64 40)) [.int .i64 kind, .int .i64 gen, .slice ad l.length cap] 33
  simpa using hh
 have R4 : (((w1.setCell ⟨b, 86, none⟩ (.pointer (some ⟨w1.heap.size, 0, none⟩))).setCell ⟨b, 87, none⟩ (.int .i64 40)).alloc (.cells #[.int .i64 kind, .int .i64 gen, .slice ad l.length cap] 33)).ownsRow 0 65 3 (.slice ad l.length cap) l.length (zAq l) :=
  zAj (zAB hown1 (Nat.zero_le _)) ((zAa (o := 87) (zAa (o := 86) (Touch.refl (fun k => k = b) w1) (.pointer (some ⟨w1.heap.size, 0, none⟩))) (.int .i64 40)).alloc (.cells #[.int .i64 kind, .int .i64 gen, .slice ad l.length cap] 33)) (fun g hg e => zAp hown1 C1.1 (by decide) (by rw [hg, e]))
 have hkw : w.heap.size ≤ w1.heap.size := by have := HB1.out.size; omega
 generalize hk : w1.heap.size = kk at C4 Q4 T4 K4 R4 hkw ⊢
 clear C2 C3 C1
 generalize ((w1.setCell ⟨b, 86, none⟩ (.pointer (some ⟨kk, 0, none⟩))).setCell ⟨b, 87, none⟩ (.int .i64 40)).alloc (.cells #[.int .i64 kind, .int .i64 gen, .slice ad l.length cap] 33) = w2 at C4 Q4 T4 K4 R4 ⊢
 have HC4 := hid C4
 have HQ4 := hid Q4
 have HT4 := hid T4
 have HK4 := hid K4
 have HR4 := hid R4
 have Hkw := hid hkw
 have q0 : w2.cell? ⟨q, 0, none⟩ = some (.int .i64 kind) := Q4.cell 0
 have q1 : w2.cell? ⟨q, 1, none⟩ = some (.int .i64 gen) := Q4.cell 1
 have q2 : w2.cell? ⟨q, 2, none⟩ = some (.slice fa l.length fc) := Q4.cell 2
 clear C4 Q4 T4 K4 R4 hkw hk kc86 kc87 kf86 kf87 hown1 hbx hb1 hs1 hbl1 hql1 HKS HKS2 HKA KE KC HCl e0 e1 e2 HQ1 HB1
 go_wp2_with fail
 refine (HR.out w2 HT4.out).mono ?_
 rintro e w3 ⟨rfl, hb3⟩
 have HC5 := hid (HC4.out.below hb3)
 have HT5 := hid (HT4.out.trans (Touch.of_below hb3))
 have HK5 := hid (HK4.out.below hb3)
 have HR5 := hid (zAc HR4.out hb3)
 clear HK4 HR4
 clear hb3 HC4 HT4 HQ4 q0 q1 q2
 by_cases hE : E = 0
 ·have hE2 : (E != 0) = false := by rw [hE]; rfl
  have HE := hid hE
  clear hE
  go_wp2_with fail
  go_ret
  exact ⟨rfl, Or.inl ⟨HE.out, HY.out HE.out _ kk ad cap Hkw.out HC5.out HT5.out HK5.out HR5.out⟩⟩
 ·have hE2 : (E != 0) = true := by rw [bne_iff_ne]; exact hE
  have HNn := hid (HN.out hE _ kk ad cap Hkw.out HC5.out HT5.out HK5.out HR5.out)
  have HE := hid hE
  clear hE HY HN
  go_wp2_with fail
  refine HNn.out.mono ?_
  rintro e w4 ⟨rfl, hq⟩
  have HQn := hid hq
  clear hq
  go_wp2_with fail
  go_ret
  exact ⟨rfl, Or.inr ⟨HE.out, HQn.out⟩⟩
def zBD (kind gen : Int) (fs : List TFile) : Int := if kind = 1 then zAy fs else if kind = 3 ∨ kind = 5 then (if gen < 0 then 2 else 0) else if kind = 2 ∨ kind = 4 ∨ kind = 6 then 0 else 1
def zBH (fs : List TFile) : Prop := fs.length ≤ 8 ∧ ∀ f ∈ fs, f.path.size ≤ 9223372036854775807 ∧ f.data.size ≤ 2000
theorem right_any (kind gen : Int) (ad : Option Addr) (cap : Nat) (fs : List TFile) (w : World) (h : TfsAt w ad fs) (hf : zBH fs) :
  Calls Tryz.prog 20 #[.agg #[.int .i64 kind, .int .i64 gen, .slice ad fs.length cap]] w fun e w' => e = .returned (.int .i64 (zBD kind gen fs)) ∧ Below w.heap.size w w' := by
 have hb0 := (Below.refl w.heap.size w).alloc (Nat.le_refl _) (.cells #[.int .i64 kind, .int .i64 gen, .slice ad fs.length cap] 33)
 by_cases h1 : kind = 1
 ·subst h1
  have hE := hid (show zBD 1 gen fs = zAy fs by unfold zBD; rw [if_pos rfl])
  have HI := hid (zFk ad cap fs (w.alloc (.cells #[.int .i64 1, .int .i64 gen, .slice ad fs.length cap] 33)) (h.below hb0) hf.1 hf.2)
  have Hb0 := hid hb0
  clear h hf hb0
  go_enter Tryz.func20, Tryz.ntmps20
  go_wp2_with fail
  refine HI.out.mono ?_
  rintro e w1 ⟨s, rfl, _, hb1⟩
  go_wp2_with fail
  go_ret
  exact ⟨zAk hE.out.symm, Hb0.out.trans (hb1.mono (by simp))⟩
 ·by_cases h35 : kind = 3 ∨ kind = 5
  ·by_cases hg : gen < 0
   ·have hE := hid (show zBD kind gen fs = 2 by unfold zBD; rw [if_neg h1, if_pos h35, if_pos hg])
    rcases h35 with h | h
    all_goals
     rw [h] at hE hb0 ⊢
     have Hb0 := hid hb0
     clear h h1 hb0
     go_enter Tryz.func20, Tryz.ntmps20
     go_wp2_with fail
     go_ret
     exact ⟨zAk hE.out.symm, Hb0.out⟩
   ·have hE := hid (show zBD kind gen fs = 0 by unfold zBD; rw [if_neg h1, if_pos h35, if_neg hg])
    rcases h35 with h | h
    all_goals
     rw [h] at hE hb0 ⊢
     have Hb0 := hid hb0
     clear h h1 hb0
     go_enter Tryz.func20, Tryz.ntmps20
     go_wp2_with fail
     go_ret
     exact ⟨zAk hE.out.symm, Hb0.out⟩
  ·by_cases h246 : kind = 2 ∨ kind = 4 ∨ kind = 6
   ·have hE := hid (show zBD kind gen fs = 0 by unfold zBD; rw [if_neg h1, if_neg h35, if_pos h246])
    rcases h246 with h | h | h
    all_goals
     rw [h] at hE hb0 ⊢
     have Hb0 := hid hb0
     clear h h1 h35 hb0
     go_enter Tryz.func20, Tryz.ntmps20
     go_wp2_with fail
     go_ret
     exact ⟨zAk hE.out.symm, Hb0.out⟩
   ·have hE := hid (show zBD kind gen fs = 1 by unfold zBD; rw [if_neg h1, if_neg h35, if_neg h246])
    have b1 : (kind == 1) = false := beq_eq_false_iff_ne.2 h1
    have b2 : (kind == 2) = false := beq_eq_false_iff_ne.2 (fun e => h246 (Or.inl e))
    have b3 : (kind == 3) = false := beq_eq_false_iff_ne.2 (fun e => h35 (Or.inl e))
    have b4 : (kind == 4) = false := beq_eq_false_iff_ne.2 (fun e => h246 (Or.inr (Or.inl e)))
    have b5 : (kind == 5) = false := beq_eq_false_iff_ne.2 (fun e => h35 (Or.inr e))
    have b6 : (kind == 6) = false := beq_eq_false_iff_ne.2 (fun e => h246 (Or.inr (Or.inr e)))
    have Hb0 := hid hb0
    clear h1 h35 h246 hb0
    go_enter Tryz.func20, Tryz.ntmps20
    go_wp2_with fail
    go_ret
    exact ⟨zAk hE.out.symm, Hb0.out⟩
theorem tfs_touch {x : Option Addr} {y : Nat} {l : List TFile} {S : CSt} (h : w.ownsRow base 65 3 (.slice x l.length y) l.length (zAq l)) (hC : zAb w b S) (ht : Touch (fun k => k = b) w w') : TfsAt w' x l :=
 zDs (zAj h ht (fun g hg e => zAp h hC.1 (by decide) (by rw [hg, e])))
theorem rightSays {x : Option Addr} {y : Nat} {l : List TFile} {S : CSt} (h : w.ownsRow base 65 3 (.slice x l.length y) l.length (zAq l)) (hC : zAb w b S) (hf : zBH l) :
  zHo b kind gen (.slice x l.length y) (zBD kind gen l) w := fun w1 ht => right_any kind gen x y l w1 (tfs_touch h hC ht) hf
theorem Gf.askGh {G : Gh} {D : Dt} {S : CSt} (h : Gf w0 c kb mb n id bal G Z D S w) (hc : D.cal = none) (ha : D.ans = none) (gk : Int) (gm : ByteArray) (VY : Int → Nat → Prop) : Gf w0 c kb mb n id bal { G with gk := gk, gm := gm, VY := VY } Z D S w :=
 { h with
  cli := fun J hJ hcl => absurd hc (h.cli J hJ hcl).1
  calB := fun C hC => by rw [hc] at hC; cases hC
  yesB := fun t ht => absurd hc (h.yesB t ht).2.2
  prnB := fun t ht => absurd hc (h.prnB t ht).2.1
  ansB := fun A hA => by rw [ha] at hA; cases hA
  mk1 := fun C hC => by rw [hc] at hC; cases hC }
theorem Gf.newCall {G : Gh} {D : Dt} {S : CSt} (h : Gf w0 c kb mb n id bal G Z D S w) (hc : D.cal = none) (ha : D.ans = none) (K : CalD) (hB : Blk w K.k [.int .i64 K.kd, .int .i64 K.kg, .slice K.ad K.fs.length K.cap] 33) (hR : w.ownsRow 0 65 3 (.slice K.ad K.fs.length K.cap) K.fs.length (zAq K.fs)) (hf : zBH K.fs) (hkd : K.kd = G.gk)
  (hmk : K.kd = 1 → zAy K.fs = 0 → G.gb → ba (imgT K.fs) ∈ D.Bk ∧ zAt D.Bk (ba (imgT K.fs)) = G.gm) : Gf w0 c kb mb n id bal G Z { D with cal := some K } { S with call := .pointer (some ⟨K.k, 0, none⟩), left := 40 } w :=
 { h with
  left := ⟨by show -(Z : Int) ≤ 40; omega, by show (40 : Int) ≤ 1000; omega⟩
  cli := fun J hJ hcl => absurd hc (h.cli J hJ hcl).1
  cal := rfl
  calB := fun C hC => by
   injection hC with hC
   subst hC
   exact ⟨hB, hR, hf.1, hf.2, hkd⟩
  yesB := fun t ht => absurd hc (h.yesB t ht).2.2
  prnB := fun t ht => absurd hc (h.prnB t ht).2.1
  one := Or.inr ha
  mk1 := fun C hC => by
   injection hC with hC
   subst hC
   exact hmk }
def KeepCl (w w' : World) : Prop := KeepT [78, 104] w w'
def AskS (w0 : World) (c kb mb n : Nat) (id bal : Int) (G : Gh) (Z : Nat) (kind gen : Int) (fs : List TFile) (w : World) (e : Ending) (w' : World) : Prop :=
 (∃ er : Int, er ≠ 0 ∧ e = .returned (.int .i64 er) ∧ Below w.heap.size w w') ∨
 (e = .returned (.int .i64 0) ∧ Fr w0 w w' ∧ KeepCl w w' ∧ ((∃ (D : Dt) (S : CSt) (K : CalD), D.cal = none ∧ D.ans = none ∧ K.kd = kind ∧ K.fs = fs ∧ zAb w' c { S with call := .pointer (some ⟨K.k, 0, none⟩), left := 40 } ∧ Gf w0 c kb mb n id bal G Z D S w' ∧ Blk w' K.k [.int .i64 K.kd, .int .i64 K.kg, .slice K.ad K.fs.length K.cap] 33 ∧ w'.ownsRow 0 65 3 (.slice K.ad K.fs.length K.cap) K.fs.length (zAq K.fs)) ∨ ((kind = 1 → zAy fs ≠ 0) ∧ Gs w0 c kb mb n id bal G Z w')))
theorem gc_ask {G : Gh} {D : Dt} {S : CSt} (h : Gc w0 c kb mb n id bal G Z D S w) (kind gen : Int) (fa : Option Addr) (fc : Nat) (fs : List TFile) (base : Nat) (hown : w.ownsRow base 65 3 (.slice fa fs.length fc) fs.length (zAq fs)) (hf : zBH fs) (gm : ByteArray) (VY : Int → Nat → Prop) :
  Calls Tryz.prog 9 #[.pointer (some ⟨c, 0, none⟩), .agg #[.int .i64 kind, .int .i64 gen, .slice fa fs.length fc]] w (AskS w0 c kb mb n id bal { G with gk := kind, gm := gm, VY := VY } Z kind gen fs w) := by
 have hn1 := h.gf.n1
 have hnS : 1 ≤ S.n := by rw [h.gf.n_]; omega
 by_cases hno : S.phase = 0 ∨ D.cal ≠ none ∨ D.ans ≠ none
 ·suffices hX : Calls Tryz.prog 9 #[.pointer (some ⟨c, 0, none⟩), .agg #[.int .i64 kind, .int .i64 gen, .slice fa fs.length fc]] w (fun e w' => ∃ er : Int, er ≠ 0 ∧ e = .returned (.int .i64 er) ∧ Below w.heap.size w w') from hX.mono (fun e w' h => Or.inl h)
  have H0 := hid h
  have c4 : w.cell? ⟨c, 4, none⟩ = some (.int .i64 S.phase) := h.at_.hd 4 (by omega)
  have c86 : w.cell? ⟨c, 86, none⟩ = some S.call := h.at_.ft 2
  have c91 : w.cell? ⟨c, 91, none⟩ = some S.answer := h.at_.ft 7
  have hbl := h.at_.1.lt
  have HB0 := hid ((Below.refl w.heap.size w).alloc (Nat.le_refl _) (.cells #[.int .i64 kind, .int .i64 gen, .slice fa fs.length fc] 33))
  have HN := hid (zAh c S _ (h.at_.alloc (.cells #[.int .i64 kind, .int .i64 gen, .slice fa fs.length fc] 33)) hnS)
  by_cases h1 : S.phase = 0
  ·rw [h1] at c4
   clear h hno h1
   go_enter Tryz.func9, Tryz.ntmps9
   go_wp2_with fail
   refine HN.out.mono ?_
   rintro e wx ⟨rfl, rfl⟩
   go_wp2_with fail
   go_ret
   exact ⟨_, by decide, rfl, HB0.out⟩
  ·have h1b : (S.phase == 0) = false := by rw [beq_eq_false_iff_ne]; exact h1
   cases hc : D.cal with
   | some K =>
    rw [show S.call = .pointer (some ⟨K.k, 0, none⟩) by rw [h.gf.cal, hc]; rfl] at c86
    clear h hno h1
    go_enter Tryz.func9, Tryz.ntmps9
    go_wp2_with fail
    refine HN.out.mono ?_
    rintro e wx ⟨rfl, rfl⟩
    go_wp2_with fail
    go_ret
    exact ⟨_, by decide, rfl, HB0.out⟩
   | none =>
    cases ha : D.ans with
    | none => exact absurd hno (by rw [hc, ha]; simp [h1])
    | some A =>
     rw [show S.call = .pointer none by rw [h.gf.cal, hc]; rfl] at c86
     rw [show S.answer = .pointer (some ⟨A.a, 0, none⟩) by rw [h.gf.ans, ha]; rfl] at c91
     clear h hno h1
     go_enter Tryz.func9, Tryz.ntmps9
     go_wp2_with fail
     refine HN.out.mono ?_
     rintro e wx ⟨rfl, rfl⟩
     go_wp2_with fail
     go_ret
     exact ⟨_, by decide, rfl, HB0.out⟩
 ·have hc : D.cal = none := Classical.byContradiction (fun e => hno (Or.inr (Or.inl e)))
  have ha : D.ans = none := Classical.byContradiction (fun e => hno (Or.inr (Or.inr e)))
  have hp : (S.phase == 0) = false := by rw [beq_eq_false_iff_ne]; exact fun e => hno (Or.inl e)
  have hl8 : fs.length ≤ 8 := hf.1
  refine (ask_gen c S kind gen (.slice fa fs.length fc) fs base (zBD kind gen fs) w
   (fun w' => (Fr w0 w w' ∧ KeepCl w w') ∧ ∃ (D : Dt) (S : CSt) (K : CalD), D.cal = none ∧ D.ans = none ∧ K.kd = kind ∧ K.fs = fs ∧ zAb w' c { S with call := .pointer (some ⟨K.k, 0, none⟩), left := 40 } ∧ Gf w0 c kb mb n id bal { G with gk := kind, gm := gm, VY := VY } Z D S w' ∧ Blk w' K.k [.int .i64 K.kd, .int .i64 K.kg, .slice K.ad K.fs.length K.cap] 33 ∧ w'.ownsRow 0 65 3 (.slice K.ad K.fs.length K.cap) K.fs.length (zAq K.fs))
   (fun w' => (Fr w0 w w' ∧ KeepCl w w') ∧ Gs w0 c kb mb n id bal { G with gk := kind, gm := gm, VY := VY } Z w')
   h.at_ hnS hp (by rw [h.gf.cal, hc]; rfl) (by rw [h.gf.ans, ha]; rfl) hown (by omega) (rightSays hown h.at_ hf) ?_ ?_).mono ?_
  ·intro _ w' k ad cap hk hC hT hB hR
   obtain ⟨g1, f1⟩ := h.gf.coord h.at_ hT
   exact ⟨⟨f1, (zCO h.at_ hT).1.mono (by decide)⟩, D, S, ⟨k, kind, gen, ad, cap, fs⟩, hc, ha, rfl, rfl, hC, g1.askGh hc ha kind gm VY, hB, hR⟩
  ·intro hE w' k ad cap hk hC hT hB hR
   obtain ⟨g1, f1⟩ := h.gf.coord h.at_ hT
   have g2 := (g1.askGh hc ha kind gm VY).newCall hc ha ⟨k, kind, gen, ad, cap, fs⟩ hB hR hf rfl (fun h1 h2 _ => absurd (show zBD kind gen fs = 0 by
    have h1 : kind = 1 := h1
    unfold zBD; rw [if_pos h1]; exact h2) hE)
   exact (zDR ⟨hC, g2⟩ _ 0 0 none none 0 0 0 0 (fun e => absurd e hE)).mono (fun x w2 ⟨x1, ⟨D', S', x2, _⟩, x3, x4⟩ => ⟨x1, ⟨f1.trans x3, ((zCO h.at_ hT).1.mono (by decide)).trans x4⟩, ⟨D', S', x2⟩⟩)
  ·rintro e w' ⟨rfl, ⟨_, h1, h2⟩ | ⟨hE, h1, h2⟩⟩
   ·exact Or.inr ⟨rfl, h1.1, h1.2, Or.inl h2⟩
   ·exact Or.inr ⟨rfl, h1.1, h1.2, Or.inr ⟨fun hk hc => hE (by unfold zBD; rw [if_pos hk]; exact hc), h2⟩⟩
theorem Gf.noAns {G : Gh} {D : Dt} {S : CSt} (h : Gf w0 c kb mb n id bal G Z D S w) : Gf w0 c kb mb n id bal G Z { D with ans := none } { S with answer := .pointer none } w :=
 { h with
  ans := rfl
  ansB := fun A hA => by cases hA
  one := Or.inr rfl }
def TakeS (w0 : World) (c kb mb n : Nat) (id bal : Int) (G : Gh) (Z : Nat) (w : World) (x : Ending) (w' : World) : Prop :=
 Gs w0 c kb mb n id bal G Z w' ∧ Fr w0 w w' ∧ (x = .returned zCk ∨ ∃ (e g f : Int) (fa ma : Option Addr) (fl fc ml mc : Nat), x = .returned (.tuple #[.agg #[.int .i64 e, .int .i64 g, .int .i64 f, .slice fa fl fc, .slice ma ml mc], .bool true]) ∧ (e = 0 → (G.gk = 1 → G.gb → Maj n (G.VA g G.gm)) ∧ (G.gk ≠ 1 → ∃ r, Maj n (G.VY r))))
theorem gc_take {G : Gh} {D : Dt} {S : CSt} (h : Gc w0 c kb mb n id bal G Z D S w) :
  Calls Tryz.prog 13 #[.pointer (some ⟨c, 0, none⟩)] w (TakeS w0 c kb mb n id bal G Z w) := by
 have hn1 := h.gf.n1
 have hnS : 1 ≤ S.n := by rw [h.gf.n_]; omega
 cases ha : D.ans with
 | none =>
  refine (take_none c S w h.at_ hnS (by rw [h.gf.ans, ha]; rfl)).mono ?_
  rintro x w' ⟨rfl, hb⟩
  exact ⟨⟨D, S, h.quiet hb⟩, Fr.of_below hb, Or.inl rfl⟩
 | some A =>
  obtain ⟨a1, a2⟩ := h.gf.ansB A ha
  refine (take_some c A.a S A.e A.g A.f A.fa A.ma A.fl A.fc A.ml A.mc w h.at_ hnS (by rw [h.gf.ans, ha]; rfl) a1).mono ?_
  rintro x w' ⟨rfl, hC, hT⟩
  obtain ⟨g1, f1⟩ := h.gf.coord h.at_ hT
  exact ⟨⟨_, _, hC, g1.noAns⟩, f1, Or.inr ⟨A.e, A.g, A.f, A.fa, A.ma, A.fl, A.fc, A.ml, A.mc, rfl, a2⟩⟩
end Go.Proofs.YtaemlplcjjbamaaGreatDoor
