/- The walk of the statement's few: a call with a tree of at mo -/
import Derived.Test.YtaemlplcjjbamaaGreatDoorBOpenGops
namespace Go.Proofs.YtaemlplcjjbamaaGreatDoor
open Go.Lib (hid)
set_option maxRecDepth 100000
set_option maxHeartbeats 8000000
open Go Go.RowKit
set_option linter.unusedVariables false
variable {T : TypeId} {cs : List Value} {q : Nat} {w : World}
def zAZ (fs : List TFile) (k : Nat) : List Value := zAq ((fs.take k).map fewF)
theorem zGD (fs : List TFile) (k : Nat) (h : k < fs.length) : zAZ fs (k + 1) = zAZ fs k ++ tfV (fewF fs[k]) := by
 unfold zAZ
 rw [List.take_succ_eq_append_getElem h, List.map_append, zFs]
 simp [zAq]
theorem fewCells_8 (fs : List TFile) : zAZ fs (min fs.length 8) = zAq (fewL fs) := by
 unfold zAZ fewL
 by_cases h : fs.length ≤ 8
 ·rw [Nat.min_eq_left h, List.take_length, List.take_of_length_le h]
 ·rw [Nat.min_eq_right (by omega)]
theorem zGA (fs : List TFile) : (fewL fs).length = min fs.length 8 := by unfold fewL; rw [List.length_map, List.length_take]; omega
theorem zGF {fs : List TFile} (h : ∀ f ∈ fs, f.path.size ≤ maxLen ∧ f.data.size ≤ maxLen) : ∀ f ∈ fewL fs, f.path.size ≤ maxLen ∧ f.data.size ≤ 2000 := by
 intro f hf
 obtain ⟨g, hg, rfl⟩ := List.mem_map.1 hf
 have := h g (List.mem_of_mem_take hg)
 unfold fewF
 split
 ·exact ⟨this.1, by simp; omega⟩
 ·exact ⟨this.1, by omega⟩
theorem few_any (kind gen : Int) (ad : Option Addr) (cap : Nat) (fs : List TFile) (w : World) (h : TfsAt w ad fs) (hl : fs.length ≤ maxLen) :
  Calls Tryz.prog 8 #[.agg #[.int .i64 kind, .int .i64 gen, .slice ad fs.length cap]] w fun e w' => ∃ x y, e = .returned (.agg #[.int .i64 kind, .int .i64 gen, .slice x (fewL fs).length y]) ∧ w'.ownsRow w.heap.size 65 3 (.slice x (fewL fs).length y) (fewL fs).length (zAq (fewL fs)) ∧ Below w.heap.size w w' := by
 unfold maxLen at hl
 have hb0 := ((Below.refl w.heap.size w).alloc (Nat.le_refl _) (.cells #[.int .i64 kind, .int .i64 gen, .slice ad fs.length cap] 33)).alloc (by simp) (.cells #[.int .i64 0, .int .i64 0, .slice none 0 0] 33)
 have H := hid h
 have Q1 := (Blk.new w [.int .i64 kind, .int .i64 gen, .slice ad fs.length cap] 33).alloc (.cells #[.int .i64 0, .int .i64 0, .slice none 0 0] 33)
 have Q2 := Blk.new (w.alloc (.cells #[.int .i64 kind, .int .i64 gen, .slice ad fs.length cap] 33)) [.int .i64 0, .int .i64 0, .slice none 0 0] 33
 rw [show (w.alloc (.cells #[.int .i64 kind, .int .i64 gen, .slice ad fs.length cap] 33)).heap.size = w.heap.size + 1 by simp] at Q2
 have HB0 := hid hb0
 have HQ1 := hid Q1
 have HQ2 := hid Q2
 clear h hb0 Q1 Q2
 go_enter Tryz.func8, Tryz.ntmps8
 go_wp2_with fail
 have Q1 := HQ1.out
 have Q2 := HQ2.out
 have B0 := HB0.out
 generalize (w.alloc (.cells #[.int .i64 kind, .int .i64 gen, .slice ad fs.length cap] 33)).alloc (.cells #[.int .i64 0, .int .i64 0, .slice none 0 0] 33) = w0 at Q1 Q2 B0 ⊢
 obtain ⟨q, hq⟩ : ∃ q, q = w.heap.size := ⟨_, rfl⟩
 rw [← hq] at Q1 Q2 ⊢
 have Hq := hid hq
 have HQ1' := hid Q1
 have HQ2' := hid Q2
 have HB0' := hid B0
 have HT0 := hid (H.out.below B0)
 clear HQ1 HQ2 HB0 Q1 Q2 B0 hq H
 go_loopw [3, 4, 5] (fun v i _ wr => ∃ k : Nat, i = .int .i64 k ∧ k ≤ fs.length ∧ k ≤ 8 ∧ Hid (wr.ownsRow w0.heap.size 65 3 v k (zAZ fs k)) ∧ Below w0.heap.size w0 wr) (fun _ i _ _ => 8 - (intOf i).toNat)
 case atStart => exact ⟨0, rfl, Nat.zero_le _, by omega, hid (World.ownsRow_nil _ _ _ _), Below.refl _ _⟩
 case round =>
  obtain ⟨k, rfl, hk, hk8, Hown, hbr⟩ := hrel
  have q2 : wr.cell? ⟨q, 2, none⟩ = some (.slice ad fs.length cap) := (HQ1'.out.below hbr).cell 2
  by_cases hlt : k < fs.length ∧ k < 8
  ·obtain ⟨hlt1, hlt2⟩ := hlt
   obtain ⟨b, off, rfl, hb, c0, c1, c2⟩ := (HT0.out.below hbr).get k hlt1
   have hsn := hid (zGD fs k hlt1)
   have hsz := hbr.size
   by_cases hd : 2000 < fs[k].data.size
   ·have hsn2 := hid (show zAZ fs (k + 1) = zAZ fs k ++ [.string fs[k].path, .int .i64 fs[k].mode, .string (fs[k].data.extract 0 2000)] by
     rw [hsn.out]; unfold fewF; rw [if_pos hd]; rfl)
    generalize fs[k].path = p at c0 hsn2
    generalize fs[k].mode = m at c1 hsn2
    generalize fs[k].data = d at c2 hsn2 hd
    have hown := zAc Hown.out ((Below.refl wr.heap.size wr).alloc (Nat.le_refl _) (.cells #[.string p, .int .i64 m, .string (d.extract 0 2000)] 65))
    have hbA := hbr.alloc hbr.size (.cells #[.string p, .int .i64 m, .string (d.extract 0 2000)] 65)
    clear hsn
    go_wp2_with (at_builtin; refine zAH rfl _ _ 31 rfl w0.heap.size 65 3 40 Tryz.underlying31 _ zDz rfl (by decide) _ _ _ rfl hown _ ?c0 [.string p, .int .i64 m, .string (d.extract 0 2000)] rfl rfl (by simp [Value.oneCell']) ?c1 ?c2 ?c3 ?_)
    case c0 => simp
    case c1 => unfold maxLen; omega
    case c2 => omega
    case c3 => simp; omega
    intro v' w3 hown3 hb3
    have Hown3 := hid (show w3.ownsRow w0.heap.size 65 3 v' (k + 1) (zAZ fs (k + 1)) by rw [hsn2.out]; exact hown3)
    clear hown3 hown
    go_wp2_with fail
    go_roundw
    case rel => exact ⟨k + 1, by go_num, by omega, by omega, Hown3, hbA.trans hb3⟩
    case measure => simp [intOf]; omega
   ·have hsn2 := hid (show zAZ fs (k + 1) = zAZ fs k ++ [.string fs[k].path, .int .i64 fs[k].mode, .string fs[k].data] by
     rw [hsn.out]; unfold fewF; rw [if_neg hd]; rfl)
    generalize fs[k].path = p at c0 hsn2
    generalize fs[k].mode = m at c1 hsn2
    generalize fs[k].data = d at c2 hsn2 hd
    have hown := zAc Hown.out ((Below.refl wr.heap.size wr).alloc (Nat.le_refl _) (.cells #[.string p, .int .i64 m, .string d] 65))
    have hbA := hbr.alloc hbr.size (.cells #[.string p, .int .i64 m, .string d] 65)
    clear hsn
    go_wp2_with (at_builtin; refine zAH rfl _ _ 31 rfl w0.heap.size 65 3 40 Tryz.underlying31 _ zDz rfl (by decide) _ _ _ rfl hown _ ?c0 [.string p, .int .i64 m, .string d] rfl rfl (by simp [Value.oneCell']) ?c1 ?c2 ?c3 ?_)
    case c0 => simp
    case c1 => unfold maxLen; omega
    case c2 => omega
    case c3 => simp; omega
    intro v' w3 hown3 hb3
    have Hown3 := hid (show w3.ownsRow w0.heap.size 65 3 v' (k + 1) (zAZ fs (k + 1)) by rw [hsn2.out]; exact hown3)
    clear hown3 hown
    go_wp2_with fail
    go_roundw
    case rel => exact ⟨k + 1, by go_num, by omega, by omega, Hown3, hbA.trans hb3⟩
    case measure => simp [intOf]; omega
  ·have hmin : k = min fs.length 8 := by omega
   have hown := Hown.out
   rw [hmin, fewCells_8, ← zGA] at hown
   obtain ⟨x, y, hv⟩ := zAe hown
   subst hv
   have Hown2 := hid hown
   have c0 : wr.cell? ⟨q, 0, none⟩ = some (.int .i64 kind) := (HQ1'.out.below hbr).cell 0
   have c1 : wr.cell? ⟨q, 1, none⟩ = some (.int .i64 gen) := (HQ1'.out.below hbr).cell 1
   have d0 : wr.cell? ⟨q + 1, 0, none⟩ = some (.int .i64 0) := (HQ2'.out.below hbr).cell 0
   have d1 : wr.cell? ⟨q + 1, 1, none⟩ = some (.int .i64 0) := (HQ2'.out.below hbr).cell 1
   have d2 : wr.cell? ⟨q + 1, 2, none⟩ = some (.slice none 0 0) := (HQ2'.out.below hbr).cell 2
   have fq : wr.frozen? ⟨q, 2, none⟩ = false := (HQ1'.out.below hbr).free 2
   have f0 : wr.frozen? ⟨q + 1, 0, none⟩ = false := (HQ2'.out.below hbr).free 0
   have f1 : wr.frozen? ⟨q + 1, 1, none⟩ = false := (HQ2'.out.below hbr).free 1
   have f2 : wr.frozen? ⟨q + 1, 2, none⟩ = false := (HQ2'.out.below hbr).free 2
   clear Hown hown hmin hk hk8
   have hbw : Below w.heap.size w wr := HB0'.out.trans (hbr.mono HB0'.out.size)
   have hbf : Below w.heap.size w ((((wr.setCell ⟨q, 2, none⟩ (.slice x (fewL fs).length y)).setCell ⟨q + 1, 0, none⟩ (.int .i64 kind)).setCell ⟨q + 1, 1, none⟩ (.int .i64 gen)).setCell ⟨q + 1, 2, none⟩ (.slice x (fewL fs).length y)) := by
    have e := Hq.out
    exact (((hbw.setCell (p := ⟨q, 2, none⟩) (by simp; omega) _).setCell (p := ⟨q + 1, 0, none⟩) (by simp; omega) _).setCell (p := ⟨q + 1, 1, none⟩) (by simp; omega) _).setCell (p := ⟨q + 1, 2, none⟩) (by simp; omega) _
   have hql : q + 1 < w0.heap.size := HQ2'.out.lt
   have hTo : Touch (fun k => k = q ∨ k = q + 1) wr ((((wr.setCell ⟨q, 2, none⟩ (.slice x (fewL fs).length y)).setCell ⟨q + 1, 0, none⟩ (.int .i64 kind)).setCell ⟨q + 1, 1, none⟩ (.int .i64 gen)).setCell ⟨q + 1, 2, none⟩ (.slice x (fewL fs).length y)) :=
    ((((Touch.refl _ wr).set (p := ⟨q, 2, none⟩) (Or.inl (Or.inl rfl)) _).set (p := ⟨q + 1, 0, none⟩) (Or.inl (Or.inr rfl)) _).set (p := ⟨q + 1, 1, none⟩) (Or.inl (Or.inr rfl)) _).set (p := ⟨q + 1, 2, none⟩) (Or.inl (Or.inr rfl)) _
   have hrow := zAB (zAj Hown2.out hTo (fun g hg hS => by
    have := (zCe Hown2.out hg).1
    rcases hS with h | h <;> omega)) HB0'.out.size
   have HF := hid (And.intro hrow hbf)
   clear hrow hbf hTo hbw
   go_wp2_with fail
   all_goals
    refine bodyPost_ret (v := .agg #[.int .i64 kind, .int .i64 gen, .slice x (fewL fs).length y]) ?_ rfl ⟨x, y, rfl, HF.out.1, HF.out.2⟩
    simp [results, Tryz.results8, go_sem, d0, d1, d2]
theorem Blk.range (h : Blk w q cs T) : w.rangeAt q 0 cs := fun j v hv => by
 rw [Nat.zero_add]
 have hj : j < cs.length := (List.getElem?_eq_some_iff.1 hv).1
 rw [← hv]
 exact h.cell j
theorem Blk.there (h : Blk w q cs T) : w.there q 0 cs.length := fun j hj => by
 rw [Nat.zero_add]
 exact ⟨by rw [h.cell j, List.getElem?_eq_getElem hj]; rfl, h.free j⟩
theorem Blk.setFrom {q : Nat} {T : TypeId} : ∀ (vs : List Value) (pre post : List Value) (w : World), post.length = vs.length → Blk w q (pre ++ post) T → Blk (w.setCells q pre.length vs) q (pre ++ vs) T
 | [], pre, post, w, hl, h => by
  have : post = [] := List.length_eq_zero_iff.1 hl
  subst this
  exact h
 | v :: vs, pre, [], w, hl, h => by cases hl
 | v :: vs, pre, p :: post, w, hl, h => by
  have h1 := h.set pre.length v
  have e : (pre ++ p :: post).set pre.length v = (pre ++ [v]) ++ post := by simp
  rw [e] at h1
  have h2 := Blk.setFrom vs (pre ++ [v]) post _ (by simpa using hl) h1
  rw [List.length_append] at h2
  show Blk ((w.setCell ⟨q, pre.length, none⟩ v).setCells q (pre.length + 1) vs) q (pre ++ v :: vs) T
  simpa using h2
theorem Blk.setAll (h : Blk w q cs T) (vs : List Value) (hl : cs.length = vs.length) : Blk (w.setCells q 0 vs) q vs T := Blk.setFrom vs [] cs w hl h
theorem below_setCells {n : Nat} {w : World} {q : Nat} : ∀ {w' : World} (_ : Below n w w') (_ : n ≤ q) (o : Nat) (vs : List Value), Below n w (w'.setCells q o vs)
 | _, h, _, _, [] => h
 | _, h, hq, o, v :: vs => below_setCells (h.setCell (p := ⟨q, o, none⟩) hq v) hq (o + 1) vs
end Go.Proofs.YtaemlplcjjbamaaGreatDoor
