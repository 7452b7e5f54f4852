/- (*delta.maker).copy: bytes of the basis as a step, joined to -/
import Derived.Test.YtaemlplcjjbamaaGreatDoorBDeltaPlain
import Derived.Test.YtaemlplcjjbamaaGreatDoorBSign2
set_option maxRecDepth 100000
set_option maxHeartbeats 8000000
namespace Go.Proofs.YtaemlplcjjbamaaGreatDoor
open Go.Lib (hid)
open Go Go.RowKit
set_option linter.unusedVariables false
def stpV (x : Stp) : List Value := [.int .i64 x.at_, .int .i64 x.len, .string (ba x.text)]
def stpsV (l : List Stp) : List Value := l.flatMap stpV
theorem zBJ (l : List Stp) (x : Stp) : stpsV (l ++ [x]) = stpsV l ++ [.int .i64 x.at_, .int .i64 x.len, .string (ba x.text)] := by unfold stpsV; rw [List.flatMap_append]; simp [stpV]
theorem zEe (l : List Stp) : (stpsV l).length = l.length * 3 := by
 unfold stpsV
 induction l with
 | nil => rfl
 | cons x l ih => rw [List.flatMap_cons, List.length_append, ih, List.length_cons]; show 3 + _ = _; omega
theorem zDI : (Tryz.prog.info? 221).map (fun i => (i.zero, i.size, i.bytes)) = some (some (.agg #[.int .i64 0, .int .i64 0, .string ByteArray.empty]), 3, 32) := by kernel_rfl
structure MkAt (q : Nat) (l : List Stp) (t : List UInt8) (w : World) : Prop where
 ex : ∃ sv tv, Blk w q [sv, tv] 246 ∧ w.ownsRow q 221 3 sv l.length (stpsV l) ∧ TxAt w q tv t
def KeepM (w w' : World) : Prop := ∀ k cs T, T ≠ 5 → T ≠ 221 → T ≠ 246 → Blk w k cs T → Blk w' k cs T
theorem KeepM.refl (w : World) : KeepM w w := fun _ _ _ _ _ _ h => h
theorem KeepM.trans {w1 w2 w3 : World} (h : KeepM w1 w2) (h' : KeepM w2 w3) : KeepM w1 w3 := fun k cs T h1 h2 h3 h4 => h' k cs T h1 h2 h3 (h k cs T h1 h2 h3 h4)
theorem KeepM.of_touch {S : Nat → Prop} {w w' : World} (h : Touch S w w') (hS : ∀ k cs T, T ≠ 5 → T ≠ 221 → T ≠ 246 → Blk w k cs T → ¬ S k) : KeepM w w' := fun k cs T h1 h2 h3 h4 => h4.touch h (hS k cs T h1 h2 h3 h4)
theorem KeepM.of_below {w w' : World} (h : Below w.heap.size w w') : KeepM w w' := fun _ _ _ _ _ _ hb => hb.below h
theorem MkAt.lt {q : Nat} {l : List Stp} {t : List UInt8} {w : World} (h : MkAt q l t w) : q < w.heap.size := by
 obtain ⟨sv, tv, h1, _⟩ := h.ex
 exact h1.lt
theorem MkAt.touch {T : Nat → Prop} {q : Nat} {l : List Stp} {t : List UInt8} {w w' : World} (h : MkAt q l t w) (ht : Touch T w w') (hT : ∀ k, T k → k < q) : MkAt q l t w' := by
 obtain ⟨sv, tv, h1, h2, h3⟩ := h.ex
 exact ⟨sv, tv, h1.touch ht (fun e => Nat.lt_irrefl _ (hT q e)), zAj h2 ht (fun g hg e => Nat.not_lt.2 (h2.lt g hg).1 (hT g e)), h3.touch ht (fun g hg e => Nat.not_lt.2 (h3.lt g hg).1 (hT g e))⟩
theorem MkAt.touch_roll {r : Nat} {cs : List Value} {q : Nat} {l : List Stp} {t : List UInt8} {w w' : World} (h : MkAt q l t w) (hr : Blk w r cs 265) (ht : Touch (fun k => k = r) w w') : MkAt q l t w' := by
 obtain ⟨sv, tv, h1, h2, h3⟩ := h.ex
 exact ⟨sv, tv, h1.touch ht (fun e => h1.ne hr (by decide) e), zAj h2 ht (fun g hg e => zAp h2 hr (by decide) (by rw [hg, e])), h3.touch ht (fun g hg e => h3.ne hr (by decide) (by rw [hg, e]))⟩
theorem MkAt.below {q : Nat} {l : List Stp} {t : List UInt8} {w w' : World} (h : MkAt q l t w) (hb : Below w.heap.size w w') : MkAt q l t w' := h.touch (T := fun _ => False) (Touch.of_below hb) (fun k e => e.elim)
def txLen (q : Nat) (w : World) : Nat := match w.cell? ⟨q, 1, none⟩ with | some (.slice _ n _) => n | _ => 0
theorem zCh.nil : zCh [] [] := ⟨fun x hx => (by cases hx), rfl⟩
theorem zCh.snoc {d : List UInt8} {cs : List Stp} (h : zCh d cs) {p : List UInt8} (h0 : 0 < p.length) (h1 : p.length ≤ 4096) : zCh (d ++ p) (cs ++ [⟨0, 0, p⟩]) := by
 obtain ⟨h2, h3⟩ := h
 refine ⟨fun x hx => ?_, by rw [List.flatMap_append, h3]; simp⟩
 rcases List.mem_append.1 hx with e | e
 ·exact h2 x e
 ·rw [List.mem_singleton.1 e]
  exact ⟨rfl, rfl, fun e => by rw [show p = [] from e] at h0; exact absurd h0 (Nat.lt_irrefl _), h1⟩
theorem TxAt.full {w : World} {base : Nat} {v : Value} {L : List UInt8} (h : TxAt w base v L) (h0 : 0 < L.length) : ∃ g off cap, v = .slice (some ⟨g, off, none⟩) L.length cap ∧ L.length ≤ cap := by
 obtain ⟨ad, cap, rfl, h1, h2, ⟨rfl, h3⟩ | ⟨g, off, cs, rfl, hb, hB, h4, h5⟩⟩ := h
 ·omega
 ·exact ⟨g, off, cap, rfl, h1⟩
theorem MkAt.set_text {q : Nat} {l : List Stp} {t' : List UInt8} {w : World} {sv tv tv' : Value} (hB : Blk w q [sv, tv] 246) (hs : w.ownsRow q 221 3 sv l.length (stpsV l)) (htx : TxAt w q tv' t') :
  MkAt q l t' (w.setCell ⟨q, 1, none⟩ tv') ∧ txLen q (w.setCell ⟨q, 1, none⟩ tv') = t'.length ∧ Touch (fun k => k = q) w (w.setCell ⟨q, 1, none⟩ tv') := by
 have ht := zAA (Touch.refl (fun k => k = q) w) (o := 1) tv'
 have hb2 : Blk (w.setCell ⟨q, 1, none⟩ tv') q [sv, tv'] 246 := hB.set 1 tv'
 refine ⟨⟨sv, tv', hb2, zAj hs ht (fun g hg e => zAp hs hB (by decide) (by rw [hg, e])), htx.touch ht (fun g hg e => htx.ne hB (by decide) (by rw [hg, e]))⟩, ?_, ht⟩
 obtain ⟨ad, cap, rfl, _⟩ := htx.shape
 unfold txLen
 rw [hb2.cell 1]
 rfl
theorem KeepM.of_maker {q : Nat} {w w' : World} {cs : List Value} (hB : Blk w q cs 246) (ht : Touch (fun k => k = q) w w') : KeepM w w' := KeepM.of_touch ht (fun k cs T h1 h2 h3 h4 e => hB.ne h4 (Ne.symm h3) e.symm)
theorem TxAt.cut_at {w : World} {base g off cap : Nat} {L : List UInt8} (h : TxAt w base (.slice (some ⟨g, off, none⟩) L.length cap) L) (n : Nat) (hn : n ≤ L.length) : TxAt w base (.slice (if cap = n then some ⟨g, off, none⟩ else some ⟨g, off + n, none⟩) (L.length - n) (cap - n)) (L.drop n) := by
 have := h.cut n hn
 have e : (⟨g, off, none⟩ : Addr).add n = ⟨g, off + n, none⟩ := by unfold Addr.add; split <;> simp_all
 rw [Option.map_some, e] at this
 exact this
def FlushSays (q : Nat) (l : List Stp) (t : List UInt8) (w : World) (e : Ending) (w' : World) : Prop := e = .returned (.tuple #[]) ∧ ∃ cs, zCh t cs ∧ cs.length ≤ t.length ∧ MkAt q (l ++ cs) [] w' ∧ Below q w w' ∧ KeepM w w'
theorem zEW (q : Nat) (l : List Stp) (t : List UInt8) (w : World) (h : MkAt q l t w) (hl : l.length ≤ 1048576) (ht : t.length ≤ 1048576) :
  Calls Tryz.prog 197 #[.pointer (some ⟨q, 0, none⟩)] w (FlushSays q l t w) := by
 have H := hid h
 have Hl := hid hl
 have Htl := hid ht
 clear h hl ht
 go_enter Tryz.func197, Tryz.ntmps197
 go_upto_region 0 with fail
 go_loopw [] (fun wr => ∃ (cs : List Stp) (d r : List UInt8), Hid (d ++ r = t) ∧ Hid (zCh d cs) ∧ Hid (cs.length ≤ d.length) ∧ Hid (MkAt q (l ++ cs) r wr) ∧ Hid (Below q w wr) ∧ Hid (KeepM w wr)) (fun wr => txLen q wr)
 case atStart => exact ⟨[], [], t, hid rfl, hid zCh.nil, hid (Nat.le_refl _), hid (by rw [List.append_nil]; exact H.out), hid (Below.refl _ _), hid (KeepM.refl _)⟩
 case round =>
  obtain ⟨cs, d, r, HD, HC, HN, HM, HB, HK⟩ := hrel
  have hmx := HM.out
  obtain ⟨sv, tv, hb, hs, htx⟩ := hmx.ex
  clear hmx
  have HBk := hid hb
  have HS := hid hs
  have HT := hid htx
  have hq0 := hb.cell 0
  have hq1 := hb.cell 1
  have hf0 := hb.free 0
  have hf1 := hb.free 1
  have hql := hb.lt
  simp only [List.getElem?_cons_zero, List.getElem?_cons_succ] at hq0 hq1
  have hdl := HD.out
  have hdr : d.length + r.length = t.length := by rw [← hdl, List.length_append]
  have Htx := hid (show txLen q wr = r.length by
   obtain ⟨ad, cap, rfl, _⟩ := htx.shape
   unfold txLen
   rw [hq1])
  clear hdl
  by_cases hr : 0 < r.length
  ·obtain ⟨g, off, cap, rfl, hcap⟩ := htx.full hr
   obtain ⟨n, hn⟩ : ∃ n, n = min r.length 4096 := ⟨_, rfl⟩
   have hmn : min (r.length : Int) 4096 = (n : Int) := by rw [hn]; omega
   have hnr : n ≤ r.length := by omega
   have hn0 : 0 < n := by omega
   have hn4 : n ≤ 4096 := by omega
   have hc0 : ¬ cap = 0 := by omega
   have Hn := hid hn
   obtain ⟨sa, sc, rfl⟩ := zAe hs
   have HCv := hid (fun (w' : World) (c' : Nat) (hw : TxAt w' q (.slice (some ⟨g, off, none⟩) r.length cap) r) => TxAt.conv (cap' := c') hw n hnr hn0)
   have hcv := HCv.out wr cap htx
   have hcvd : (convert 108 9 (.slice (some ⟨g, off, none⟩) n cap)).run Tryz.prog wr.drew = .ok (.string (ba (r.take n))) wr.drew := HCv.out wr.drew cap (htx.below ((Below.refl _ _).drew))
   clear hb hs htx hn
   obtain ⟨m, hm⟩ : ∃ m, m = (l ++ cs).length := ⟨_, rfl⟩
   rw [← hm] at HS hq0 HBk
   have hm6 : m ≤ 2097152 := by rw [hm, List.length_append]; have := HN.out; have := Hl.out; have := Htl.out; omega
   have Hm := hid hm
   have hxw : (stpsV (l ++ cs)).length = m * 3 := by rw [hm]; exact zEe _
   clear hm
   have hown := HS.out
   have hrw : (Value.slice sa m sc).ownBlock ≠ some q := zAp HS.out HBk.out (by decide)
   obtain ⟨i0, hi0, hz0, hz1, hz2⟩ := info_parts zDI
   have hcn : n ≤ cap := by omega
   go_wp2_with fail
   go_region_law (first
    | (refine step_append_lies _ (by rfl) _ _ _ (by rfl) q 221 i0 _ 3 32 Tryz.underlying194 hi0 hz0 hz1 hz2 rfl (by omega) (.slice sa m sc) m (stpsV (l ++ cs)) (by rfl) ((hown.alloc _).drew) ⟨wr.heap.size, 0, none⟩ 1 1 [.int .i64 0, .int .i64 0, .string (ba (r.take n))] (by rfl) (by rfl) (World.news_of_block (cs := #[.int .i64 0, .int .i64 0, .string (ba (r.take n))]) (t := 221) (fr := (0, 0)) (heap_alloc_new wr _)) (by simp [Value.oneCell']) (by omega) (by unfold maxLen; omega) (by omega) (by simp; omega) (wr.heap.size + 1) (by simp) ?_; intro gg ucap w4 hown4 hgrow hat hlt4; have hc4 := hgrow.cell_far ⟨q, 0, none⟩ (by simp; omega) (Ne.symm hrw); have hf4 := hgrow.frozen_far ⟨q, 0, none⟩ (by simp; omega) (Ne.symm hrw)))
   all_goals
    have HT5 := hid (((zAm (((Touch.refl (fun j => (Value.slice sa m sc).ownBlock = some j ∨ j = q) wr).alloc (.cells #[.int .i64 0, .int .i64 0, .string (ba (r.take n))] 221)).drew) hgrow (fun g hg => Or.inl (Or.inl hg))).set (p := ⟨q, 0, none⟩) (Or.inl (Or.inr rfl)) (.slice (some ⟨gg, 0, none⟩) (m + 1) ucap)))
    have hggq : gg ≠ q := by
     rcases hat with e | e
     ·intro e2; exact hrw (by rw [e, e2])
     ·omega
    have HQb := hid ((zAr ((HBk.out.alloc (.cells #[.int .i64 0, .int .i64 0, .string (ba (r.take n))] 221)).drew) hgrow hrw).set 0 (.slice (some ⟨gg, 0, none⟩) (m + 1) ucap))
    have HWb := hid (show (w4.setCell ⟨q, 0, none⟩ (.slice (some ⟨gg, 0, none⟩) (m + 1) ucap)).ownsRow q 221 3 (.slice (some ⟨gg, 0, none⟩) (m + 1) ucap) (m + 1) (stpsV ((l ++ cs) ++ [⟨0, 0, r.take n⟩])) by
     rw [zBJ]
     exact zAj hown4 ((Touch.refl (fun j => j = q) w4).set (p := ⟨q, 0, none⟩) (Or.inl rfl) _) (fun g hg e => hggq (by simp [Value.ownBlock] at hg; omega)))
    clear hown4 hgrow hat hlt4 hc4 hf4 hggq
    generalize w4.setCell ⟨q, 0, none⟩ (.slice (some ⟨gg, 0, none⟩) (m + 1) ucap) = w5 at HT5 HQb HWb ⊢
    have HTx5 := hid (HT.out.touch HT5.out (fun g hg e => e.elim (fun e => HT.out.ne_row HS.out (by decide) hg e) (fun e => HT.out.ne HBk.out (by decide) (by rw [hg, e]))))
    have HK5 := hid (KeepM.of_touch HT5.out (fun k cs T h1 h2 h3 h4 e => e.elim (fun e => zAp HS.out h4 (Ne.symm h2) e) (fun e => HBk.out.ne h4 (Ne.symm h3) e.symm)))
    have HB5 := hid (HT5.out.below (Nat.le_of_lt HBk.out.lt) (fun k hk e => e.elim (fun e => Nat.not_lt.2 (HS.out.lt k e).1 hk) (fun e => by omega)))
    have e1 : w5.cell? ⟨q, 1, none⟩ = some (.slice (some ⟨g, off, none⟩) r.length cap) := HQb.out.cell 1
    have f1 : w5.frozen? ⟨q, 1, none⟩ = false := HQb.out.free 1
    have hq5 := HQb.out.lt
    have HE := hid (MkAt.set_text (l := l ++ (cs ++ [⟨0, 0, r.take n⟩])) (show Blk w5 q [.slice (some ⟨gg, 0, none⟩) (m + 1) ucap, .slice (some ⟨g, off, none⟩) r.length cap] 246 from HQb.out) (by rw [← List.append_assoc, List.length_append, ← Hm.out]; exact HWb.out) (HTx5.out.cut_at n hnr))
    clear hq0 hq1 hf0 hf1 hcv hcvd hown hrw hi0 hz0 hz1 hz2 hxw HT5
    go_wp2_with fail
    generalize w5.setCell ⟨q, 1, none⟩ (.slice (if cap = n then some ⟨g, off, none⟩ else some ⟨g, off + n, none⟩) (r.length - n) (cap - n)) = w6 at HE ⊢
    go_roundw
    case rel =>
     obtain ⟨hE1, hE2, hE3⟩ := HE.out
     refine ⟨cs ++ [⟨0, 0, r.take n⟩], d ++ r.take n, r.drop n, hid ?_, hid (HC.out.snoc ?_ ?_), hid ?_, hid hE1, hid ((HB.out.trans HB5.out).trans (hE3.below (Nat.le_of_lt hq5) (fun k hk e => by omega))), hid ((HK.out.trans HK5.out).trans (KeepM.of_maker HQb.out hE3))⟩
     ·rw [List.append_assoc, List.take_append_drop]; exact HD.out
     ·rw [List.length_take]; omega
     ·rw [List.length_take]; omega
     ·rw [List.length_append, List.length_append, List.length_take]
      have := HN.out
      simp
      omega
    case measure =>
     rw [HE.out.2.1, Htx.out, List.length_drop]
     omega
  ·have hr0 : r = [] := List.eq_nil_of_length_eq_zero (by omega)
   subst hr0
   clear hb hs htx
   obtain ⟨ad, cap, rfl, _⟩ := HT.out.shape
   go_wp2_with fail
   go_end0
   have hd : d = t := by have := HD.out; rw [List.append_nil] at this; exact this
   subst hd
   exact ⟨rfl, cs, HC.out, HN.out, HM.out, HB.out, HK.out⟩
end Go.Proofs.YtaemlplcjjbamaaGreatDoor
namespace Go.Proofs.YtaemlplcjjbamaaGreatDoor
open Go.Lib (hid)
open Go Go.RowKit
set_option linter.unusedVariables false
theorem zFZ {l : List Stp} {j : Nat} {x : Stp} (h : l[j]? = some x) : (stpsV l)[j * 3]? = some (.int .i64 x.at_) ∧ (stpsV l)[j * 3 + 1]? = some (.int .i64 x.len) ∧ (stpsV l)[j * 3 + 2]? = some (.string (ba x.text)) := by
 induction l generalizing j with
 | nil => simp at h
 | cons y l ih =>
  have e : stpsV (y :: l) = stpV y ++ stpsV l := rfl
  cases j with
  | zero =>
   simp at h
   subst h
   rw [e]
   exact ⟨rfl, rfl, rfl⟩
  | succ j =>
   have h' : l[j]? = some x := by simpa using h
   have hl : (stpV y).length = 3 := rfl
   rw [e, List.getElem?_append_right (by rw [hl]; omega), List.getElem?_append_right (by rw [hl]; omega), List.getElem?_append_right (by rw [hl]; omega), hl, show (j + 1) * 3 - 3 = j * 3 by omega, show (j + 1) * 3 + 1 - 3 = j * 3 + 1 by omega, show (j + 1) * 3 + 2 - 3 = j * 3 + 2 by omega]
   exact ih h'
theorem MkAt.set_steps {q m n : Nat} {l' : List Stp} {t : List UInt8} {w w4 : World} {sv tv sv' : Value} {xs : List Value} {news : Array Value} (hB : Blk w q [sv, tv] 246) (hs : w.ownsRow q 221 3 sv m xs) (htx : TxAt w q tv t)
  (hown : w4.ownsRow q 221 3 sv' n (stpsV l')) (hn : n = l'.length) (hg : (w.alloc (.cells news 221)).grownBy w4 sv.ownBlock) :
  MkAt q l' t (w4.setCell ⟨q, 0, none⟩ sv') ∧ Below q w (w4.setCell ⟨q, 0, none⟩ sv') ∧ KeepM w (w4.setCell ⟨q, 0, none⟩ sv') := by
 subst hn
 have hr : sv.ownBlock ≠ some q := zAp hs hB (by decide)
 have hB4 : Blk w4 q [sv, tv] 246 := zAr (hB.alloc _) hg hr
 have ht4 : Touch (fun j => sv.ownBlock = some j) w w4 := zAm ((Touch.refl _ w).alloc _) hg (fun g hg => Or.inl hg)
 have ht : Touch (fun j => sv.ownBlock = some j ∨ j = q) w (w4.setCell ⟨q, 0, none⟩ sv') := Touch.set (S := fun j => sv.ownBlock = some j ∨ j = q) (p := ⟨q, 0, none⟩) (ht4.mono (fun k _ h => Or.inl h)) (Or.inl (Or.inr rfl)) sv'
 have hS : ∀ k cs T, T ≠ 5 → T ≠ 221 → T ≠ 246 → Blk w k cs T → ¬ (sv.ownBlock = some k ∨ k = q) := fun k cs T h1 h2 h3 h4 e => e.elim (fun e => zAp hs h4 (Ne.symm h2) e) (fun e => hB.ne h4 (Ne.symm h3) e.symm)
 refine ⟨⟨sv', tv, hB4.set 0 sv', zAj hown (zAA (Touch.refl (fun k => k = q) w4) (o := 0) sv') (fun g hg' e => zAp hown hB4 (by decide) (by rw [hg', e])), htx.touch ht (fun g hg' e => e.elim (fun e => htx.ne_row hs (by decide) hg' e) (fun e => htx.ne hB (by decide) (by rw [hg', e])))⟩, ?_, KeepM.of_touch ht hS⟩
 exact ht.below (Nat.le_of_lt hB.lt) (fun k hk e => e.elim (fun e => Nat.not_lt.2 (hs.lt k e).1 hk) (fun e => by omega))
theorem zFn {L : List Stp} {x : Stp} {at_ n : Int} (h : L.getLast? = some x) (hc : ¬ (0 < x.len ∧ x.at_ + x.len = at_)) : zCH L at_ n = L ++ [⟨at_, n, []⟩] := by unfold zCH; rw [h]; show (if _ then _ else _) = _; rw [if_neg hc]
theorem zHR {L : List Stp} {x : Stp} {at_ n : Int} (h : L.getLast? = some x) (hc : 0 < x.len ∧ x.at_ + x.len = at_) : zCH L at_ n = L.dropLast ++ [⟨x.at_, x.len + n, x.text⟩] := by unfold zCH; rw [h]; show (if _ then _ else _) = _; rw [if_pos hc]
theorem row_blk {w : World} {base : Nat} {e : TypeId} {size g n cap : Nat} {xs : List Value} (h : w.ownsRow base e size (.slice (some ⟨g, 0, none⟩) n cap) n xs) : ∃ cs, Blk w g cs e := by
 rcases h.2 with ⟨hv, _⟩ | ⟨g', cap', cur, hv, hb, hg, h3⟩
 ·cases hv
 ·simp only [Value.slice.injEq, Option.some.injEq, Addr.mk.injEq, and_true, true_and] at hv
  obtain ⟨rfl, rfl⟩ := hv
  exact ⟨cur.toList, by unfold Blk; simpa using hg⟩
theorem row_set {w : World} {base : Nat} {e : TypeId} {size g n cap : Nat} {xs : List Value} (h : w.ownsRow base e size (.slice (some ⟨g, 0, none⟩) n cap) n xs) (j : Nat) (v : Value) : (w.setCell ⟨g, j, none⟩ v).ownsRow base e size (.slice (some ⟨g, 0, none⟩) n cap) n (xs.set j v) := by
 refine ⟨by rw [List.length_set]; exact h.1, ?_⟩
 rcases h.2 with ⟨hv, _⟩ | ⟨g', cap', cur, hv, hb, hg, h3, h4, h5, h6⟩
 ·cases hv
 ·simp only [Value.slice.injEq, Option.some.injEq, Addr.mk.injEq, and_true, true_and] at hv
  obtain ⟨rfl, rfl⟩ := hv
  have hB : Blk w g cur.toList e := by unfold Blk; simpa using hg
  have hB2 := hB.set j v
  unfold Blk at hB2
  exact Or.inr ⟨g, cap, (cur.toList.set j v).toArray, rfl, hb, hB2, h3, h4, by simpa using h5, by simp only [List.take_set, h6]⟩
theorem stpsV_join {L : List Stp} {xa xl n : Int} {xt : List UInt8} {k : Nat} (h : L.getLast? = some ⟨xa, xl, xt⟩) (hk : L.length = k + 1) : (stpsV L).set (k * 3 + 1) (.int .i64 (xl + n)) = stpsV (L.dropLast ++ [⟨xa, xl + n, xt⟩]) := by
 have hne : L ≠ [] := by rintro rfl; simp at h
 have hsp := List.dropLast_concat_getLast hne
 rw [List.getLast?_eq_some_getLast hne] at h
 injection h with h
 rw [h] at hsp
 have hl : (stpsV L.dropLast).length = k * 3 := by rw [zEe, List.length_dropLast, hk]; rfl
 rw [← hsp, zBJ, List.set_append_right _ _ (by rw [hl]; omega), hl, show k * 3 + 1 - k * 3 = 1 by omega, zBJ]
 simp
def CopySays (q : Nat) (l : List Stp) (t : List UInt8) (at_ n : Nat) (w : World) (e : Ending) (w' : World) : Prop := e = .returned (.tuple #[]) ∧ ∃ cs, zCh t cs ∧ cs.length ≤ t.length ∧ MkAt q (zCH (l ++ cs) (at_ : Int) (n : Int)) [] w' ∧ Below q w w' ∧ KeepM w w'
theorem copy_any (q : Nat) (l : List Stp) (t : List UInt8) (at_ n : Nat) (w : World) (h : MkAt q l t w) (hl : l.length ≤ 1048576) (ht : t.length ≤ 1048576) (ha : at_ ≤ 1048576) (hn : n ≤ 1048576) (hx : ∀ x ∈ l, 0 ≤ x.len ∧ x.len ≤ 1048576 ∧ 0 ≤ x.at_ ∧ x.at_ ≤ 1048576) :
  Calls Tryz.prog 180 #[.pointer (some ⟨q, 0, none⟩), .int .i64 (at_ : Int), .int .i64 (n : Int)] w (CopySays q l t at_ n w) := by
 have HF := hid (zEW q l t w h hl ht)
 have Hl := hid hl
 have Htl := hid ht
 have HX := hid hx
 clear h hl ht hx
 go_enter Tryz.func180, Tryz.ntmps180
 go_wp2_with fail
 refine HF.out.mono ?_
 clear HF
 rintro e w1 ⟨rfl, cs, hC, hcn, hM, hB, hK⟩
 have HC := hid hC
 have HN := hid hcn
 have HB := hid hB
 have HK := hid hK
 have HXX := hid (show ∀ x ∈ l ++ cs, 0 ≤ x.len ∧ x.len ≤ 1048576 ∧ 0 ≤ x.at_ ∧ x.at_ ≤ 1048576 from fun x hx => by
  rcases List.mem_append.1 hx with e | e
  ·exact HX.out x e
  ·have := hC.1 x e
   rw [this.1, this.2.1]
   decide)
 obtain ⟨sv, tv, hb, hs, htx⟩ := hM.ex
 have HBk := hid hb
 have HS := hid hs
 have HT := hid htx
 have hq0 := hb.cell 0
 have hf0 := hb.free 0
 have hql := hb.lt
 simp only [List.getElem?_cons_zero] at hq0
 obtain ⟨sa, sc, rfl⟩ := zAe hs
 obtain ⟨m, hm⟩ : ∃ m, m = (l ++ cs).length := ⟨_, rfl⟩
 rw [← hm] at HS hq0 HBk
 have hm6 : m ≤ 2097152 := by rw [hm, List.length_append]; have := Hl.out; have := Htl.out; omega
 have Hm := hid hm
 clear hC hcn hM hB hK hb hs htx hm
 obtain ⟨L, hL⟩ : ∃ L, L = l ++ cs := ⟨_, rfl⟩
 have HLL := hid hL
 rw [← hL] at HXX HS Hm
 clear hL
 by_cases h0 : m = 0
 ·have HA := hid (show zCH L (at_ : Int) (n : Int) = L ++ [⟨(at_ : Int), (n : Int), []⟩] by
   have : L = [] := List.eq_nil_of_length_eq_zero (by have := Hm.out; omega)
   subst this; rfl)
  subst h0
  go_wp2_with fail
  go_quiet (fail)
  obtain ⟨ws, hws⟩ : ∃ ws, ws = w1.drewN nq := ⟨_, rfl⟩
  have HB2 := hid (show Below w1.heap.size w1 ws by rw [hws]; exact below_drewN (Below.refl _ _) _)
  have HB1 := hid (show Below q w1 ws by rw [hws]; exact below_drewN (Below.refl _ _) _)
  have HK2 := hid (KeepM.of_below HB2.out)
  rw [← hws]
  clear hws
  have HBs := hid (HBk.out.below HB2.out)
  have HSs := hid (zAc HS.out HB2.out)
  have HTs := hid (HT.out.below HB2.out)
  have hq0s := HBs.out.cell 0
  have hf0s := HBs.out.free 0
  have hqs := HBs.out.lt
  simp only [List.getElem?_cons_zero] at hq0s
  clear hq0 hf0 hql
  go_wp2_with (at_builtin; refine zAx rfl _ _ 194 rfl q 221 3 32 Tryz.underlying194 _ zDI rfl (by decide) _ _ _ rfl HSs.out _ rfl [.int .i64 (at_ : Int), .int .i64 (n : Int), .string ByteArray.empty] rfl rfl (by simp [Value.oneCell']) ?c1 ?c2 ?c3 ?_)
  case c1 => unfold maxLen; omega
  case c2 => omega
  case c3 => first | omega | (simp; omega)
  intro v' w4 hown4 hg4
  have hown5 : w4.ownsRow q 221 3 v' (0 + 1) (stpsV (L ++ [⟨(at_ : Int), (n : Int), []⟩])) := by rw [zBJ]; exact hown4
  have HR := hid (MkAt.set_steps HBs.out HSs.out HTs.out hown5 (by rw [List.length_append, ← Hm.out]; rfl) hg4)
  have HB4 := hid (zAr (HBs.out.alloc _) hg4 (zAp HSs.out HBs.out (by decide)))
  have hf4 := HB4.out.free 0
  have hc4 := HB4.out.cell 0
  simp only [List.getElem?_cons_zero] at hc4
  obtain ⟨va, vc, rfl⟩ := zAe hown4
  clear hown4 hg4 hown5 hq0s hf0s
  go_wp2_with fail
  go_end0
  obtain ⟨r1, r2, r3⟩ := HR.out
  exact ⟨rfl, cs, HC.out, HN.out, by rw [← HLL.out, HA.out]; exact r1, (HB.out.trans HB1.out).trans r2, (HK.out.trans HK2.out).trans r3⟩
 ·obtain ⟨k, hk⟩ : ∃ k, k = m - 1 := ⟨_, rfl⟩
  obtain ⟨g, cap, hv, hg2, hg3, hg4, hg6, hg5⟩ := zAz HS.out (by omega)
  simp only [Value.slice.injEq, true_and] at hv
  obtain ⟨rfl, rfl⟩ := hv
  have hw1 : (m : Int) - 1 = (k : Int) := by omega
  obtain ⟨x, hx⟩ : ∃ x, L[k]? = some x := ⟨_, List.getElem?_eq_getElem (by have := Hm.out; omega)⟩
  obtain ⟨v1, v2, v3⟩ := zFZ hx
  have c1 := (hg5 (k * 3) (by omega)).trans v1
  have c2 := (hg5 (k * 3 + 1) (by omega)).trans v2
  have hlast : L.getLast? = some x := by rw [List.getLast?_eq_getElem?, ← Hm.out, ← hk]; exact hx
  have Hlast := hid hlast
  have Hxm := hid (HXX.out x (List.mem_of_getElem? hx))
  have Hhx := hid hx
  have hkm : k < m := by omega
  have Hk := hid hk
  obtain ⟨xa, xl, xt⟩ := x
  simp only at c1 c2
  have hxl : xl ≤ 1048576 ∧ 0 ≤ xl ∧ 0 ≤ xa ∧ xa ≤ 1048576 := ⟨Hxm.out.2.1, Hxm.out.1, Hxm.out.2.2.1, Hxm.out.2.2.2⟩
  clear v1 v2 v3 hlast hx hg5 hk
  by_cases hp : 0 < xl
  ·obtain ⟨su, hsu⟩ : ∃ su, su = xa + xl := ⟨_, rfl⟩
   have hw2 : IntKind.i64.wrap (xa + xl) = su := by rw [IntKind.wrap_i64]; omega
   by_cases he : su = (at_ : Int)
   ·have he' : (su == (at_ : Int)) = true := by rw [beq_iff_eq]; exact he
    have HA := hid (zHR (n := (n : Int)) Hlast.out ⟨hp, hsu.symm.trans he⟩)
    clear he hsu
    go_wp2_with fail
    go_quiet (fail)
    obtain ⟨ws, hws⟩ : ∃ ws, ws = w1.drewN nq := ⟨_, rfl⟩
    have HB2 := hid (show Below w1.heap.size w1 ws by rw [hws]; exact below_drewN (Below.refl _ _) _)
    have HB1 := hid (show Below q w1 ws by rw [hws]; exact below_drewN (Below.refl _ _) _)
    have HK2 := hid (KeepM.of_below HB2.out)
    rw [← hws]
    have c1s : ws.cell? ⟨g, k * 3, none⟩ = some (.int .i64 xa) := by rw [hws]; exact c1
    have c2s : ws.cell? ⟨g, k * 3 + 1, none⟩ = some (.int .i64 xl) := by rw [hws]; exact c2
    clear hws
    have HBs := hid (HBk.out.below HB2.out)
    have HSs := hid (zAc HS.out HB2.out)
    have HTs := hid (HT.out.below HB2.out)
    have hq0s := HBs.out.cell 0
    simp only [List.getElem?_cons_zero] at hq0s
    obtain ⟨gcs, hgb⟩ := row_blk HSs.out
    have f2s := hgb.free (k * 3 + 1)
    have hgl := hgb.lt
    have HGB := hid hgb
    clear hq0 hf0 hql c1 c2 hgb
    go_wp2_with fail
    go_end0
    have hT := Touch.set (S := fun j => j = g) (p := ⟨g, k * 3 + 1, none⟩) (Touch.refl _ ws) (Or.inl rfl) (.int .i64 (xl + (n : Int)))
    have hLk : L.length = k + 1 := by have := Hm.out; have := Hk.out; omega
    refine ⟨rfl, cs, HC.out, HN.out, ?_, (HB.out.trans HB1.out).trans (hT.below (Nat.le_of_lt HBs.out.lt) (fun k hk e => by omega)), (HK.out.trans HK2.out).trans (KeepM.of_touch hT (fun k cs T h1 h2 h3 h4 e => HGB.out.ne h4 (Ne.symm h2) e.symm))⟩
    rw [← HLL.out, HA.out]
    refine ⟨_, _, HBs.out.touch hT (fun e => HGB.out.ne HBs.out (by decide) e.symm), ?_, HTs.out.touch hT (fun g' hg' e => HTs.out.ne HGB.out (by decide) (by rw [hg', e]))⟩
    have hlen : (L.dropLast ++ [(⟨xa, xl + (n : Int), xt⟩ : Stp)]).length = m := by rw [List.length_append, List.length_dropLast, ← Hm.out]; simp; omega
    rw [hlen, ← stpsV_join Hlast.out hLk]
    exact row_set HSs.out (k * 3 + 1) _
   ·have he' : (su == (at_ : Int)) = false := by rw [beq_eq_false_iff_ne]; exact he
    have HA := hid (zFn (at_ := (at_ : Int)) (n := (n : Int)) Hlast.out (fun h => he (hsu.trans h.2)))
    clear he hsu
    go_wp2_with fail
    go_quiet (fail)
    obtain ⟨ws, hws⟩ : ∃ ws, ws = w1.drewN nq := ⟨_, rfl⟩
    have HB2 := hid (show Below w1.heap.size w1 ws by rw [hws]; exact below_drewN (Below.refl _ _) _)
    have HB1 := hid (show Below q w1 ws by rw [hws]; exact below_drewN (Below.refl _ _) _)
    have HK2 := hid (KeepM.of_below HB2.out)
    rw [← hws]
    clear hws
    have HBs := hid (HBk.out.below HB2.out)
    have HSs := hid (zAc HS.out HB2.out)
    have HTs := hid (HT.out.below HB2.out)
    have hq0s := HBs.out.cell 0
    have hf0s := HBs.out.free 0
    have hqs := HBs.out.lt
    simp only [List.getElem?_cons_zero] at hq0s
    clear hq0 hf0 hql
    go_wp2_with (at_builtin; refine zAx rfl _ _ 194 rfl q 221 3 32 Tryz.underlying194 _ zDI rfl (by decide) _ _ _ rfl HSs.out _ rfl [.int .i64 (at_ : Int), .int .i64 (n : Int), .string ByteArray.empty] rfl rfl (by simp [Value.oneCell']) ?c1 ?c2 ?c3 ?_)
    case c1 => unfold maxLen; omega
    case c2 => omega
    case c3 => first | omega | (simp; omega)
    intro v' w4 hown4 hg4
    have hown5 : w4.ownsRow q 221 3 v' (m + 1) (stpsV (L ++ [⟨(at_ : Int), (n : Int), []⟩])) := by rw [zBJ]; exact hown4
    have HR := hid (MkAt.set_steps HBs.out HSs.out HTs.out hown5 (by rw [List.length_append, ← Hm.out]; rfl) hg4)
    have HB4 := hid (zAr (HBs.out.alloc _) hg4 (zAp HSs.out HBs.out (by decide)))
    have hf4 := HB4.out.free 0
    have hc4 := HB4.out.cell 0
    simp only [List.getElem?_cons_zero] at hc4
    obtain ⟨va, vc, rfl⟩ := zAe hown4
    clear hown4 hg4 hown5 hq0s hf0s
    go_wp2_with fail
    go_end0
    obtain ⟨r1, r2, r3⟩ := HR.out
    exact ⟨rfl, cs, HC.out, HN.out, by rw [← HLL.out, HA.out]; exact r1, (HB.out.trans HB1.out).trans r2, (HK.out.trans HK2.out).trans r3⟩
  ·have HA := hid (zFn (at_ := (at_ : Int)) (n := (n : Int)) Hlast.out (fun h => hp h.1))
   obtain rfl : xl = 0 := by omega
   go_wp2_with fail
   go_quiet (fail)
   obtain ⟨ws, hws⟩ : ∃ ws, ws = w1.drewN nq := ⟨_, rfl⟩
   have HB2 := hid (show Below w1.heap.size w1 ws by rw [hws]; exact below_drewN (Below.refl _ _) _)
   have HB1 := hid (show Below q w1 ws by rw [hws]; exact below_drewN (Below.refl _ _) _)
   have HK2 := hid (KeepM.of_below HB2.out)
   rw [← hws]
   clear hws
   have HBs := hid (HBk.out.below HB2.out)
   have HSs := hid (zAc HS.out HB2.out)
   have HTs := hid (HT.out.below HB2.out)
   have hq0s := HBs.out.cell 0
   have hf0s := HBs.out.free 0
   have hqs := HBs.out.lt
   simp only [List.getElem?_cons_zero] at hq0s
   clear hq0 hf0 hql
   go_wp2_with (at_builtin; refine zAx rfl _ _ 194 rfl q 221 3 32 Tryz.underlying194 _ zDI rfl (by decide) _ _ _ rfl HSs.out _ rfl [.int .i64 (at_ : Int), .int .i64 (n : Int), .string ByteArray.empty] rfl rfl (by simp [Value.oneCell']) ?c1 ?c2 ?c3 ?_)
   case c1 => unfold maxLen; omega
   case c2 => omega
   case c3 => first | omega | (simp; omega)
   intro v' w4 hown4 hg4
   have hown5 : w4.ownsRow q 221 3 v' (m + 1) (stpsV (L ++ [⟨(at_ : Int), (n : Int), []⟩])) := by rw [zBJ]; exact hown4
   have HR := hid (MkAt.set_steps HBs.out HSs.out HTs.out hown5 (by rw [List.length_append, ← Hm.out]; rfl) hg4)
   have HB4 := hid (zAr (HBs.out.alloc _) hg4 (zAp HSs.out HBs.out (by decide)))
   have hf4 := HB4.out.free 0
   have hc4 := HB4.out.cell 0
   simp only [List.getElem?_cons_zero] at hc4
   obtain ⟨va, vc, rfl⟩ := zAe hown4
   clear hown4 hg4 hown5 hq0s hf0s
   go_wp2_with fail
   go_end0
   obtain ⟨r1, r2, r3⟩ := HR.out
   exact ⟨rfl, cs, HC.out, HN.out, by rw [← HLL.out, HA.out]; exact r1, (HB.out.trans HB1.out).trans r2, (HK.out.trans HK2.out).trans r3⟩
end Go.Proofs.YtaemlplcjjbamaaGreatDoor
set_option maxRecDepth 100000
set_option maxHeartbeats 8000000
namespace Go.Proofs.YtaemlplcjjbamaaGreatDoor
open Go.Lib (hid)
open Go Go.RowKit
set_option linter.unusedVariables false
theorem ba_list2 (l : List UInt8) : (ba l).toList = l := by
 rw [ByteArray.toList_eq]
 simp [ba]
theorem ba_full {t : List UInt8} (h : t ≠ []) : (ba t).toList.isEmpty = false := by
 rw [ba_list2]
 cases t with
 | nil => exact absurd rfl h
 | cons => rfl
theorem ba_empty : (ba []).toList.isEmpty = true := by rw [ba_list2]; rfl
theorem zGM (x : Stp) (b : Int) (w : World) (h : stpOk x b) (hb : -1 ≤ b) (hb2 : b ≤ 1048576) :
  Calls Tryz.prog 183 #[.agg #[.int .i64 x.at_, .int .i64 x.len, .string (ba x.text)], .int .i64 b] w fun e w' => e = .returned (.bool true) ∧ Below w.heap.size w w' := by
 obtain ⟨a, n, t⟩ := x
 have HB := hid ((Below.refl w.heap.size w).alloc (Nat.le_refl _) (.cells #[.int .i64 a, .int .i64 n, .string (ba t)] 221))
 have hsz := zAl t
 rcases h with ⟨h1, h2, h3, h4⟩ | ⟨h1, h2, h3, h4, h5, h6⟩
 ·simp only at h1 h2 h3 h4
  subst h2 h3
  have hl : 0 < t.length := List.length_pos_iff.2 h1
  have he := ba_full h1
  clear h1
  go_enter Tryz.func183, Tryz.ntmps183
  go_wp2_with fail
  go_ret
  exact ⟨by first | rfl | exact zBa (by simp; omega), HB.out⟩
 ·simp only at h1 h2 h3 h4 h5 h6
  subst h1
  have he := ba_empty
  clear hsz
  go_enter Tryz.func183, Tryz.ntmps183
  go_wp2_with fail
  all_goals
   go_ret
   exact ⟨by first | rfl | exact zBa (by simp; omega), HB.out⟩
end Go.Proofs.YtaemlplcjjbamaaGreatDoor
namespace Go.Proofs.YtaemlplcjjbamaaGreatDoor
open Go.Lib (hid)
open Go Go.RowKit
set_option linter.unusedVariables false
theorem zCC {O : List UInt8} {l : List Stp} (k : Nat) : (outS O (l.take k)).length ≤ (outS O l).length := by
 conv => rhs; rw [← List.take_append_drop k l]
 rw [zBs, List.length_append]
 omega
theorem zFy {O : List UInt8} {l : List Stp} {k : Nat} {x : Stp} (h : l[k]? = some x) (hx : stpOk x (O.length : Nat)) : ((outS O (l.take (k + 1))).length : Int) = (outS O (l.take k)).length + (x.len + (x.text.length : Nat)) := by
 have hk : k < l.length := (List.getElem?_eq_some_iff.1 h).1
 have e : l.take (k + 1) = l.take k ++ [x] := by
  rw [List.take_add_one, h]
  rfl
 rw [e, zBs, List.length_append, zDC]
 have := zDX hx
 unfold stpN at this
 simp only [outS, List.flatMap_nil, List.append_nil]
 omega
def dlV (bm sm : ByteArray) (n : Nat) (sv : Value) : Value := .agg #[.string bm, .string sm, .int .i64 (n : Int), sv]
theorem dRight_any (bm sm : ByteArray) (sv : Value) (base : Nat) (O T : List UInt8) (l : List Stp) (w : World) (hb : bm.size = 32) (hs : sm.size = 32) (hr : w.ownsRow base 221 3 sv l.length (stpsV l)) (hm : Mk O l T) (hT : T.length ≤ 524288) :
  Calls Tryz.prog 153 #[dlV bm sm T.length sv] w fun e w' => e = .returned (.bool true) ∧ Below w.heap.size w w' := by
 have HM := hid hm
 have hlT : l.length ≤ T.length := by rw [← hm.out]; exact zCb l hm.ok
 have HRw := hid hr
 obtain ⟨sa, sc, rfl⟩ := zAe hr
 have HB0 := hid ((Below.refl w.heap.size w).alloc (Nat.le_refl _) (.cells #[.string bm, .string sm, .int .i64 (T.length : Int), .slice sa l.length sc] 196))
 have HQ := hid (Blk.new w [.string bm, .string sm, .int .i64 (T.length : Int), .slice sa l.length sc] 196)
 clear hr hm
 unfold dlV
 go_enter Tryz.func153, Tryz.ntmps153
 go_upto_region 1 with fail
 generalize w.alloc (.cells #[.string bm, .string sm, .int .i64 (T.length : Int), .slice sa l.length sc] 196) = w0 at HB0 HQ ⊢
 obtain ⟨gx, hgx⟩ : ∃ gx, gx = w.heap.size := ⟨_, rfl⟩
 rw [← hgx] at HQ HB0 ⊢
 have Hgx := hid hgx
 have HR0 := hid (zAc HRw.out (hgx ▸ HB0.out))
 clear hgx HRw
 have c0 : w0.cell? ⟨gx, 0, none⟩ = some (.string bm) := HQ.out.cell 0
 have c1 : w0.cell? ⟨gx, 1, none⟩ = some (.string sm) := HQ.out.cell 1
 have c2 : w0.cell? ⟨gx, 2, none⟩ = some (.int .i64 (T.length : Int)) := HQ.out.cell 2
 have c3 : w0.cell? ⟨gx, 3, none⟩ = some (.slice sa l.length sc) := HQ.out.cell 3
 have hgl := HQ.out.lt
 obtain ⟨m, hm⟩ : ∃ m, m = l.length := ⟨_, rfl⟩
 rw [← hm] at c3 hlT
 have Hm := hid hm
 clear hm
 go_wp2_with fail
 go_loopw [3, 35] (fun nv kv wr => ∃ k : Nat, kv = .int .i64 (k : Int) ∧ k ≤ m ∧ nv = .int .i64 ((outS O (l.take k)).length : Nat) ∧ Hid (Below w0.heap.size w0 wr)) (fun _ kv _ => m - (intOf kv).toNat)
 case atStart => exact ⟨0, rfl, Nat.zero_le _, rfl, hid (Below.refl _ _)⟩
 case round =>
  obtain ⟨k, rfl, hk, rfl, HB⟩ := hrel
  have hszr := HB.out.size
  have d2 : wr.cell? ⟨gx, 2, none⟩ = some (.int .i64 (T.length : Int)) := (HQ.out.below HB.out).cell 2
  obtain ⟨o, ho⟩ : ∃ o, o = (outS O (l.take k)).length := ⟨_, rfl⟩
  rw [← ho]
  have Ho := hid ho
  have hoT : o ≤ T.length := by rw [ho, ← HM.out.out]; exact zCC k
  clear ho
  by_cases hlt : k < m
  ·obtain ⟨g, cap, hv, hg2, hg3, hg4, hg6, hg5⟩ := zAz HR0.out (by have := Hm.out; omega)
   simp only [Value.slice.injEq, true_and] at hv
   obtain ⟨rfl, rfl⟩ := hv
   obtain ⟨x, hx⟩ : ∃ x, l[k]? = some x := ⟨_, List.getElem?_eq_getElem (by have := Hm.out; omega)⟩
   obtain ⟨v1, v2, v3⟩ := zFZ hx
   have hml := Hm.out
   have hcell : ∀ j, j < l.length * 3 → wr.cell? ⟨g, j, none⟩ = (stpsV l)[j]? := fun j hj => (World.cell?_of_block (w := w0) (a := ⟨g, j, none⟩) (HB.out.block g hg3)).trans (hg5 j hj)
   have e1 := (hcell (k * 3) (by omega)).trans v1
   have e2 := (hcell (k * 3 + 1) (by omega)).trans v2
   have e3 := (hcell (k * 3 + 2) (by omega)).trans v3
   have hok := HM.out.ok x (List.mem_of_getElem? hx)
   have hnx := zFy hx hok
   have hle := zCC (O := O) (l := l) (k + 1)
   rw [HM.out.out] at hle
   have hmx := List.mem_of_getElem? hx
   have HSt := hid (fun w' => zGM x (-1) w' hok.any (by omega) (by omega))
   obtain ⟨xa, xl, xt⟩ := x
   simp only at e1 e2 e3 hnx
   obtain ⟨o2, ho2⟩ : ∃ o2, o2 = (outS O (l.take (k + 1))).length := ⟨_, rfl⟩
   rw [← ho2, ← Ho.out] at hnx
   rw [← ho2] at hle
   have Ho2 := hid ho2
   have hxt := zAl xt
   obtain ⟨q1, q2, q3⟩ : 0 ≤ xl ∧ xl ≤ 524288 ∧ xt.length ≤ 524288 := by
    rcases hok with ⟨_, a2, a3, a4⟩ | ⟨a1, a2, a3, a4, a5, a6⟩
    ·simp only at a2 a3 a4; omega
    ·simp only at a1 a2 a3 a4
     subst a1
     simp
     omega
   have hsum : (o : Int) + (xl + (xt.length : Nat)) = (o2 : Int) := hnx.symm
   have hle2 : ¬ T.length < o2 := by omega
   have HBx := hid (Blk.new wr [.int .i64 xa, .int .i64 xl, .string (ba xt)] 221)
   have HBw := hid (HB.out.alloc hszr (.cells #[.int .i64 xa, .int .i64 xl, .string (ba xt)] 221))
   have HQr := hid (HQ.out.below HB.out)
   clear hg5 hcell v1 v2 v3 hx hok hmx ho2 hml hnx
   go_wp2_with fail
   refine (HSt.out _).mono ?_
   clear HSt
   rintro e w2 ⟨rfl, hb2⟩
   have HB2 := hid (HBw.out.trans (hb2.mono (by simp; omega)))
   have hbx2 := HBx.out.below hb2
   have k1 := hbx2.cell 1
   have k2 := hbx2.cell 2
   have d22 : w2.cell? ⟨gx, 2, none⟩ = some (.int .i64 (T.length : Int)) := (HQ.out.below HB2.out).cell 2
   simp only [List.getElem?_cons_zero, List.getElem?_cons_succ] at k1 k2
   clear hb2 hbx2 HBx HBw HQr e1 e2 e3
   generalize wr.heap.size = qx at k1 k2 ⊢
   go_wp2_with fail
   go_roundw
   case rel => exact ⟨k + 1, by go_num, by omega, by rw [← Ho2.out], HB2⟩
   case measure => simp [intOf]; omega
  ·have hkm : k = m := by omega
   subst hkm
   have hoe : o = T.length := by rw [Ho.out, Hm.out, List.take_of_length_le (Nat.le_refl _), HM.out.out]
   subst hoe
   go_wp2_with fail
   go_ret
   exact ⟨by first | rfl | exact zBa (by simp), by rw [← Hgx.out]; exact HB0.out.trans (HB.out.mono (Nat.le_of_lt hgl))⟩
end Go.Proofs.YtaemlplcjjbamaaGreatDoor
namespace Go.Proofs.YtaemlplcjjbamaaGreatDoor
open Go.Lib (hid)
set_option maxRecDepth 100000
set_option maxHeartbeats 8000000
open Go Go.RowKit
set_option linter.unusedVariables false
variable {B : List ByteArray} {S : List UInt8} {base bl n : Nat} {sv wv : Value} {w w' : World}
theorem zGg (S : List UInt8) (bl n k : Nat) (hk : k < n) : (weakV S bl n)[k]? = some (.int .i64 (wsum (pcB S bl k) : Nat)) := by
 unfold weakV
 rw [List.getElem?_map, List.getElem?_range hk]
 rfl
theorem strongV_at (B : List ByteArray) (S : List UInt8) (bl n k : Nat) (hk : k < n) : (zAO B S bl n)[k]? = some (.string (zAt B (pcB S bl k))) := by
 unfold zAO
 rw [List.getElem?_map, List.getElem?_range hk]
 rfl
theorem zFc (B : List ByteArray) (s : ByteArray) : (zAt B s).size = 32 := numb_size _
def zBV (w : World) (base : Nat) (B : List ByteArray) (S : List UInt8) (bl n : Nat) (wv sv : Value) : Prop :=
 w.ownsRow base 3 1 wv n (weakV S bl n) ∧ w.ownsRow base 9 1 sv n (zAO B S bl n)
theorem zBV.below (h : zBV w base B S bl n wv sv) (hb : Below w.heap.size w w') : zBV w' base B S bl n wv sv := ⟨zAc h.1 hb, zAc h.2 hb⟩
theorem zGh (base : Nat) (B : List ByteArray) (S : List UInt8) (bl : Nat) (wv sv : Value) (w : World) (h : zBV w base B S bl (npc S.length bl) wv sv) (hS : S.length ≤ 524288) (h1 : 16 ≤ bl) (h2 : bl ≤ 1024) :
  Calls Tryz.prog 192 #[.agg #[.int .i64 (bl : Int), .int .i64 (S.length : Int), wv, sv]] w fun e w' => e = .returned (.bool true) ∧ Below w.heap.size w w' := by
 obtain ⟨wa, wc, rfl⟩ := zAe h.1
 obtain ⟨sa, sc, rfl⟩ := zAe h.2
 have hn := zFK (size := S.length) (bl := bl) (by omega)
 have HC := hid (fun w' => zDE S.length bl w' (by omega) h2 (by omega))
 have HF := hid (fun w' => zEg bl w' h1 h2)
 obtain ⟨n, hnn⟩ : ∃ n, n = npc S.length bl := ⟨_, rfl⟩
 rw [← hnn] at h hn HC ⊢
 have HB0 := hid ((Below.refl w.heap.size w).alloc (Nat.le_refl _) (.cells #[.int .i64 (bl : Int), .int .i64 (S.length : Int), .slice wa n wc, .slice sa n sc] 214))
 have HQ := hid (Blk.new w [.int .i64 (bl : Int), .int .i64 (S.length : Int), .slice wa n wc, .slice sa n sc] 214)
 have HR := hid (h.below ((Below.refl w.heap.size w).alloc (Nat.le_refl _) (.cells #[.int .i64 (bl : Int), .int .i64 (S.length : Int), .slice wa n wc, .slice sa n sc] 214)))
 clear h hnn
 go_enter Tryz.func192, Tryz.ntmps192
 go_upto_region 1 with fail
 generalize w.alloc (.cells #[.int .i64 (bl : Int), .int .i64 (S.length : Int), .slice wa n wc, .slice sa n sc] 214) = w0 at HB0 HQ HR ⊢
 generalize w.heap.size = q at HQ ⊢
 have c0 : w0.cell? ⟨q, 0, none⟩ = some (.int .i64 (bl : Int)) := HQ.out.cell 0
 have c1 : w0.cell? ⟨q, 1, none⟩ = some (.int .i64 (S.length : Int)) := HQ.out.cell 1
 have c2 : w0.cell? ⟨q, 2, none⟩ = some (.slice wa n wc) := HQ.out.cell 2
 have c3 : w0.cell? ⟨q, 3, none⟩ = some (.slice sa n sc) := HQ.out.cell 3
 have hz : ¬ ((S.length : Int) < 0) := by omega
 have hz2 : ¬ ((524288 : Int) < (S.length : Int)) := by omega
 have hne : ((n : Int) != (n : Int)) = false := by simp
 go_quiet (first
  | (go_at_call 170; first | exact zAf (HF.out _) | exact quiet_add_left (HF.out _))
  | (go_at_call 171; first | exact zAf (HC.out _) | exact quiet_add_left (HC.out _)))
 have HB1 := hid (below_drewN HB0.out nq)
 have HQ1 := hid (HQ.out.drewN nq)
 have HR1 := hid (HR.out.below (below_drewN (Below.refl _ _) nq))
 generalize w0.drewN nq = w1 at HB1 HQ1 HR1 ⊢
 clear c0 c1 c2 c3 HB0 HQ HR HC HF
 have c2 : w1.cell? ⟨q, 2, none⟩ = some (.slice wa n wc) := HQ1.out.cell 2
 have c3 : w1.cell? ⟨q, 3, none⟩ = some (.slice sa n sc) := HQ1.out.cell 3
 go_wp2_with fail
 go_loopw [42] (fun kv wr => ∃ k : Nat, kv = .int .i64 (k : Int) ∧ k ≤ n ∧ w1 = wr) (fun kv _ => n - (intOf kv).toNat)
 case atStart => exact ⟨0, rfl, Nat.zero_le _, rfl⟩
 case round =>
  obtain ⟨k, rfl, hk, rfl⟩ := hrel
  by_cases hlt : k < n
  ·obtain ⟨g, cp, hga, _, _, _, _, hgc⟩ := zAz HR1.out.1 (by omega)
   obtain ⟨g2, cp2, hga2, _, _, _, _, hgc2⟩ := zAz HR1.out.2 (by omega)
   have e1 : w1.cell? ⟨g, k, none⟩ = some (.int .i64 (wsum (pcB S bl k) : Nat)) := by rw [hgc k (by omega)]; exact zGg S bl n k hlt
   have e2 : w1.cell? ⟨g2, k, none⟩ = some (.string (zAt B (pcB S bl k))) := by rw [hgc2 k (by omega)]; exact strongV_at B S bl n k hlt
   injection hga with hga _ _
   injection hga2 with hga2 _ _
   subst hga hga2
   have hx := zEQ (pcB S bl k)
   have hm := zFc B (pcB S bl k)
   generalize wsum (pcB S bl k) = x at e1 hx
   generalize zAt B (pcB S bl k) = mk at e2 hm
   have hx1 : ¬ ((x : Int) < 0) := by omega
   have hx2 : ¬ ((4294967295 : Int) < (x : Int)) := by omega
   have hm2 : ((mk.size : Int) != 32) = false := by rw [hm]; rfl
   clear hgc hgc2 hm
   go_wp2_with fail
   go_roundw
   case rel => exact ⟨k + 1, by go_num, by omega, trivial⟩
   case measure => simp [intOf]; omega
  ·go_wp2_with fail
   go_ret
   exact ⟨rfl, HB1.out⟩
end Go.Proofs.YtaemlplcjjbamaaGreatDoor
