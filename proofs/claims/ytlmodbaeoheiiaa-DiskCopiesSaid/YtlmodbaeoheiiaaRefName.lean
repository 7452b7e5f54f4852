/- The document's word on names. No condition. -/
import Derived.Test.YtlmodbaeoheiiaaRefFree
namespace Go.Proofs.Ytlmodbaeoheiiaa
open Go.RowKit
set_option linter.unusedVariables false

structure QS where
  files : List RF
  wait : List RP
  most : Int
  fuse : Int
  off : Bool
  count : Int
  made : Int
def RSt.pl (R : RSt) : QS := ⟨R.files, R.wait, R.most, R.fuse, R.off, R.count, R.made⟩
/-- the blocks of the document's device -/
def rfoot (q : Nat) (R : RSt) (k : Nat) : Prop := k = q ∨ R.fv.ownBlock = some k ∨ R.wv.ownBlock = some k
theorem rfoot_lt {w : World} {q : Nat} {R : RSt} (h : RefD w q R) {k : Nat} (hk : rfoot q R k) : k < w.heap.size := by
  rcases hk with rfl | hk | hk
  · exact h.blk.lt
  · exact (h.frow.lt k hk).2
  · exact (h.wrow.lt k hk).2
structure RDev (q : Nat) (R : RSt) (w : World) (R' : RSt) (w' : World) : Prop where
  at_ : RefD w' q R'
  touch : Touch (rfoot q R) w w'
  foot_ : ∀ k, rfoot q R' k → rfoot q R k ∨ w.heap.size ≤ k
theorem RefD.away {w w' : World} {q : Nat} {R : RSt} {P : Nat → Prop} (h : RefD w q R) (ht : Touch P w w') (hP : ∀ k, rfoot q R k → ¬ P k) : RefD w' q R :=
  h.touch ht (hP _ (Or.inl rfl)) (fun k hk => hP k (Or.inr (Or.inl hk))) (fun k hk => hP k (Or.inr (Or.inr hk)))
theorem RefD.below {w w' : World} {q : Nat} {R : RSt} (h : RefD w q R) (hb : Below w.heap.size w w') : RefD w' q R := h.away (Touch.of_below (S := fun _ => False) hb) (fun _ _ h => h)
theorem RDev.refl {q : Nat} {R : RSt} {w : World} (h : RefD w q R) : RDev q R w R w := ⟨h, Touch.refl _ _, fun _ hk => Or.inl hk⟩
theorem RDev.trans {q : Nat} {R R1 R2 : RSt} {w w1 w2 : World} (h1 : RDev q R w R1 w1) (h2 : RDev q R1 w1 R2 w2) : RDev q R w R2 w2 :=
  ⟨h2.at_, ⟨h2.touch.os.trans h1.touch.os, h2.touch.tape.trans h1.touch.tape, h2.touch.output.trans h1.touch.output, Nat.le_trans h1.touch.size h2.touch.size, fun k hk hn => by
    rw [h2.touch.block k (Nat.lt_of_lt_of_le hk h1.touch.size) (fun hf => by
      rcases h1.foot_ k hf with h | h
      · exact hn h
      · omega)]
    exact h1.touch.block k hk hn⟩, fun k hk => by
    rcases h2.foot_ k hk with h | h
    · exact h1.foot_ k h
    · right; have := h1.touch.size; omega⟩
theorem RDev.below {q : Nat} {R R' : RSt} {w w1 w2 : World} (h : RDev q R w R' w1) (hb : Below w1.heap.size w1 w2) : RDev q R w R' w2 :=
  h.trans ⟨h.at_.below hb, Touch.of_below hb, fun _ hk => Or.inl hk⟩
theorem RDev.after {q : Nat} {R R' : RSt} {w w1 w2 : World} (hb : Below w.heap.size w w1) (h : RDev q R w1 R' w2) : RDev q R w R' w2 :=
  ⟨h.at_, (Touch.of_below hb).trans h.touch, fun k hk => by
    rcases h.foot_ k hk with h1 | h1
    · exact Or.inl h1
    · right; have := hb.size; omega⟩
theorem RDev.setNum {q : Nat} {R R' : RSt} {w : World} (h : RefD w q R) (j : Nat) (v : Value) (hv : R'.vals = R.vals.set j v) (hf : R'.files = R.files) (hw : R'.wait = R.wait) (hfv : R'.fv = R.fv) (hwv : R'.wv = R.wv) : RDev q R w R' (w.setCell ⟨q, j, none⟩ v) :=
  ⟨h.setNum j v hv hf hw hfv hwv, (touch1_set (b := q) (Touch.refl _ w) v).mono (fun k _ hk => Or.inl hk), fun k hk => Or.inl (by unfold rfoot at hk ⊢; rw [hfv, hwv] at hk; exact hk)⟩
/-- another row of files -/
theorem RDev.newFiles {q : Nat} {R : RSt} {w w3 : World} {v : Value} {fs : List RF} (h : RefD w q R) (hown : w3.ownsRow 0 94 4 v fs.length (rfsVals fs)) (hT : Touch (fun k => R.fv.ownBlock = some k) w w3) (hv : ∀ k, v.ownBlock = some k → R.fv.ownBlock = some k ∨ w.heap.size ≤ k) :
    RDev q R w { R with fv := v, files := fs } (w3.setCell ⟨q, 0, none⟩ v) := by
  obtain ⟨h1, h2⟩ := h.ne
  have hB3 := h.blk.touch hT h1
  have T : Touch (fun k => k = q) w3 (w3.setCell ⟨q, 0, none⟩ v) := touch1_set (Touch.refl _ w3) _
  refine ⟨⟨hB3.set 0 v, row_touch hown T (fun g hg e => row_ne hown hB3 (by decide) (by rw [hg, e])), row_touch (row_touch h.wrow hT (fun g hg e => row_ne_row h.frow h.wrow (by decide) e hg)) T (fun g hg e => h2 (by rw [hg, e]))⟩, (hT.mono (fun k _ hk => Or.inr (Or.inl hk))).trans (T.mono (fun k _ hk => Or.inl hk)), ?_⟩
  intro k hk
  rcases hk with hk | hk | hk
  · exact Or.inl (Or.inl hk)
  · rcases hv k hk with hk | hk
    · exact Or.inl (Or.inr (Or.inl hk))
    · exact Or.inr hk
  · exact Or.inl (Or.inr (Or.inr hk))
/-- other pieces that wait -/
theorem RDev.newWait {q : Nat} {R : RSt} {w w3 : World} {v : Value} {ps : List RP} (h : RefD w q R) (hown : w3.ownsRow 0 96 3 v ps.length (rpsVals ps)) (hT : Touch (fun k => R.wv.ownBlock = some k) w w3) (hv : ∀ k, v.ownBlock = some k → R.wv.ownBlock = some k ∨ w.heap.size ≤ k) :
    RDev q R w { R with wv := v, wait := ps } (w3.setCell ⟨q, 1, none⟩ v) := by
  obtain ⟨h1, h2⟩ := h.ne
  have hB3 := h.blk.touch hT h2
  have T : Touch (fun k => k = q) w3 (w3.setCell ⟨q, 1, none⟩ v) := touch1_set (Touch.refl _ w3) _
  refine ⟨⟨hB3.set 1 v, row_touch (row_touch h.frow hT (fun g hg e => row_ne_row h.wrow h.frow (by decide) e hg)) T (fun g hg e => h1 (by rw [hg, e])), row_touch hown T (fun g hg e => row_ne hown hB3 (by decide) (by rw [hg, e]))⟩, (hT.mono (fun k _ hk => Or.inr (Or.inr hk))).trans (T.mono (fun k _ hk => Or.inl hk)), ?_⟩
  intro k hk
  rcases hk with hk | hk | hk
  · exact Or.inl (Or.inl hk)
  · exact Or.inl (Or.inr (Or.inl hk))
  · rcases hv k hk with hk | hk
    · exact Or.inl (Or.inr (Or.inr hk))
    · exact Or.inr hk
theorem rfsVals_length (l : List RF) : (rfsVals l).length = l.length * 4 := by
  induction l with
  | nil => rfl
  | cons p r ih =>
    show (rfVals p ++ rfsVals r).length = _
    rw [List.length_append, ih, List.length_cons]
    show 4 + _ = _
    omega
theorem rpsVals_length (l : List RP) : (rpsVals l).length = l.length * 3 := by
  induction l with
  | nil => rfl
  | cons p r ih =>
    show (rpVals p ++ rpsVals r).length = _
    rw [List.length_append, ih, List.length_cons]
    show 3 + _ = _
    omega
theorem rpsVals_at {l : List RP} {k : Nat} (hk : k < l.length) (j : Nat) (hj : j < 3) : (rpsVals l)[k * 3 + j]? = (rpVals l[k])[j]? := by
  induction l generalizing k with
  | nil => simp at hk
  | cons f r ih =>
    have hl : (rpVals f).length = 3 := rfl
    show ((rpVals f) ++ rpsVals r)[k * 3 + j]? = _
    cases k with
    | zero => rw [List.getElem?_append_left (by omega)]; simp
    | succ k =>
      rw [List.getElem?_append_right (by omega), hl, show (k + 1) * 3 + j - 3 = k * 3 + j by omega]
      exact ih (by simpa using hk)
/-- where a piece of the document's lies -/
theorem rpiece_at {w : World} {q : Nat} {R : RSt} (h : RefD w q R) (k : Nat) (hk : k < R.wait.length) :
    ∃ g cap, R.wv = .slice (some ⟨g, 0, none⟩) R.wait.length cap ∧ g < w.heap.size ∧ ∀ j, j < 3 → w.cell? ⟨g, k * 3 + j, none⟩ = (rpVals R.wait[k])[j]? := by
  obtain ⟨g, cap, hv, _, hlt, _, _, hc⟩ := row_some h.wrow (by omega)
  exact ⟨g, cap, hv, hlt, fun j hj => by rw [hc (k * 3 + j) (by omega), rpsVals_at hk j hj]⟩
theorem rfsVals_set1 {l : List RF} {k j : Nat} {f' : RF} {v : Value} (hk : k < l.length) (hj : j < 4) (hv : rfVals f' = (rfVals l[k]).set j v) : (rfsVals l).set (k * 4 + j) v = rfsVals (l.set k f') := by
  induction l generalizing k with
  | nil => simp at hk
  | cons f r ih =>
    cases k with
    | zero =>
      show (rfVals f ++ rfsVals r).set (0 * 4 + j) v = rfVals f' ++ rfsVals r
      rw [hv, Nat.zero_mul, Nat.zero_add, List.set_append_left _ _ (by show j < 4; exact hj)]
      rfl
    | succ k =>
      have h := ih (k := k) (by simpa using hk) (by simpa using hv)
      show (rfVals f ++ rfsVals r).set ((k + 1) * 4 + j) v = rfVals f ++ rfsVals (r.set k f')
      rw [← h, List.set_append_right _ _ (by show 4 ≤ _; omega)]
      congr 2
      show (k + 1) * 4 + j - 4 = _
      omega
/-- one field of a file of the document's turned -/
theorem RDev.setField {q g cap : Nat} {R : RSt} {w : World} (h : RefD w q R) (k j : Nat) (hk : k < R.files.length) (hj : j < 4) (f' : RF) (v : Value) (hg : R.fv = .slice (some ⟨g, 0, none⟩) R.files.length cap) (hv : rfVals f' = (rfVals R.files[k]).set j v) :
    RDev q R w { R with files := R.files.set k f' } (w.setCell ⟨g, k * 4 + j, none⟩ v) := by
  obtain ⟨h1, h2⟩ := h.frow
  rcases h2 with ⟨h2, _⟩ | ⟨g', cap', cur, hv', hb0, hb, hnc, hc, hs, ht⟩
  · rw [hg] at h2; cases h2
  · rw [hg] at hv'
    injection hv' with e1 e2 e3
    injection e1 with e1
    injection e1 with e1
    subst e1; subst e3
    have hown : R.fv.ownBlock = some g := by rw [hg]; rfl
    have hB : Blk w g cur.toList 94 := by unfold Blk; rw [hb]
    have hB' := hB.set (k * 4 + j) v
    have T : Touch (fun k => k = g) w (w.setCell ⟨g, k * 4 + j, none⟩ v) := touch1_set (Touch.refl _ w) _
    obtain ⟨n1, n2⟩ := h.ne
    refine ⟨⟨h.blk.touch T (fun e => n1 (by rw [hown, e])), ?_, row_touch h.wrow T (fun k' hk' e => row_ne_row h.frow h.wrow (by decide) hown (by rw [hk', e]))⟩, T.mono (fun k' _ e => Or.inr (Or.inl (by rw [hown, e]))), fun k' hk' => Or.inl hk'⟩
    show World.ownsRow _ 0 _ 4 R.fv (R.files.set k f').length (rfsVals (R.files.set k f'))
    rw [hg, List.length_set]
    refine ⟨by rw [rfsVals_length, List.length_set], Or.inr ⟨g, cap, (cur.toList.set (k * 4 + j) v).toArray, rfl, Nat.zero_le _, hB', hnc, hc, by simpa using hs, ?_⟩⟩
    show (cur.toList.set (k * 4 + j) v).take _ = _
    rw [List.take_set, ht, rfsVals_set1 hk hj hv]
end Go.Proofs.Ytlmodbaeoheiiaa
namespace Go.Proofs.Ytlmodbaeoheiiaa
open Go.RowKit
set_option linter.unusedVariables false

set_option maxRecDepth 100000 in
set_option maxHeartbeats 800000 in
theorem refName_any (s : ByteArray) (w : World) (hs : s.size ≤ 9223372036854775807) : Calls Try.prog 66 #[.string s] w fun e w' => e = .returned (.bool (okName s)) ∧ w = w' := by
  go_enter Try.func66, Try.ntmps66
  go_wp2_with fail
  go_loop [3] (fun i => ∃ k : Nat, k ≤ s.size ∧ i = .int .i64 k ∧ Hid (∀ x ∈ s.data.toList.take k, okByte x = true)) (fun i => s.size - (intOf i).toNat)
  case atStart => exact ⟨0, Nat.zero_le _, rfl, Lib.hid (by simp)⟩
  case round =>
    obtain ⟨k, hk, rfl, Hk⟩ := hrel
    by_cases hlt : k < s.size
    · have hb := (s[k]).toNat_lt
      by_cases hok : okByte s[k] = true
      · have hok2 := hok
        unfold okByte at hok2
        simp only [Bool.and_eq_true, decide_eq_true_eq] at hok2
        have hn := Lib.hid (show ∀ x ∈ s.data.toList.take (k + 1), okByte x = true from fun x hx => by
          rw [take_snoc s k hlt] at hx
          rcases List.mem_append.1 hx with h | h
          · exact Hk.out x h
          · rw [List.mem_singleton.1 h]; exact hok)
        clear hok
        go_wp2_with fail
        go_round
        case rel => exact ⟨k + 1, hlt, by go_num, hn⟩
        case measure => simp [intOf]; omega
      · have hall : okName s = false := by
          unfold okName
          have : s.data.toList.all okByte = false := by
            rw [List.all_eq_false]
            exact ⟨s[k], by rw [Array.mem_toList_iff]; exact Array.getElem_mem _, hok⟩
          rw [this]; rfl
        have Hall := Lib.hid hall
        have hok2 : (s[k]).toNat < 33 ∨ 126 < (s[k]).toNat := by
          unfold okByte at hok
          simp only [Bool.and_eq_true, decide_eq_true_eq] at hok
          omega
        clear hok hall
        rcases hok2 with h | h
        all_goals
          go_wp2_with fail
          go_ret
          exact ⟨by rw [Hall.out]; rfl, rfl⟩
    · obtain rfl : k = s.size := by omega
      have hok : okName s = (decide (0 < s.size) && decide (s.size ≤ 24)) := by
        unfold okName
        have : s.data.toList.all okByte = true := by
          rw [List.all_eq_true]
          intro x hx
          have h := Hk.out x
          rw [List.take_of_length_le (by rw [Array.length_toList]; exact Nat.le_refl _)] at h
          exact h hx
        rw [this]; rfl
      have Hok := Lib.hid hok
      by_cases h0 : s.size = 0
      · have he : okName s = false := by rw [hok, h0]; rfl
        have He := Lib.hid he
        obtain rfl := ByteArray.size_eq_zero_iff.1 h0
        clear hok h0 he
        go_wp2_with fail
        go_ret
        exact ⟨by rw [He.out]; rfl, rfl⟩
      · have hem2 := notEmpty s (by omega)
        have hem3 : ¬ s.toList = [] := by intro h; rw [h] at hem2; simp at hem2
        by_cases h24 : s.size ≤ 24
        · have He : Hid (okName s = true) := Lib.hid (by rw [hok, decide_eq_true (show 0 < s.size by omega), decide_eq_true h24]; rfl)
          clear hok
          go_wp2_with fail
          all_goals (go_ret; exact ⟨by rw [He.out]; exact ret_bool (by first | exact decide_eq_true (by omega) | exact decide_eq_false (by omega)), rfl⟩)
        · have He : Hid (okName s = false) := Lib.hid (by rw [hok, decide_eq_false h24, Bool.and_false])
          clear hok
          go_wp2_with fail
          all_goals (go_ret; exact ⟨by rw [He.out]; exact ret_bool (by first | exact decide_eq_true (by omega) | exact decide_eq_false (by omega)), rfl⟩)
end Go.Proofs.Ytlmodbaeoheiiaa
