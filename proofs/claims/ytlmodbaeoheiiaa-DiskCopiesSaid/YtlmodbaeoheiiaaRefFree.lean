/- How many sectors of the document's device are free. No condition but the sizes. -/
import Derived.Test.YtlmodbaeoheiiaaIndexGone
namespace Go.Proofs.Ytlmodbaeoheiiaa
open Go.RowKit
set_option linter.unusedVariables false

structure RF where
  id : Int
  name : ByteArray
  last : ByteArray
  seen : ByteArray
structure RP where
  id : Int
  at_ : Int
  text : ByteArray
structure RSt where
  fv : Value
  wv : Value
  files : List RF
  wait : List RP
  most : Int
  fuse : Int
  off : Bool
  count : Int
  made : Int
def rfVals (f : RF) : List Value := [.int .i64 f.id, .string f.name, .string f.last, .string f.seen]
def rpVals (p : RP) : List Value := [.int .i64 p.id, .int .i64 p.at_, .string p.text]
def rfsVals (l : List RF) : List Value := l.flatMap rfVals
def rpsVals (l : List RP) : List Value := l.flatMap rpVals
def RSt.vals (R : RSt) : List Value := [R.fv, R.wv, .int .i64 R.most, .int .i64 R.fuse, .bool R.off, .int .i64 R.count, .int .i64 R.made]
/-- the document's device in block q -/
structure RefD (w : World) (q : Nat) (R : RSt) : Prop where
  blk : Blk w q R.vals 52
  frow : w.ownsRow 0 94 4 R.fv R.files.length (rfsVals R.files)
  wrow : w.ownsRow 0 96 3 R.wv R.wait.length (rpsVals R.wait)
theorem rfsVals_at {l : List RF} {k : Nat} (hk : k < l.length) (j : Nat) (hj : j < 4) : (rfsVals l)[k * 4 + j]? = (rfVals l[k])[j]? := by
  induction l generalizing k with
  | nil => simp at hk
  | cons f r ih =>
    have hl : (rfVals f).length = 4 := rfl
    show ((rfVals f) ++ rfsVals r)[k * 4 + j]? = _
    cases k with
    | zero => rw [List.getElem?_append_left (by omega)]; simp
    | succ k =>
      rw [List.getElem?_append_right (by omega), hl, show (k + 1) * 4 + j - 4 = k * 4 + j by omega]
      exact ih (by simpa using hk)
/-- where a file of the document's lies -/
theorem rfile_at {w : World} {q : Nat} {R : RSt} (h : RefD w q R) (k : Nat) (hk : k < R.files.length) :
    ∃ g cap, R.fv = .slice (some ⟨g, 0, none⟩) R.files.length cap ∧ g < w.heap.size ∧ ∀ j, j < 4 → w.cell? ⟨g, k * 4 + j, none⟩ = (rfVals R.files[k])[j]? := by
  obtain ⟨g, cap, hv, _, hlt, _, _, hc⟩ := row_some h.frow (by omega)
  exact ⟨g, cap, hv, hlt, fun j hj => by rw [hc (k * 4 + j) (by omega), rfsVals_at hk j hj]⟩
/-- the place of a file -/
def refIdx (l : List RF) (s : ByteArray) : Int := match l.findIdx? (fun f => f.name.toList == s.toList) with | some k => (k : Int) | none => -1
theorem refIdx_some {l : List RF} {s : ByteArray} {k : Nat} (hk : k < l.length) (h : (l[k].name.toList == s.toList) = true) (hp : ∀ j (hj : j < l.length), j < k → (l[j].name.toList == s.toList) = false) : refIdx l s = k := by
  unfold refIdx
  rw [List.findIdx?_eq_some_iff_getElem.2 ⟨hk, h, fun j hj => by rw [hp j (by omega) hj]; decide⟩]
theorem refIdx_none {l : List RF} {s : ByteArray} (hp : ∀ j (hj : j < l.length), j < l.length → (l[j].name.toList == s.toList) = false) : refIdx l s = -1 := by
  unfold refIdx
  rw [List.findIdx?_eq_none_iff.2 (fun x hx => by
    obtain ⟨j, hj, rfl⟩ := List.mem_iff_getElem.1 hx
    exact hp j hj hj)]

set_option maxRecDepth 100000 in
set_option maxHeartbeats 800000 in
theorem refFind_any (q : Nat) (R : RSt) (s : ByteArray) (w : World) (h : RefD w q R) (hl : R.files.length ≤ 1000000) :
    Calls Try.prog 67 #[.pointer (some ⟨q, 0, none⟩), .string s] w fun e w' => e = .returned (.int .i64 (refIdx R.files s)) ∧ w = w' := by
  obtain ⟨ad, cap, hv⟩ := row_shape h.frow
  have c0 : w.cell? ⟨q, 0, none⟩ = some (.slice ad R.files.length cap) := by rw [← hv]; exact h.blk.cell 0
  have H := Lib.hid h
  have Hv := Lib.hid hv
  clear h hv
  go_enter Try.func67, Try.ntmps67
  go_wp2_with fail
  go_loop [5] (fun i => ∃ k : Nat, k ≤ R.files.length ∧ i = .int .i64 k ∧ Hid (∀ j (hj : j < R.files.length), j < k → (R.files[j].name.toList == s.toList) = false)) (fun i => R.files.length - (intOf i).toNat)
  case atStart => exact ⟨0, Nat.zero_le _, rfl, Lib.hid (fun j hj h => absurd h (by omega))⟩
  case round =>
    obtain ⟨k, hk, rfl, HP⟩ := hrel
    by_cases hlt : k < R.files.length
    · obtain ⟨g1, cap', hv', hgl, hc⟩ := rfile_at H.out k hlt
      rw [Hv.out] at hv'
      injection hv' with hv1 hv3 hv2
      clear hv3
      subst hv1; subst hv2
      have HS := Lib.hid (fun (hq : (R.files[k].name.toList == s.toList) = true) => refIdx_some hlt hq HP.out)
      have HN := Lib.hid (fun (hq : (R.files[k].name.toList == s.toList) = false) => (show ∀ j (hj : j < R.files.length), j < k + 1 → (R.files[j].name.toList == s.toList) = false from fun j hj hjk => by
        by_cases e : j = k
        · subst e; exact hq
        · exact HP.out j hj (by omega)))
      generalize R.files[k] = f at hc HS HN
      have hc1 : w.cell? ⟨g1, k * 4 + 1, none⟩ = some (.string f.name) := hc 1 (by omega)
      clear hc HP
      cases hq : (f.name.toList == s.toList) with
      | true =>
        have hfin := Lib.hid (HS.out hq)
        go_wp2_with fail
        go_ret
        exact ⟨by rw [hfin.out]; rfl, rfl⟩
      | false =>
        have hnext := Lib.hid (HN.out hq)
        go_wp2_with fail
        go_round
        case rel => exact ⟨k + 1, hlt, by go_num, hnext⟩
        case measure => simp [intOf]; omega
    · obtain rfl : k = R.files.length := by omega
      have hfin := Lib.hid (refIdx_none HP.out)
      go_wp2_with fail
      go_ret
      exact ⟨by rw [hfin.out]; rfl, rfl⟩
end Go.Proofs.Ytlmodbaeoheiiaa
namespace Go.Proofs.Ytlmodbaeoheiiaa
open Go.RowKit
set_option linter.unusedVariables false

theorem refIdx_cases (l : List RF) (s : ByteArray) : refIdx l s = -1 ∨ ∃ k : Nat, refIdx l s = k ∧ k < l.length := by
  unfold refIdx
  cases h : l.findIdx? (fun f => f.name.toList == s.toList) with
  | none => exact Or.inl rfl
  | some k =>
    obtain ⟨hk, _⟩ := List.findIdx?_eq_some_iff_getElem.1 h
    exact Or.inr ⟨k, rfl, hk⟩
theorem refOff (q : Nat) (R : RSt) (w : World) (h : RefD w q R) (b : Bool) (ho : R.off = b) : w.cell? ⟨q, 4, none⟩ = some (.bool b) := by
  rw [← ho]; exact h.blk.cell 4
def refSize (R : RSt) (s : ByteArray) : Value := if R.off then .tuple #[.int .i64 0, .int .i64 14] else if refIdx R.files s < 0 then .tuple #[.int .i64 0, .int .i64 8] else .tuple #[.int .i64 (((R.files[(refIdx R.files s).toNat]?.map RF.seen).getD ByteArray.empty).size : Nat), .int .i64 0]
set_option maxRecDepth 100000 in
set_option maxHeartbeats 800000 in
theorem refSize_any (q : Nat) (R : RSt) (s : ByteArray) (w : World) (h : RefD w q R) (hl : R.files.length ≤ 1000000) :
    Calls Try.prog 49 #[.pointer (some ⟨q, 0, none⟩), .string s] w fun e w' => e = .returned (refSize R s) ∧ w = w' := by
  have HF := Lib.hid (refFind_any q R s w h hl)
  cases ho : R.off with
  | true =>
    have d4 := refOff q R w h true ho
    have e0 : refSize R s = .tuple #[.int .i64 0, .int .i64 14] := by unfold refSize; rw [if_pos ho]
    rw [e0]
    clear h ho e0
    go_enter Try.func49, Try.ntmps49
    go_wp2_with fail
    go_ret2
    exact ⟨rfl, rfl⟩
  | false =>
    have d4 := refOff q R w h false ho
    have hno : ¬ (R.off = true) := by rw [ho]; decide
    rcases refIdx_cases R.files s with hx | ⟨k, hx, hk⟩
    · have e0 : refSize R s = .tuple #[.int .i64 0, .int .i64 8] := by unfold refSize; rw [if_neg hno, hx, if_pos (by decide)]
      rw [e0]
      rw [hx] at HF
      clear h ho hno hx e0
      go_enter Try.func49, Try.ntmps49
      go_wp2_with fail
      refine HF.out.mono ?_
      rintro e w' ⟨rfl, rfl⟩
      go_wp2_with fail
      go_ret2
      exact ⟨rfl, rfl⟩
    · have e0 : refSize R s = .tuple #[.int .i64 (R.files[k].seen.size : Nat), .int .i64 0] := by
        unfold refSize
        rw [if_neg hno, hx, if_neg (by omega), Int.toNat_natCast, List.getElem?_eq_getElem hk]; rfl
      rw [e0]
      rw [hx] at HF
      obtain ⟨g1, cap, hv, hgl, hc⟩ := rfile_at h k hk
      have c0 : w.cell? ⟨q, 0, none⟩ = some (.slice (some ⟨g1, 0, none⟩) R.files.length cap) := by rw [← hv]; exact h.blk.cell 0
      have c3 : w.cell? ⟨g1, k * 4 + 3, none⟩ = some (.string R.files[k].seen) := hc 3 (by omega)
      generalize R.files[k] = f at c3 ⊢
      clear h ho hno hx e0 hc hv
      go_enter Try.func49, Try.ntmps49
      go_wp2_with fail
      refine HF.out.mono ?_
      rintro e w' ⟨rfl, rfl⟩
      go_wp2_with fail
      go_ret2
      exact ⟨rfl, rfl⟩
end Go.Proofs.Ytlmodbaeoheiiaa
namespace Go.Proofs.Ytlmodbaeoheiiaa
open Go.RowKit
set_option linter.unusedVariables false

/-- bytes of a text from place a on, at most n -/
def partOf (t : ByteArray) (a n : Nat) : ByteArray := if n < t.size - a then (t.extract a t.size).extract 0 n else t.extract a t.size
set_option maxRecDepth 100000 in
set_option maxHeartbeats 800000 in
theorem refRead_off (q : Nat) (R : RSt) (s : ByteArray) (a n : Int) (w : World) (h : RefD w q R) (ho : R.off = true) :
    Calls Try.prog 50 #[.pointer (some ⟨q, 0, none⟩), .string s, .int .i64 a, .int .i64 n] w fun e w' => e = .returned (.tuple #[.string ByteArray.empty, .int .i64 14]) ∧ w = w' := by
  have d4 := refOff q R w h true ho
  clear h ho
  go_enter Try.func50, Try.ntmps50
  go_wp2_with fail
  go_ret2
  exact ⟨rfl, rfl⟩
set_option maxRecDepth 100000 in
set_option maxHeartbeats 800000 in
theorem refRead_none (q : Nat) (R : RSt) (s : ByteArray) (a n : Int) (w : World) (h : RefD w q R) (ho : R.off = false) (hl : R.files.length ≤ 1000000) (hx : refIdx R.files s = -1) :
    Calls Try.prog 50 #[.pointer (some ⟨q, 0, none⟩), .string s, .int .i64 a, .int .i64 n] w fun e w' => e = .returned (.tuple #[.string ByteArray.empty, .int .i64 8]) ∧ w = w' := by
  have HF := Lib.hid (refFind_any q R s w h hl)
  have d4 := refOff q R w h false ho
  rw [hx] at HF
  clear h ho hx
  go_enter Try.func50, Try.ntmps50
  go_wp2_with fail
  refine HF.out.mono ?_
  rintro e w' ⟨rfl, rfl⟩
  go_wp2_with fail
  go_ret2
  exact ⟨rfl, rfl⟩
set_option maxRecDepth 100000 in
set_option maxHeartbeats 800000 in
theorem refRead_range (q : Nat) (R : RSt) (s : ByteArray) (a n : Int) (k : Nat) (w : World) (h : RefD w q R) (ho : R.off = false) (hl : R.files.length ≤ 1000000) (hx : refIdx R.files s = k) (hr : a < 0 ∨ n < 0) :
    Calls Try.prog 50 #[.pointer (some ⟨q, 0, none⟩), .string s, .int .i64 a, .int .i64 n] w fun e w' => e = .returned (.tuple #[.string ByteArray.empty, .int .i64 2]) ∧ w = w' := by
  have HF := Lib.hid (refFind_any q R s w h hl)
  have d4 := refOff q R w h false ho
  have hd : (decide (a < 0) || decide (n < 0)) = true := by simp only [Bool.or_eq_true, decide_eq_true_eq]; exact hr
  rw [hx] at HF
  clear h ho hx
  by_cases h0 : a < 0
  · clear hr
    go_enter Try.func50, Try.ntmps50
    go_wp2_with fail
    refine HF.out.mono ?_
    rintro e w' ⟨rfl, rfl⟩
    go_wp2_with fail
    go_ret2
    exact ⟨rfl, rfl⟩
  · have h1 : n < 0 := by omega
    clear hr
    go_enter Try.func50, Try.ntmps50
    go_wp2_with fail
    refine HF.out.mono ?_
    rintro e w' ⟨rfl, rfl⟩
    go_wp2_with fail
    go_ret2
    exact ⟨rfl, rfl⟩
set_option maxRecDepth 100000 in
set_option maxHeartbeats 800000 in
theorem refRead_past (q : Nat) (R : RSt) (s : ByteArray) (a n : Int) (k : Nat) (hk : k < R.files.length) (w : World) (h : RefD w q R) (ho : R.off = false) (hl : R.files.length ≤ 1000000) (hx : refIdx R.files s = k) (ha : 0 ≤ a) (hn : 0 ≤ n) (hp : (R.files[k].seen.size : Int) ≤ a) :
    Calls Try.prog 50 #[.pointer (some ⟨q, 0, none⟩), .string s, .int .i64 a, .int .i64 n] w fun e w' => e = .returned (.tuple #[.string ByteArray.empty, .int .i64 0]) ∧ w = w' := by
  have HF := Lib.hid (refFind_any q R s w h hl)
  have d4 := refOff q R w h false ho
  obtain ⟨g1, cap, hv, hgl, hc⟩ := rfile_at h k hk
  have c0 : w.cell? ⟨q, 0, none⟩ = some (.slice (some ⟨g1, 0, none⟩) R.files.length cap) := by rw [← hv]; exact h.blk.cell 0
  have c3 : w.cell? ⟨g1, k * 4 + 3, none⟩ = some (.string R.files[k].seen) := hc 3 (by omega)
  have h1 : ¬ (a < 0) := by omega
  have h2 : ¬ (n < 0) := by omega
  rw [hx] at HF
  generalize R.files[k] = f at c3 hp
  clear h ho hx hc hv
  go_enter Try.func50, Try.ntmps50
  go_wp2_with fail
  refine HF.out.mono ?_
  rintro e w' ⟨rfl, rfl⟩
  go_wp2_with fail
  go_ret2
  exact ⟨rfl, rfl⟩
set_option maxRecDepth 100000 in
set_option maxHeartbeats 800000 in
theorem refRead_in (q : Nat) (R : RSt) (s : ByteArray) (a n : Nat) (k : Nat) (hk : k < R.files.length) (w : World) (h : RefD w q R) (ho : R.off = false) (hl : R.files.length ≤ 1000000) (hx : refIdx R.files s = k) (hp : a < R.files[k].seen.size) (hn : n ≤ 9223372036854775807) (hz : R.files[k].seen.size ≤ 9223372036854775807) :
    Calls Try.prog 50 #[.pointer (some ⟨q, 0, none⟩), .string s, .int .i64 (a : Int), .int .i64 (n : Int)] w fun e w' => e = .returned (.tuple #[.string (partOf R.files[k].seen a n), .int .i64 0]) ∧ w = w' := by
  have HF := Lib.hid (refFind_any q R s w h hl)
  have d4 := refOff q R w h false ho
  obtain ⟨g1, cap, hv, hgl, hc⟩ := rfile_at h k hk
  have c0 : w.cell? ⟨q, 0, none⟩ = some (.slice (some ⟨g1, 0, none⟩) R.files.length cap) := by rw [← hv]; exact h.blk.cell 0
  have c3 : w.cell? ⟨g1, k * 4 + 3, none⟩ = some (.string R.files[k].seen) := hc 3 (by omega)
  rw [hx] at HF
  generalize R.files[k] = f at c3 hp hz ⊢
  have hsz : (f.seen.extract a f.seen.size).size = f.seen.size - a := by rw [ByteArray.size_extract]; omega
  unfold partOf
  clear h ho hx hc hv
  by_cases hlt : n < f.seen.size - a
  · rw [if_pos hlt]
    go_enter Try.func50, Try.ntmps50
    go_wp2_with fail
    refine HF.out.mono ?_
    rintro e w' ⟨rfl, rfl⟩
    go_wp2_with fail
    go_ret2
    exact ⟨rfl, rfl⟩
  · rw [if_neg hlt]
    go_enter Try.func50, Try.ntmps50
    go_wp2_with fail
    refine HF.out.mono ?_
    rintro e w' ⟨rfl, rfl⟩
    go_wp2_with fail
    go_ret2
    exact ⟨rfl, rfl⟩
end Go.Proofs.Ytlmodbaeoheiiaa
namespace Go.Proofs.Ytlmodbaeoheiiaa
open Go.RowKit
set_option linter.unusedVariables false

theorem RefD.ne {w : World} {q : Nat} {R : RSt} (h : RefD w q R) : R.fv.ownBlock ≠ some q ∧ R.wv.ownBlock ≠ some q := ⟨row_ne h.frow h.blk (by decide), row_ne h.wrow h.blk (by decide)⟩
theorem RefD.touch {w w' : World} {q : Nat} {R : RSt} {P : Nat → Prop} (h : RefD w q R) (ht : Touch P w w') (h1 : ¬ P q) (h2 : ∀ k, R.fv.ownBlock = some k → ¬ P k) (h3 : ∀ k, R.wv.ownBlock = some k → ¬ P k) : RefD w' q R :=
  ⟨h.blk.touch ht h1, row_touch h.frow ht h2, row_touch h.wrow ht h3⟩
theorem RefD.setNum {w : World} {q : Nat} {R R' : RSt} (h : RefD w q R) (j : Nat) (v : Value) (hv : R'.vals = R.vals.set j v) (hf : R'.files = R.files) (hw : R'.wait = R.wait) (hfv : R'.fv = R.fv) (hwv : R'.wv = R.wv) : RefD (w.setCell ⟨q, j, none⟩ v) q R' := by
  obtain ⟨h1, h2⟩ := h.ne
  have T : Touch (fun k => k = q) w (w.setCell ⟨q, j, none⟩ v) := touch1_set (Touch.refl _ w) _
  refine ⟨by rw [hv]; exact h.blk.set j _, ?_, ?_⟩
  · rw [hf, hfv]; exact row_touch h.frow T (fun g hg e => h1 (by rw [hg, e]))
  · rw [hw, hwv]; exact row_touch h.wrow T (fun g hg e => h2 (by rw [hg, e]))
theorem refArm_off (q : Nat) (R : RSt) (n : Int) (w : World) (h : RefD w q R) (ho : R.off = true) :
    Calls Try.prog 54 #[.pointer (some ⟨q, 0, none⟩), .int .i64 n] w fun e w' => e = .returned (.int .i64 14) ∧ w = w' := by
  have d4 := refOff q R w h true ho
  clear h ho
  go_enter Try.func54, Try.ntmps54
  go_wp2_with fail
  go_ret
  exact ⟨rfl, rfl⟩
theorem refArm_low (q : Nat) (R : RSt) (n : Int) (w : World) (h : RefD w q R) (ho : R.off = false) (hn : n < 0) :
    Calls Try.prog 54 #[.pointer (some ⟨q, 0, none⟩), .int .i64 n] w fun e w' => e = .returned (.int .i64 1) ∧ w = w' := by
  have d4 := refOff q R w h false ho
  clear h ho
  go_enter Try.func54, Try.ntmps54
  go_wp2_with fail
  go_ret
  exact ⟨rfl, rfl⟩
theorem refArm_ok (q : Nat) (R : RSt) (n : Int) (w : World) (h : RefD w q R) (ho : R.off = false) (hn : 0 ≤ n) :
    Calls Try.prog 54 #[.pointer (some ⟨q, 0, none⟩), .int .i64 n] w fun e w' => e = .returned (.int .i64 0) ∧ RefD w' q { R with fuse := n } ∧ Touch (fun k => k = q) w w' := by
  have d4 := refOff q R w h false ho
  have d3 : w.cell? ⟨q, 3, none⟩ = some (.int .i64 R.fuse) := h.blk.cell 3
  have f3 := h.blk.free 3
  have hno : ¬ (n < 0) := by omega
  have H := Lib.hid h
  clear h ho
  go_enter Try.func54, Try.ntmps54
  go_wp2_with fail
  go_ret
  exact ⟨rfl, H.out.setNum 3 _ rfl rfl rfl rfl rfl, touch1_set (Touch.refl _ w) _⟩
end Go.Proofs.Ytlmodbaeoheiiaa
namespace Go.Proofs.Ytlmodbaeoheiiaa
open Go.RowKit
set_option linter.unusedVariables false

theorem refTaken_any (n : Nat) (w : World) (h : n ≤ 4611686018427387904) : Calls Try.prog 68 #[.int .i64 (n : Int)] w fun e w' => e = .returned (.int .i64 ((secs n : Nat) : Int)) ∧ w = w' := by
  unfold secs
  go_enter Try.func68, Try.ntmps68
  go_wp2
  go_ret
  exact ⟨ret_int (by omega), rfl⟩
def rsecs (f : RF) : Nat := secs (max f.seen.size f.last.size)
theorem refTakes_any (f : RF) (w : World) (h1 : f.seen.size ≤ 4194304) (h2 : f.last.size ≤ 4194304) : Calls Try.prog 69 #[.agg #[.int .i64 f.id, .string f.name, .string f.last, .string f.seen]] w fun e w' => e = .returned (.int .i64 ((rsecs f : Nat) : Int)) ∧ Below w.heap.size w w' := by
  unfold rsecs
  have HT1 := Lib.hid (fun w' => refTaken_any f.seen.size w' (by omega))
  have HT2 := Lib.hid (fun w' => refTaken_any f.last.size w' (by omega))
  by_cases hlt : f.last.size < f.seen.size
  · rw [Nat.max_eq_left (by omega)]
    go_enter Try.func69, Try.ntmps69
    go_wp2_with fail
    refine (HT1.out _).mono ?_
    rintro e w' ⟨rfl, rfl⟩
    go_wp2_with fail
    go_ret
    exact ⟨rfl, (Below.refl _ _).alloc (Nat.le_refl _) _⟩
  · rw [Nat.max_eq_right (by omega)]
    go_enter Try.func69, Try.ntmps69
    go_wp2_with fail
    refine (HT2.out _).mono ?_
    rintro e w' ⟨rfl, rfl⟩
    go_wp2_with fail
    go_ret
    exact ⟨rfl, (Below.refl _ _).alloc (Nat.le_refl _) _⟩
end Go.Proofs.Ytlmodbaeoheiiaa
namespace Go.Proofs.Ytlmodbaeoheiiaa
open Go.RowKit
set_option linter.unusedVariables false

def rused (l : List RF) : Nat := (l.map rsecs).sum
def RSmall (l : List RF) : Prop := ∀ f ∈ l, f.seen.size ≤ 4194304 ∧ f.last.size ≤ 4194304
theorem rused_take {l : List RF} {k : Nat} (hk : k < l.length) : rused (l.take (k + 1)) = rused (l.take k) + rsecs l[k] := by
  unfold rused
  rw [List.take_succ_eq_append_getElem hk, List.map_append, List.sum_append]
  simp
theorem rused_le {l : List RF} (h : RSmall l) : rused l ≤ l.length * 65537 := by
  unfold rused
  induction l with
  | nil => simp
  | cons f r ih =>
    have h1 := h f (List.mem_cons_self ..)
    have h2 := ih (fun g hg => h g (List.mem_cons_of_mem _ hg))
    have h3 : rsecs f ≤ 65537 := by unfold rsecs secs; omega
    simp only [List.map_cons, List.sum_cons, List.length_cons]
    rw [Nat.add_mul]
    omega
set_option maxRecDepth 100000 in
set_option maxHeartbeats 800000 in
theorem refFree_any (q : Nat) (R : RSt) (w : World) (h : RefD w q R) (hl : R.files.length ≤ 1000000) (hs : RSmall R.files) (hm : 0 ≤ R.most ∧ R.most ≤ 32768) :
    Calls Try.prog 57 #[.pointer (some ⟨q, 0, none⟩)] w fun e w' => e = .returned (.int .i64 (R.most - (rused R.files : Nat))) ∧ Below w.heap.size w w' := by
  obtain ⟨ad, cap, hv⟩ := row_shape h.frow
  have c0 : w.cell? ⟨q, 0, none⟩ = some (.slice ad R.files.length cap) := by rw [← hv]; exact h.blk.cell 0
  have c2 : w.cell? ⟨q, 2, none⟩ = some (.int .i64 R.most) := h.blk.cell 2
  have H := Lib.hid h
  have Hv := Lib.hid hv
  have HQ := Lib.hid h.blk.lt
  have HC0 := Lib.hid c0
  have Hs := Lib.hid hs
  clear h hv hs c0
  go_enter Try.func57, Try.ntmps57
  go_wp2_with fail
  clear c2
  go_loopw [3, 4] (fun u i wr => ∃ k : Nat, k ≤ R.files.length ∧ i = .int .i64 k ∧ u = .int .i64 (R.most - (rused (R.files.take k) : Nat)) ∧ Hid (Below w.heap.size w wr)) (fun _ i _ => R.files.length - (intOf i).toNat)
  case atStart => exact ⟨0, Nat.zero_le _, rfl, by simp [rused], Lib.hid (Below.refl _ _)⟩
  case round =>
    obtain ⟨k, hk, rfl, rfl, HB⟩ := hrel
    have c0 := (HB.out.cell (p := ⟨q, 0, none⟩) HQ.out).trans HC0.out
    by_cases hlt : k < R.files.length
    · obtain ⟨g1, cap', hv', hgl, hc⟩ := rfile_at H.out k hlt
      rw [Hv.out] at hv'
      injection hv' with hv1 hv3 hv2
      clear hv3
      subst hv1; subst hv2
      obtain ⟨hs1, hs2⟩ := Hs.out R.files[k] (List.getElem_mem hlt)
      have hus : rused (R.files.take k) ≤ 1000000 * 65537 := by
        have h1 := rused_le (l := R.files.take k) (fun f hf => Hs.out f (List.mem_of_mem_take hf))
        have h2 : (R.files.take k).length ≤ 1000000 := by rw [List.length_take]; omega
        exact Nat.le_trans h1 (Nat.mul_le_mul_right _ h2)
      have htk := rused_take hlt
      generalize R.files[k] = f at hc hs1 hs2 htk
      have hsl : rsecs f ≤ 65537 := by unfold rsecs secs; omega
      have HT := Lib.hid (refTakes_any f wr hs1 hs2)
      have Htk := Lib.hid htk
      generalize rused (R.files.take k) = U at hus Htk ⊢
      have hc0 : wr.cell? ⟨g1, k * 4, none⟩ = some (.int .i64 f.id) := (HB.out.cell (p := ⟨g1, k * 4, none⟩) hgl).trans (hc 0 (by omega))
      have hc1 : wr.cell? ⟨g1, k * 4 + 1, none⟩ = some (.string f.name) := (HB.out.cell (p := ⟨g1, k * 4 + 1, none⟩) hgl).trans (hc 1 (by omega))
      have hc2 : wr.cell? ⟨g1, k * 4 + 2, none⟩ = some (.string f.last) := (HB.out.cell (p := ⟨g1, k * 4 + 2, none⟩) hgl).trans (hc 2 (by omega))
      have hc3 : wr.cell? ⟨g1, k * 4 + 3, none⟩ = some (.string f.seen) := (HB.out.cell (p := ⟨g1, k * 4 + 3, none⟩) hgl).trans (hc 3 (by omega))
      clear hc htk hs1 hs2
      go_wp2_with fail
      refine HT.out.mono ?_
      rintro e w1 ⟨rfl, hb1⟩
      have HB1 := Lib.hid (HB.out.trans (hb1.mono HB.out.size))
      have Hwr := Lib.hid (show wrap64 (R.most - (U : Int) - ((rsecs f : Nat) : Int)) = R.most - ((U + rsecs f : Nat) : Int) by unfold wrap64; omega)
      clear hb1 hc0 hc1 hc2 hc3 HT
      go_wp2_with fail
      go_roundw
      case rel => exact ⟨k + 1, hlt, by go_num, by first | rw [Htk.out, Hwr.out] | (rw [Htk.out]; congr 1; omega), HB1⟩
      case measure => simp [intOf]; omega
    · obtain rfl : k = R.files.length := by omega
      go_wp2_with fail
      go_ret
      exact ⟨ret_int (by rw [List.take_length]), HB.out⟩
end Go.Proofs.Ytlmodbaeoheiiaa
