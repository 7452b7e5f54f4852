/- Sync and Arm. Conditions: sizes. -/
import Derived.Test.YtaeklleogniimaaGreatDoorLast
namespace Go.Proofs.YtaeklleogniimaaGreatDoor
open Go.RowKit
set_option linter.unusedVariables false

def SmallP (l : List PF) : Prop := ∀ f ∈ l, f.seen.length ≤ 4194304 ∧ f.last.length ≤ 4194304
theorem small_pl {l : List DFile} : SmallP (l.map DFile.pl) ↔ Small l := by
  unfold SmallP Small
  constructor
  · intro h f hf; exact h _ (List.mem_map_of_mem hf)
  · intro h f hf
    obtain ⟨g, hg, rfl⟩ := List.mem_map.1 hf
    exact h g hg
theorem small_lastF {l : List PF} {p : DPiece} {n : Nat} (h : SmallP l) (hp : OkPiece p) (hn : n ≤ p.text.size) : SmallP (l.map (lastF p n)) := by
  intro f hf
  obtain ⟨g, hg, rfl⟩ := List.mem_map.1 hf
  obtain ⟨h1, h2, h3⟩ := hp
  have := h g hg
  unfold lastF
  split
  · refine ⟨this.1, ?_⟩
    show (layB _ _ _).length ≤ _
    rw [layB_length, take_size hn]
    unfold spot
    omega
  · exact this
/-- all that waits lasts -/
def syncF (l : List DPiece) (fs : List PF) : List PF := l.foldl (fun fs p => fs.map (lastF p p.text.size)) fs
theorem syncF_snoc {l : List DPiece} {k : Nat} (hk : k < l.length) (fs : List PF) : syncF (l.take (k + 1)) fs = (syncF (l.take k) fs).map (lastF l[k] l[k].text.size) := by
  unfold syncF
  rw [List.take_succ_eq_append_getElem hk, List.foldl_append]
  rfl
theorem waitVals_length (l : List DPiece) : (waitVals l).length = l.length * 4 := by
  unfold waitVals
  induction l with
  | nil => rfl
  | cons p r ih => rw [List.flatMap_cons, List.length_append, ih]; simp [pieceVals]; omega
theorem waitVals_at {l : List DPiece} {k : Nat} (hk : k < l.length) (j : Nat) (hj : j < 4) : (waitVals l)[k * 4 + j]? = (pieceVals l[k])[j]? := by
  unfold waitVals
  induction l generalizing k with
  | nil => simp at hk
  | cons p r ih =>
    rw [List.flatMap_cons]
    have hl : (pieceVals p).length = 4 := rfl
    cases k with
    | zero => rw [List.getElem?_append_left (by omega)]; simp
    | succ k =>
      rw [List.getElem?_append_right (by omega), hl, show (k + 1) * 4 + j - 4 = k * 4 + j by omega]
      exact ih (by simpa using hk)
/-- where a waiting piece lies -/
theorem wait_at {w : World} {b : Nat} {S : DSt} (h : DiskAt w b S) (k : Nat) (hk : k < S.wait.length) :
    ∃ g cap, S.wv = .slice (some ⟨g, 0, none⟩) S.wait.length cap ∧ g < w.heap.size ∧ ∀ j, j < 4 → w.cell? ⟨g, k * 4 + j, none⟩ = (pieceVals S.wait[k])[j]? := by
  obtain ⟨g, cap, hv, _, hlt, _, _, hc⟩ := row_some h.wrow (by omega)
  exact ⟨g, cap, hv, hlt, fun j hj => by rw [hc (k * 4 + j) (by omega), waitVals_at hk j hj]⟩

/-- nothing waits any more -/
theorem Dev.noWait {w : World} {b : Nat} {S : DSt} (h : DiskAt w b S) : Dev b S w { S with wv := .slice none 0 0, wait := [] } (w.setCell ⟨b, 1, none⟩ (.slice none 0 0)) := by
  obtain ⟨h1, h2, h3⟩ := h.b_ne
  have T : Touch (fun k => k = b) w (w.setCell ⟨b, 1, none⟩ (.slice none 0 0)) := touch1_set (Touch.refl _ w) _
  refine ⟨⟨h.blk.set 1 _, row_touch h.frow T (fun g hg e => h1 (by rw [hg, e])), World.ownsRow_nil _ _ _ _, fun f hf => (h.fat f hf).touch T (h3 f hf).1 (fun k hk e => (h3 f hf).2 (e ▸ hk)), h.apart⟩, T.mono (fun k _ hk => Or.inl hk), ?_⟩
  intro k hk
  rcases hk with hk | hk | hk | hk
  · exact Or.inl (Or.inl hk)
  · exact Or.inl (Or.inr (Or.inl hk))
  · cases hk
  · exact Or.inl (Or.inr (Or.inr (Or.inr hk)))
/-- a number of the device is set -/
theorem Dev.setNum {w : World} {b : Nat} {S S' : DSt} (h : DiskAt w b S) (j : Nat) (v : Value) (hv : S'.vals = S.vals.set j v) (hf : S'.files = S.files) (hw : S'.wait = S.wait) (hfv : S'.fv = S.fv) (hwv : S'.wv = S.wv) : Dev b S w S' (w.setCell ⟨b, j, none⟩ v) := by
  obtain ⟨h1, h2, h3⟩ := h.b_ne
  have T : Touch (fun k => k = b) w (w.setCell ⟨b, j, none⟩ v) := touch1_set (Touch.refl _ w) _
  refine ⟨⟨by rw [hv]; exact h.blk.set j _, ?_, ?_, ?_, by rw [hf]; exact h.apart⟩, T.mono (fun k _ hk => Or.inl hk), ?_⟩
  · rw [hf, hfv]; exact row_touch h.frow T (fun g hg e => h1 (by rw [hg, e]))
  · rw [hw, hwv]; exact row_touch h.wrow T (fun g hg e => h2 (by rw [hg, e]))
  · intro f hf2
    rw [hf] at hf2
    exact (h.fat f hf2).touch T (h3 f hf2).1 (fun k hk e => (h3 f hf2).2 (e ▸ hk))
  · intro k hk
    unfold foot at hk
    rw [hf, hfv, hwv] at hk
    exact Or.inl hk

theorem ready_on (b : Nat) (S : DSt) (w : World) (h : DiskAt w b S) (ho : S.off = false) : Calls Tryz.prog 71 #[.pointer (some ⟨b, 0, none⟩)] w fun e w' => e = .returned (.int .i64 0) ∧ w = w' := by
  have := ready_any b S w h
  rw [ho] at this
  exact this
theorem sync_off (b : Nat) (S : DSt) (w : World) (h : DiskAt w b S) (ho : S.off = true) : Calls Tryz.prog 145 #[.pointer (some ⟨b, 0, none⟩)] w fun e w' => e = .returned (.int .i64 14) ∧ w = w' := by
  have hr := Lib.hid (ready_any b S w h)
  rw [ho] at hr
  clear h
  go_enter Tryz.func145, Tryz.ntmps145
  go_wp2_with fail
  refine hr.out.mono ?_
  rintro e w' ⟨rfl, rfl⟩
  go_wp2_with fail
  go_ret
  exact ⟨rfl, rfl⟩
theorem arm_off (b : Nat) (S : DSt) (n : Int) (w : World) (h : DiskAt w b S) (ho : S.off = true) : Calls Tryz.prog 67 #[.pointer (some ⟨b, 0, none⟩), .int .i64 n] w fun e w' => e = .returned (.int .i64 14) ∧ w = w' := by
  have hr := Lib.hid (ready_any b S w h)
  rw [ho] at hr
  clear h
  go_enter Tryz.func67, Tryz.ntmps67
  go_wp2_with fail
  refine hr.out.mono ?_
  rintro e w' ⟨rfl, rfl⟩
  go_wp2_with fail
  go_ret
  exact ⟨rfl, rfl⟩
theorem arm_low (b : Nat) (S : DSt) (n : Int) (w : World) (h : DiskAt w b S) (ho : S.off = false) (hn : n < 0) : Calls Tryz.prog 67 #[.pointer (some ⟨b, 0, none⟩), .int .i64 n] w fun e w' => e = .returned (.int .i64 1) ∧ w = w' := by
  have hr := Lib.hid (ready_any b S w h)
  rw [ho] at hr
  clear h
  go_enter Tryz.func67, Tryz.ntmps67
  go_wp2_with fail
  refine hr.out.mono ?_
  rintro e w' ⟨rfl, rfl⟩
  go_wp2_with fail
  go_ret
  exact ⟨rfl, rfl⟩
theorem arm_ok (b : Nat) (S : DSt) (n : Int) (w : World) (h : DiskAt w b S) (ho : S.off = false) (hn : 0 ≤ n) : Calls Tryz.prog 67 #[.pointer (some ⟨b, 0, none⟩), .int .i64 n] w fun e w' => e = .returned (.int .i64 0) ∧ Dev b S w { S with fuse := n } w' := by
  have hr := Lib.hid (ready_any b S w h)
  rw [ho] at hr
  have c3 : w.cell? ⟨b, 3, none⟩ = some (.int .i64 S.fuse) := h.blk.cell 3
  have f3 := h.blk.free 3
  have HD := Lib.hid (Dev.setNum (S' := { S with fuse := n }) h 3 (.int .i64 n) rfl rfl rfl rfl rfl)
  clear h
  go_enter Tryz.func67, Tryz.ntmps67
  go_wp2_with fail
  refine hr.out.mono ?_
  rintro e w' ⟨rfl, rfl⟩
  go_wp2_with fail
  go_ret
  exact ⟨rfl, HD.out⟩

set_option maxRecDepth 100000 in
set_option maxHeartbeats 4000000 in
theorem sync_ok (b : Nat) (S : DSt) (w : World) (h : DiskAt w b S) (ho : S.off = false) (hl : S.files.length ≤ 1000000000) (hsm : Small S.files) (hp : ∀ p ∈ S.wait, OkPiece p) (hwl : S.wait.length ≤ 1000000000) :
    Calls Tryz.prog 145 #[.pointer (some ⟨b, 0, none⟩)] w fun e w' => e = .returned (.int .i64 0) ∧ ∃ fs, Dev b S w { S with files := fs, wv := .slice none 0 0, wait := [] } w' ∧ fs.map DFile.pl = syncF S.wait (S.files.map DFile.pl) := by
  have hr := Lib.hid (ready_on b S w h ho)
  clear ho
  obtain ⟨ad, cap, hv⟩ := row_shape h.wrow
  have c1 : w.cell? ⟨b, 1, none⟩ = some (.slice ad S.wait.length cap) := by rw [← hv]; exact h.blk.cell 1
  have hbl := h.blk.lt
  have H := Lib.hid h
  have Hv := Lib.hid hv
  have Hsm := Lib.hid (small_pl.2 hsm)
  have Hp := Lib.hid hp
  clear h hv hsm hp
  go_enter Tryz.func145, Tryz.ntmps145
  go_wp2_with fail
  refine hr.out.mono ?_
  rintro e w' ⟨rfl, rfl⟩
  go_wp2_with fail
  go_loopw [16] (fun i wr => ∃ (k : Nat) (fs : List DFile), i = .int .i64 k ∧ k ≤ S.wait.length ∧ Hid (fs.length = S.files.length) ∧ Hid (fs.map DFile.pl = syncF (S.wait.take k) (S.files.map DFile.pl)) ∧ Hid (SmallP (fs.map DFile.pl)) ∧ Hid (Dev b S w { S with files := fs } wr)) (fun i _ => S.wait.length - (intOf i).toNat)
  case atStart => exact ⟨0, S.files, rfl, Nat.zero_le _, Lib.hid rfl, Lib.hid (by simp [syncF]), Hsm, Lib.hid (Dev.refl H.out)⟩
  case round =>
    obtain ⟨k, fs, rfl, hk, Hlen, Hpl, Hsk, HD⟩ := hrel
    by_cases hlt : k < S.wait.length
    · obtain ⟨g, cap', hv', hgl, hc⟩ := wait_at HD.out.at_ k hlt
      replace hv' : S.wv = .slice (some ⟨g, 0, none⟩) S.wait.length cap' := hv'
      rw [Hv.out] at hv'
      injection hv' with hv1 hvl hv2
      subst hv1; subst hv2
      clear hvl
      have hq0 := hc 0 (by omega)
      have hq1 := hc 1 (by omega)
      have hq2 := hc 2 (by omega)
      have hq3 := hc 3 (by omega)
      have Hsn := Lib.hid (syncF_snoc hlt (S.files.map DFile.pl))
      have Hpk := Lib.hid (Hp.out _ (List.getElem_mem hlt))
      replace hq0 : wr.cell? ⟨g, k * 4, none⟩ = some (.int .i64 S.wait[k].id) := hq0
      replace hq1 : wr.cell? ⟨g, k * 4 + 1, none⟩ = some (.int .i64 S.wait[k].at_) := hq1
      replace hq2 : wr.cell? ⟨g, k * 4 + 2, none⟩ = some (.int .i64 S.wait[k].from_) := hq2
      replace hq3 : wr.cell? ⟨g, k * 4 + 3, none⟩ = some (.string S.wait[k].text) := hq3
      generalize S.wait[k] = p at hq0 hq1 hq2 hq3 Hsn Hpk
      have hts : p.text.size ≤ 2097152 := by obtain ⟨h1, h2, h3⟩ := Hpk.out; omega
      clear hc c1
      go_wp2_with fail
      have hDA := HD.out.below (w2 := wr.alloc (Obj.cells #[Value.int IntKind.i64 p.id, Value.int IntKind.i64 p.at_, Value.int IntKind.i64 p.from_, Value.string p.text] 198)) ((Below.refl _ _).alloc (Nat.le_refl _) _)
      have HDA := Lib.hid hDA
      have HLA := Lib.hid (last_any b { S with files := fs } p p.text.size _ hDA.at_ (by show fs.length ≤ _; rw [Hlen.out]; exact hl) (small_pl.1 Hsk.out) Hpk.out (Nat.le_refl _))
      clear hDA hq0 hq1 hq2 hq3
      refine HLA.out.mono ?_
      rintro e wB ⟨rfl, fs2, hD2, hpl2⟩
      have HD2 := Lib.hid (HDA.out.trans hD2)
      have Hpl2 := Lib.hid (show fs2.map DFile.pl = syncF (S.wait.take (k + 1)) (S.files.map DFile.pl) by rw [hpl2, Hsn.out, Hpl.out])
      have Hlen2 := Lib.hid (show fs2.length = S.files.length by
        have := congrArg List.length hpl2
        simp only [List.length_map] at this
        rw [this]; exact Hlen.out)
      have Hs2 := Lib.hid (show SmallP (fs2.map DFile.pl) by rw [hpl2]; exact small_lastF Hsk.out Hpk.out (Nat.le_refl _))
      clear hD2 hpl2
      go_wp2_with fail
      go_roundw
      case rel => exact ⟨k + 1, fs2, by go_num, by omega, Hlen2, Hpl2, Hs2, HD2⟩
      case measure => simp [intOf]; omega
    · obtain rfl : k = S.wait.length := by omega
      have hcw : wr.cell? ⟨b, 1, none⟩ = some S.wv := HD.out.at_.blk.cell 1
      have hfw := HD.out.at_.blk.free 1
      have HN := Lib.hid (HD.out.trans (Dev.noWait HD.out.at_))
      clear c1
      go_wp2_with fail
      go_ret
      refine ⟨rfl, fs, HN.out, ?_⟩
      rw [Hpl.out, List.take_length]
end Go.Proofs.YtaeklleogniimaaGreatDoor
