/- What lasts of a piece: the walk of last. Conditions: sizes. -/
import Derived.Test.YtaeklleogniimaaGreatDoorFlat
import Derived.StillTailTactics
namespace Go.Proofs.YtaeklleogniimaaGreatDoor
open Go.RowKit
set_option linter.unusedVariables false

/-- a piece that lies within a device -/
def OkPiece (p : DPiece) : Prop := 0 ≤ p.at_ ∧ 0 ≤ p.from_ ∧ p.at_ * 64 + p.from_ + (p.text.size : Nat) ≤ 2097152
def spot (p : DPiece) : Nat := (p.at_ * 64 + p.from_).toNat
def lastF (p : DPiece) (n : Nat) (f : PF) : PF := if f.id = p.id ∧ 0 < n then { f with last := layB f.last (spot p) (p.text.data.toList.take n) } else f
theorem extract_take (t : ByteArray) (n : Nat) : (t.extract 0 n).data.toList = t.data.toList.take n := by
  rw [ByteArray.data_extract, Array.toList_extract]
  simp [List.extract_eq_take_drop]
theorem take_size {t : ByteArray} {n : Nat} (h : n ≤ t.size) : (t.data.toList.take n).length = n := by
  rw [List.length_take, Array.length_toList]
  exact Nat.min_eq_left h
theorem take_files {l : List PF} {k : Nat} (hk : k < l.length) (F : PF → PF) : (l.take (k + 1)).map F ++ l.drop (k + 1) = ((l.take k).map F ++ l.drop k).set k (F l[k]) := by
  have e1 : (l.take k).length = k := by rw [List.length_take]; omega
  rw [List.take_succ_eq_append_getElem hk, List.map_append, List.append_assoc, List.set_append_right _ _ (by rw [List.length_map]; omega), List.length_map, e1, Nat.sub_self, List.drop_eq_getElem_cons hk]
  rfl

set_option maxRecDepth 100000 in
set_option maxHeartbeats 4000000 in
theorem last_any (b : Nat) (S : DSt) (p : DPiece) (n : Nat) (w : World) (h : DiskAt w b S) (hl : S.files.length ≤ 1000000000) (hsm : Small S.files) (hp : OkPiece p) (hn : n ≤ p.text.size) :
    Calls Tryz.prog 130 #[.pointer (some ⟨b, 0, none⟩), .agg #[.int .i64 p.id, .int .i64 p.at_, .int .i64 p.from_, .string p.text], .int .i64 n] w fun e w' => e = .returned (.tuple #[]) ∧ ∃ fs, Dev b S w { S with files := fs } w' ∧ fs.map DFile.pl = (S.files.map DFile.pl).map (lastF p n) := by
  obtain ⟨hp1, hp2, hp3⟩ := hp
  obtain ⟨ad, cap, hv⟩ := row_shape h.frow
  have c0 : w.cell? ⟨b, 0, none⟩ = some (.slice ad S.files.length cap) := by rw [← hv]; exact h.blk.cell 0
  have hbl := h.blk.lt
  have H := Lib.hid h
  have Hv := Lib.hid hv
  have Hsm := Lib.hid hsm
  obtain ⟨pid, pat, pfr, ptx⟩ := p
  simp only at hp1 hp2 hp3 hn ⊢
  clear h hv hsm
  go_enter Tryz.func130, Tryz.ntmps130
  go_wp2
  have hbw : b < w.heap.size + 1 := by omega
  have Hbox0 : Hid (Blk (w.alloc (Obj.cells #[Value.int IntKind.i64 pid, Value.int IntKind.i64 pat, Value.int IntKind.i64 pfr, Value.string ptx] 198)) w.heap.size [.int .i64 pid, .int .i64 pat, .int .i64 pfr, .string ptx] 198) := Blk.new w _ _
  have HD0 : Hid (Dev b S w S (w.alloc (Obj.cells #[Value.int IntKind.i64 pid, Value.int IntKind.i64 pat, Value.int IntKind.i64 pfr, Value.string ptx] 198))) := (Dev.refl H.out).below ((Below.refl _ _).alloc (Nat.le_refl _) _)
  go_loopw [14] (fun i wr => ∃ (k : Nat) (fs : List DFile), i = .int .i64 k ∧ k ≤ S.files.length ∧ Hid (fs.length = S.files.length) ∧ Hid (fs.map DFile.pl = ((S.files.map DFile.pl).take k).map (lastF ⟨pid, pat, pfr, ptx⟩ n) ++ (S.files.map DFile.pl).drop k) ∧ Hid (Dev b S w { S with files := fs } wr) ∧ Hid (Blk wr w.heap.size [.int .i64 pid, .int .i64 pat, .int .i64 pfr, .string ptx] 198)) (fun i _ => S.files.length - (intOf i).toNat)
  case atStart => exact ⟨0, S.files, rfl, Nat.zero_le _, Lib.hid rfl, Lib.hid (by simp), HD0, Hbox0⟩
  case round =>
    obtain ⟨k, fs, rfl, hk, Hlen, Hpl, HD, Hbox⟩ := hrel
    by_cases hlt : k < S.files.length
    · have hlt2 : k < fs.length := by rw [Hlen.out]; exact hlt
      obtain ⟨g, cap', hv', hgl, hc⟩ := fptrs_at HD.out.at_ k hlt2
      replace hv' : S.fv = .slice (some ⟨g, 0, none⟩) fs.length cap' := hv'
      rw [Hv.out] at hv'
      injection hv' with hv1 hvl hv2
      subst hv1; subst hv2
      clear hvl
      replace hc : wr.cell? ⟨g, k, none⟩ = some (.pointer (some ⟨fs[k].g, 0, none⟩)) := hc
      have hF : FileAt wr fs[k] := HD.out.at_.fat _ (List.getElem_mem hlt2)
      have hplk : fs[k].pl = S.files[k].pl := by
        have h1 : (fs.map DFile.pl)[k]? = some fs[k].pl := by rw [List.getElem?_map, List.getElem?_eq_getElem hlt2]; rfl
        rw [Hpl.out, List.getElem?_append_right (by simp; omega)] at h1
        simp only [List.length_map, List.length_take, Nat.min_eq_left hk] at h1
        rw [List.getElem?_drop] at h1
        simp [hlt] at h1
        exact h1.symm
      have hsm : fs[k].seen.length ≤ 4194304 ∧ fs[k].last.length ≤ 4194304 := by
        have := Hsm.out _ (List.getElem_mem hlt)
        have e1 : fs[k].seen = S.files[k].seen := congrArg PF.seen hplk
        have e2 : fs[k].last = S.files[k].last := congrArg PF.last hplk
        rw [e1, e2]; exact this
      have Hset := Lib.hid (fun (w' : World) (f' : DFile) (hg : f'.g = fs[k].g) (hF' : FileAt w' f') (ht : Touch (fun j => j = fs[k].g ∨ buf fs[k] j) wr w') (hn' : ∀ j, buf f' j → buf fs[k] j ∨ wr.heap.size ≤ j) =>
        Dev.setFile HD.out.at_ k hlt2 f' hg hF' ht hn')
      have Hbne : Hid (∀ j, j = fs[k].g ∨ buf fs[k] j → j ≠ w.heap.size) := Lib.hid (fun j hj e => by
        subst e
        rcases hj with hj | hj
        · exact (hF.blk.ne Hbox.out (by decide)) hj.symm
        · rcases hj with hj | hj
          · exact row_ne hF.last Hbox.out (by decide) hj
          · exact row_ne hF.seen Hbox.out (by decide) hj)
      have HplS : Hid (∀ F : DFile, F.pl = lastF ⟨pid, pat, pfr, ptx⟩ n fs[k].pl → (fs.set k F).map DFile.pl = ((S.files.map DFile.pl).take (k + 1)).map (lastF ⟨pid, pat, pfr, ptx⟩ n) ++ (S.files.map DFile.pl).drop (k + 1)) := Lib.hid (fun F hFp => by
        rw [List.map_set, Hpl.out, take_files (by simpa using hlt), hFp, hplk, List.getElem_map])
      clear hplk
      obtain ⟨M, hM⟩ : ∃ M, M = fs[k] := ⟨_, rfl⟩
      rw [← hM] at hc hF hsm Hset Hbne HplS
      have HM := Lib.hid hM.symm
      clear hM
      obtain ⟨la, lc, hlv⟩ := row_shape hF.last
      have d0 : wr.cell? ⟨M.g, 0, none⟩ = some (.int .i64 M.id) := hF.blk.cell 0
      have d2 : wr.cell? ⟨M.g, 2, none⟩ = some (.slice la M.last.length lc) := by rw [← hlv]; exact hF.blk.cell 2
      have b0 : wr.cell? ⟨w.heap.size, 0, none⟩ = some (.int .i64 pid) := Hbox.out.cell 0
      have b1 : wr.cell? ⟨w.heap.size, 1, none⟩ = some (.int .i64 pat) := Hbox.out.cell 1
      have b2 : wr.cell? ⟨w.heap.size, 2, none⟩ = some (.int .i64 pfr) := Hbox.out.cell 2
      have b3 : wr.cell? ⟨w.heap.size, 3, none⟩ = some (.string ptx) := Hbox.out.cell 3
      have HF := Lib.hid hF
      have Hlv := Lib.hid hlv
      clear hF hlv c0
      by_cases hc2 : M.id = pid ∧ 0 < n
      · obtain ⟨hid, hn0⟩ := hc2
        have hbeq : (M.id == pid) = true := by rw [hid]; simp
        have Hid_ := Lib.hid hid
        have hn0' : (0 : Int) < (n : Int) := by omega
        clear hid
        obtain ⟨q, hq⟩ : ∃ q : Nat, pat * 64 + pfr = q := ⟨(pat * 64 + pfr).toNat, by omega⟩
        go_wp2_with fail
        go_quiet (fail)
        go_wp2_with fail
        have hA : FileAt (wr.drewN _) M := HF.out.touch (P := fun _ => False) ((Touch.refl _ wr).drewN nq) (fun h => h) (fun _ _ h => h)
        have HboxA := Lib.hid (Hbox.out.drewN nq)
        have HsetA := Lib.hid (fun (w' : World) (f' : DFile) (hg : f'.g = M.g) (hF' : FileAt w' f') (ht : Touch (fun j => j = M.g ∨ buf M j) (wr.drewN nq) w') (hn' : ∀ j, buf f' j → buf M j ∨ wr.heap.size ≤ j) =>
          Hset.out w' f' hg hF' (((Touch.refl _ wr).drewN nq).trans ht) hn')
        have hszA : (wr.drewN nq).heap.size = wr.heap.size := rfl
        generalize wr.drewN nq = wA at hA HboxA HsetA hszA ⊢
        have hgr := grown_any M.lv M.last.length (q + n) (bytesVals M.last) wA hA.last hsm.2 (by omega)
        rw [show ((q + n : Nat) : Int) = (q : Int) + (n : Int) by omega, Hlv.out] at hgr
        have HA := Lib.hid hA
        have HszA := Lib.hid hszA
        clear hA hszA b0 b1 b2 b3 d0 d2 hc
        refine hgr.mono ?_
        rintro e wB ⟨v', rfl, hrow, hT, hB⟩
        obtain ⟨g', cp', rfl, _, hgl', hz1, hz2, _⟩ := row_some hrow (by omega)
        have hgo : M.lv.ownBlock = some g' ∨ g' = wA.heap.size := by
          rw [Hlv.out]
          rcases hB with h | h
          · left; rw [← h]; rfl
          · right; simpa [Value.ownBlock] using h
        rw [← Hlv.out] at hT
        have hMb := HA.out.blk.touch hT (fun e => row_ne HA.out.last HA.out.blk (by decide) e)
        have e2 : wB.cell? ⟨M.g, 2, none⟩ = some M.lv := hMb.cell 2
        have f2 := hMb.free 2
        obtain ⟨k1, k2, k3, k4, k5, k6⟩ := file_grew_last HA.out hT hrow hgo
        have hbB : Blk wB w.heap.size [.int .i64 pid, .int .i64 pat, .int .i64 pfr, .string ptx] 198 := HboxA.out.touch hT (fun e => Hbne.out _ (Or.inr (Or.inl e)) rfl)
        have hb2 := hbB.set_other (a := ⟨M.g, 2, none⟩) (fun e => Hbne.out _ (Or.inl rfl) e.symm) (.slice (some ⟨g', 0, none⟩) (max M.last.length (q + n)) cp')
        have K1 := Lib.hid k1; have K2 := Lib.hid k2; have K3 := Lib.hid k3; have K6 := Lib.hid k6; have HB2 := Lib.hid hb2; have Hgo := Lib.hid hgo; have K4 := Lib.hid k4; have K5 := Lib.hid k5
        clear k1 k2 k3 k4 k5 k6 hb2 hbB hMb hT hrow hB hgo hgr
        go_upto_region 7 with (fail)
        generalize wB.setCell ⟨M.g, 2, none⟩ (.slice (some ⟨g', 0, none⟩) (max M.last.length (q + n)) cp') = w2 at K1 K2 K3 K6 HB2 ⊢
        obtain ⟨NN, hNN⟩ : ∃ NN, NN = max M.last.length (q + n) := ⟨_, rfl⟩
        rw [← hNN] at K1 K2 ⊢
        have HNN := Lib.hid hNN
        have hN1 : q + n ≤ NN := by omega
        have hN2 : NN ≤ cp' := by omega
        have hN3 : cp' ≤ 9223372036854775807 := by unfold maxLen at hz2; omega
        have d2 : w2.cell? ⟨M.g, 2, none⟩ = some (.slice (some ⟨g', 0, none⟩) NN cp') := K1.out.cell 2
        have b3 : w2.cell? ⟨w.heap.size, 3, none⟩ = some (.string ptx) := HB2.out.cell 3
        have i1 : (q : Int) ≤ (NN : Int) := by omega
        have i2 : (NN : Int) ≤ (cp' : Int) := by omega
        have i3 : ¬ (cp' = q) := by omega
        have i4 : (n : Int) ≤ (ptx.size : Int) := by omega
        have K2d : Hid (w2.drew.ownsRow 0 5 1 (.slice (some ⟨g', 0, none⟩) NN cp') NN (bytesVals M.last ++ noughts (q + n - M.last.length))) := row_touch (S := fun _ => False) K2.out (Touch.refl _ w2).drew (fun _ _ h => h)
        clear hNN e2 f2 hz1 hz2
        go_still_tail 10, (by kernel_rfl)
        change wpList _ _ _ _ _ w2.drew
        obtain ⟨w3, hr3, hrow3, hT3⟩ := run_copy_text w2.drew g' NN cp' q _ (ptx.extract 0 n) 3 K2d.out (by rw [ByteArray.size_extract]; omega)
        have HR3 := Lib.hid hr3
        have hes : (ptx.extract 0 n).size = n := by rw [ByteArray.size_extract]; omega
        rw [extract_take, hes] at hrow3
        have Hrow3 := Lib.hid hrow3
        have HT3 := Lib.hid hT3
        clear hr3 hrow3 hT3 hes
        go_wp2_with (refine Lib.wpList_copy_run _ rfl _ _ 134 9 rfl _ _ rfl rfl HR3.out ?_)
        have hl2 : (layB M.last q (ptx.data.toList.take n)).length = NN := by rw [layB_length, take_size hn, HNN.out]
        have hlx : List.take q (bytesVals M.last ++ noughts (q + n - M.last.length)) ++ bytesVals (ptx.data.toList.take n) ++ List.drop (q + n) (bytesVals M.last ++ noughts (q + n - M.last.length)) = bytesVals (layB M.last q (ptx.data.toList.take n)) := by
          have := bytesVals_lay M.last q (ptx.data.toList.take n) (by rw [take_size hn]; exact hn0)
          rw [take_size hn] at this
          exact this
        obtain ⟨r1, r2, r3⟩ := file_laid_last (w := wA) (w3 := w3) (f := M) (t := ptx.data.toList.take n) (a := q) K1.out K3.out K4.out K5.out K6.out ((Touch.refl _ w2).drew.trans HT3.out) Hgo.out hl2.symm hlx Hrow3.out
        have hD3 := HsetA.out w3 { M with lv := .slice (some ⟨g', 0, none⟩) NN cp', last := layB M.last q (ptx.data.toList.take n) } rfl r1 r2 (fun j hj => by rw [← HszA.out]; exact r3 j hj)
        have HDr := Lib.hid (HD.out.trans hD3)
        have Hboxr := Lib.hid (HB2.out.touch ((Touch.refl _ w2).drew.trans HT3.out) (fun e => by
          rcases Hgo.out with h | h
          · exact Hbne.out _ (Or.inr (Or.inl h)) e.symm
          · have := HboxA.out.lt; omega))
        have Hplr := Lib.hid (HplS.out { M with lv := .slice (some ⟨g', 0, none⟩) NN cp', last := layB M.last q (ptx.data.toList.take n) } (by
          unfold lastF
          rw [if_pos ⟨Hid_.out, hn0⟩]
          show _ = ({ M.pl with last := layB M.last (spot ⟨pid, pat, pfr, ptx⟩) (ptx.data.toList.take n) } : PF)
          have : spot ⟨pid, pat, pfr, ptx⟩ = q := by unfold spot; simp only; omega
          rw [this]; rfl))
        clear r1 r2 r3 hD3 hl2 hlx
        go_roundw
        case rel => exact ⟨k + 1, _, by go_num, by omega, Lib.hid (by rw [List.length_set]; exact Hlen.out), Hplr, HDr, Hboxr⟩
        case measure => simp [intOf]; omega
      · have hbeq : (M.id == pid && decide (0 < (n : Int))) = false := by
          by_cases e : M.id = pid
          · rw [decide_eq_false (show ¬ (0 < (n : Int)) from fun h => hc2 ⟨e, by omega⟩), Bool.and_false]
          · rw [beq_eq_false_iff_ne.2 e, Bool.false_and]
        have hF2 : Hid (lastF ⟨pid, pat, pfr, ptx⟩ n M.pl = M.pl) := if_neg hc2
        have Hrel : ∀ m, Hid (Dev b S w { S with files := fs } (wr.drewN m)) ∧ Hid (Blk (wr.drewN m) w.heap.size [.int .i64 pid, .int .i64 pat, .int .i64 pfr, .string ptx] 198) :=
          fun m => ⟨HD.out.below (below_drewN (Below.refl _ _) m), Hbox.out.drewN m⟩
        have Hsame := Lib.hid (show fs.set k M = fs from by rw [← HM.out]; exact List.set_getElem_self hlt2)
        have Hplr := Lib.hid (HplS.out M hF2.out.symm)
        rw [Hsame.out] at Hplr
        have HREL := Lib.hid Hrel
        clear Hrel
        have hb' : (M.id == pid) = false ∨ ((M.id == pid) = true ∧ ¬ (0 < (n : Int))) := by
          by_cases e : M.id = pid
          · right; exact ⟨beq_iff_eq.2 e, fun h => hc2 ⟨e, by omega⟩⟩
          · left; exact beq_eq_false_iff_ne.2 e
        clear hbeq hc2
        rcases hb' with hb' | ⟨hb', hn0⟩
        all_goals
          go_wp2_with fail
          go_quiet (fail)
          go_wp2_with fail
          go_roundw
          case rel => exact ⟨k + 1, fs, by go_num, by omega, Hlen, Hplr, (HREL.out _).1, (HREL.out _).2⟩
          case measure => simp [intOf]; omega
    · obtain rfl : k = S.files.length := by omega
      go_wp2_with fail
      go_end0
      refine ⟨rfl, fs, HD.out, ?_⟩
      rw [Hpl.out, List.take_of_length_le (by simp), List.drop_eq_nil_of_le (by simp), List.append_nil]
end Go.Proofs.YtaeklleogniimaaGreatDoor
