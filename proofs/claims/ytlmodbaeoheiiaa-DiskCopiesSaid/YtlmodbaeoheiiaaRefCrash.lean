/- The document's device: Crash. No condition but the sizes. -/
import Derived.Test.YtlmodbaeoheiiaaRefLasts
namespace Go.Proofs.Ytlmodbaeoheiiaa
open Go.RowKit
set_option linter.unusedVariables false

def rsyncF (l : List RP) (fs : List RF) : List RF := l.foldl (fun fs p => fs.map (rlastF p p.text.size)) fs
def OkRP (p : RP) : Prop := 0 ≤ p.at_ ∧ p.at_ + (p.text.size : Int) ≤ 2097152
theorem rlastF_small {p : RP} {n : Nat} {f : RF} (hp : OkRP p) (hn : n ≤ p.text.size) (h : f.seen.size ≤ 4194304 ∧ f.last.size ≤ 4194304) : (rlastF p n f).seen.size ≤ 4194304 ∧ (rlastF p n f).last.size ≤ 4194304 := by
  obtain ⟨h1, h2⟩ := hp
  unfold rlastF
  split
  · refine ⟨h.1, ?_⟩
    show (rlay _ _ _).size ≤ _
    rw [rlay_size, ByteArray.size_extract]
    omega
  · exact h
theorem rmap_small {p : RP} {n : Nat} {l : List RF} (hp : OkRP p) (hn : n ≤ p.text.size) (h : RSmall l) : RSmall (l.map (rlastF p n)) := by
  intro f hf
  obtain ⟨g, hg, rfl⟩ := List.mem_map.1 hf
  exact rlastF_small hp hn (h g hg)
theorem rsyncF_snoc {l : List RP} {k : Nat} (hk : k < l.length) (fs : List RF) : rsyncF (l.take (k + 1)) fs = (rsyncF (l.take k) fs).map (rlastF l[k] l[k].text.size) := by
  unfold rsyncF
  rw [List.take_succ_eq_append_getElem hk, List.foldl_append]
  rfl
def QS.sync (Q : QS) : QS := { Q with files := rsyncF Q.wait Q.files, wait := [] }
theorem refSync_off (q : Nat) (R : RSt) (w : World) (h : RefD w q R) (ho : R.off = true) :
    Calls Try.prog 53 #[.pointer (some ⟨q, 0, none⟩)] w fun e w' => e = .returned (.int .i64 14) ∧ w = w' := by
  have d4 := refOff q R w h true ho
  clear h ho
  go_enter Try.func53, Try.ntmps53
  go_wp2_with fail
  go_ret
  exact ⟨rfl, rfl⟩
set_option maxRecDepth 100000 in
set_option maxHeartbeats 1600000 in
theorem refSync_ok (q : Nat) (R : RSt) (w : World) (h : RefD w q R) (ho : R.off = false) (hl : R.files.length ≤ 1000000) (hwl : R.wait.length ≤ 1000000000) (hs : RSmall R.files) (hp : ∀ p ∈ R.wait, OkRP p) :
    Calls Try.prog 53 #[.pointer (some ⟨q, 0, none⟩)] w fun e w' => e = .returned (.int .i64 0) ∧ ∃ R', RDev q R w R' w' ∧ R'.pl = R.pl.sync := by
  have d4 := refOff q R w h false ho
  obtain ⟨wa, wcap, hwv⟩ := row_shape h.wrow
  have Hwv := Lib.hid hwv
  have H := Lib.hid h
  have Hs := Lib.hid hs
  have Hp := Lib.hid hp
  have hql := h.blk.lt
  clear h hwv hs hp ho
  go_enter Try.func53, Try.ntmps53
  go_wp2_with fail
  clear d4
  go_loopw [3] (fun i wr => ∃ (k : Nat) (fs : List RF), i = .int .i64 k ∧ k ≤ R.wait.length ∧ Hid (fs.length = R.files.length) ∧ Hid (fs = rsyncF (R.wait.take k) R.files) ∧ Hid (RSmall fs) ∧ Hid (RDev q R w { R with files := fs } wr)) (fun i _ => R.wait.length - (intOf i).toNat)
  case atStart => exact ⟨0, R.files, rfl, Nat.zero_le _, Lib.hid rfl, Lib.hid rfl, Hs, Lib.hid (RDev.refl H.out)⟩
  case round =>
    obtain ⟨k, fs, rfl, hk, Hlen, Hfs, Hsm, HR⟩ := hrel
    have c1 : wr.cell? ⟨q, 1, none⟩ = some (.slice wa R.wait.length wcap) := by rw [← Hwv.out]; exact HR.out.at_.blk.cell 1
    by_cases hlt : k < R.wait.length
    · obtain ⟨g, cap', hv', hgl, hc⟩ := rpiece_at HR.out.at_ k hlt
      replace hv' : R.wv = .slice (some ⟨g, 0, none⟩) R.wait.length cap' := hv'
      rw [Hwv.out] at hv'
      injection hv' with hv1 hv3 hv2
      clear hv3
      subst hv1; subst hv2
      replace hc : ∀ t, t < 3 → wr.cell? ⟨g, k * 3 + t, none⟩ = (rpVals R.wait[k])[t]? := hc
      have Hsn := Lib.hid (rsyncF_snoc hlt R.files)
      have Hpk := Lib.hid (Hp.out _ (List.getElem_mem hlt))
      generalize R.wait[k] = p at hc Hsn Hpk
      have hc0 : wr.cell? ⟨g, k * 3, none⟩ = some (.int .i64 p.id) := hc 0 (by omega)
      have hc1 : wr.cell? ⟨g, k * 3 + 1, none⟩ = some (.int .i64 p.at_) := hc 1 (by omega)
      have hc2 : wr.cell? ⟨g, k * 3 + 2, none⟩ = some (.string p.text) := hc 2 (by omega)
      have hkl1 : (k : Int) < (R.wait.length : Int) := by omega
      have HL := Lib.hid (refLasts_any q { R with files := fs } p p.text.size wr.drew (HR.out.at_.below (Below.refl _ _).drew) (by show fs.length ≤ _; rw [Hlen.out]; exact hl) Hsm.out Hpk.out (Nat.le_refl _))
      clear hc
      go_upto_region 6 with (fail)
      go_still_tail 17, (by kernel_rfl)
      change wpList _ _ _ _ _ wr.drew
      go_wp2_with fail
      refine HL.out.mono ?_
      rintro e w1 ⟨rfl, fs2, hR2, hfs2⟩
      have HR2 := Lib.hid ((HR.out.below (Below.refl _ _).drew).trans hR2)
      have Hfs2 := Lib.hid (show fs2 = rsyncF (R.wait.take (k + 1)) R.files by rw [Hsn.out, ← Hfs.out]; exact hfs2)
      have Hlen2 := Lib.hid (show fs2.length = R.files.length by rw [hfs2, List.length_map]; exact Hlen.out)
      have Hsm2 := Lib.hid (show RSmall fs2 by rw [hfs2]; exact rmap_small Hpk.out (Nat.le_refl _) Hsm.out)
      clear hR2 hfs2 HL hc0 hc1 hc2 c1
      go_wp2_with fail
      go_roundw
      case rel => exact ⟨k + 1, fs2, by go_num, by omega, Hlen2, Hfs2, Hsm2, HR2⟩
      case measure => simp [intOf]; omega
    · obtain rfl : k = R.wait.length := by omega
      have HE := Lib.hid (HR.out.trans (RDev.newWait (v := .slice none 0 0) (ps := []) HR.out.at_ (World.ownsRow_nil _ _ _ _) (Touch.refl _ wr) (fun j hj => by cases hj)))
      have f1 := HR.out.at_.blk.free 1
      have Hfin := Lib.hid (show fs = rsyncF R.wait R.files by rw [Hfs.out, List.take_length])
      go_wp2_with fail
      go_ret
      refine ⟨rfl, _, HE.out, ?_⟩
      unfold QS.sync RSt.pl
      rw [← Hfin.out]
end Go.Proofs.Ytlmodbaeoheiiaa
namespace Go.Proofs.Ytlmodbaeoheiiaa
open Go.RowKit
set_option linter.unusedVariables false

def rfateN (p : RP) (x : Int) : Nat := if x = 2 then p.text.size / 2 else if x = 1 then p.text.size else 0
theorem rfateN_le (p : RP) (x : Int) : rfateN p x ≤ p.text.size := by
  unfold rfateN
  by_cases h2 : x = 2
  · rw [if_pos h2]; omega
  · rw [if_neg h2]
    by_cases h1 : x = 1
    · rw [if_pos h1]; exact Nat.le_refl _
    · rw [if_neg h1]; omega
def rcrashF (l : List (RP × Int)) (fs : List RF) : List RF := l.foldl (fun fs q => fs.map (rlastF q.1 (rfateN q.1 q.2))) fs
theorem rcrashF_snoc {l : List (RP × Int)} {k : Nat} (hk : k < l.length) (fs : List RF) : rcrashF (l.take (k + 1)) fs = (rcrashF (l.take k) fs).map (rlastF l[k].1 (rfateN l[k].1 l[k].2)) := by
  unfold rcrashF
  rw [List.take_succ_eq_append_getElem hk, List.foldl_append]
  rfl
theorem rlastF_zero (p : RP) (f : RF) : rlastF p 0 f = f := by unfold rlastF; rw [if_neg (by omega)]
def rseenF (f : RF) : RF := { f with seen := f.last }
def QS.crash (Q : QS) (l : List Int) : QS := { Q with files := (rcrashF (Q.wait.zip l) Q.files).map rseenF, wait := [], fuse := -1, off := false }
set_option maxRecDepth 100000 in
set_option maxHeartbeats 3200000 in
theorem refCrash_any (q : Nat) (R : RSt) (fa : Option Addr) (fc : Nat) (l : List Int) (w : World) (h : RefD w q R) (hl : R.files.length ≤ 1000000) (hwl : R.wait.length ≤ 1000000000) (hs : RSmall R.files) (hp : ∀ p ∈ R.wait, OkRP p)
    (hfa : IntsAt .i64 w fa l) (hfo : ∀ g off, l ≠ [] → fa = some ⟨g, off, none⟩ → ¬ rfoot q R g) (hll : l.length ≤ 9223372036854775807) :
    Calls Try.prog 55 #[.pointer (some ⟨q, 0, none⟩), .slice fa l.length fc] w fun e w' => e = .returned (.tuple #[]) ∧ ∃ R', RDev q R w R' w' ∧ R'.pl = R.pl.crash l := by
  obtain ⟨wa, wcap, hwv⟩ := row_shape h.wrow
  obtain ⟨fva, fvc, hfv⟩ := row_shape h.frow
  have Hwv := Lib.hid hwv
  have Hfv := Lib.hid hfv
  have H := Lib.hid h
  have Hs := Lib.hid hs
  have Hp := Lib.hid hp
  have Hfa := Lib.hid hfa
  have Hfo := Lib.hid hfo
  have hql := h.blk.lt
  clear h hwv hfv hs hp hfa hfo
  go_enter Try.func55, Try.ntmps55
  go_wp2_with fail
  go_loopw [4] (fun i wr => ∃ (k : Nat) (fs : List RF), i = .int .i64 k ∧ k ≤ R.wait.length ∧ k ≤ l.length ∧ Hid (fs.length = R.files.length) ∧ Hid (fs = rcrashF ((R.wait.zip l).take k) R.files) ∧ Hid (RSmall fs) ∧ Hid (RDev q R w { R with files := fs } wr)) (fun i _ => R.wait.length - (intOf i).toNat)
  case atStart => exact ⟨0, R.files, rfl, Nat.zero_le _, Nat.zero_le _, Lib.hid rfl, Lib.hid (by simp [rcrashF]), Hs, Lib.hid (RDev.refl H.out)⟩
  case round =>
    obtain ⟨k, fs, rfl, hk, hk2, Hlen, Hfs, Hsm, HR⟩ := hrel
    have c1 : wr.cell? ⟨q, 1, none⟩ = some (.slice wa R.wait.length wcap) := by rw [← Hwv.out]; exact HR.out.at_.blk.cell 1
    by_cases hin : k < R.wait.length ∧ k < l.length
    · obtain ⟨hlt, hlt2⟩ := hin
      obtain ⟨g, cap', hv', hgl, hc⟩ := rpiece_at HR.out.at_ k hlt
      replace hv' : R.wv = .slice (some ⟨g, 0, none⟩) R.wait.length cap' := hv'
      rw [Hwv.out] at hv'
      injection hv' with hv1 hv3 hv2
      clear hv3
      subst hv1; subst hv2
      replace hc : ∀ t, t < 3 → wr.cell? ⟨g, k * 3 + t, none⟩ = (rpVals R.wait[k])[t]? := hc
      have hzl : k < (R.wait.zip l).length := by rw [List.length_zip]; omega
      have Hsn := Lib.hid (rcrashF_snoc hzl R.files)
      rw [List.getElem_zip] at Hsn
      have Hpk := Lib.hid (Hp.out _ (List.getElem_mem hlt))
      obtain ⟨fb, off, rfl, hfb, hff, hfc⟩ : ∃ fb off, fa = some ⟨fb, off, none⟩ ∧ fb < w.heap.size ∧ ¬ rfoot q R fb ∧ w.cell? ⟨fb, off + k, none⟩ = some (.int .i64 l[k]) := by
        rcases Hfa.out with h | ⟨fb, off, h1, h2, h3⟩
        · rw [h] at hlt2; simp at hlt2
        · exact ⟨fb, off, h1, h2, Hfo.out fb off (by intro e; rw [e] at hlt2; simp at hlt2) h1, h3 k hlt2⟩
      have hfcr := (HR.out.touch.cell (p := ⟨fb, off + k, none⟩) hfb hff).trans hfc
      have HFC := Lib.hid hfc
      generalize R.wait[k] = p at hc Hsn Hpk
      generalize l[k] = x at hfc hfcr Hsn HFC
      have hc0 : wr.cell? ⟨g, k * 3, none⟩ = some (.int .i64 p.id) := hc 0 (by omega)
      have hc1 : wr.cell? ⟨g, k * 3 + 1, none⟩ = some (.int .i64 p.at_) := hc 1 (by omega)
      have hc2 : wr.cell? ⟨g, k * 3 + 2, none⟩ = some (.string p.text) := hc 2 (by omega)
      have hkl1 : (k : Int) < (R.wait.length : Int) := by omega
      have HL := Lib.hid (fun m (hm : m ≤ p.text.size) => refLasts_any q { R with files := fs } p m wr.drew (HR.out.at_.below (Below.refl _ _).drew) (by show fs.length ≤ _; rw [Hlen.out]; exact hl) Hsm.out Hpk.out hm)
      have HN := Lib.hid (fun (m : Nat) (hm : m ≤ p.text.size) (hx : rfateN p x = m) (w1 : World) (fs2 : List RF) (hR2 : RDev q { R with files := fs } wr.drew { R with files := fs2 } w1) (hfs2 : fs2 = fs.map (rlastF p m)) => (show Hid (fs2.length = R.files.length) ∧ Hid (fs2 = rcrashF ((R.wait.zip l).take (k + 1)) R.files) ∧ Hid (RSmall fs2) ∧ Hid (RDev q R w { R with files := fs2 } w1) from
        ⟨Lib.hid (by rw [hfs2, List.length_map]; exact Hlen.out), Lib.hid (by rw [Hsn.out, ← Hfs.out, hx]; exact hfs2), Lib.hid (by rw [hfs2]; exact rmap_small Hpk.out hm Hsm.out), Lib.hid ((HR.out.below (Below.refl _ _).drew).trans hR2)⟩))
      clear hc hfc
      by_cases hx2 : x = 2
      · subst hx2
        have HHL := Lib.hid (HL.out (p.text.size / 2) (by omega))
        have HW := Lib.hid (show wrap64 ((p.text.size : Int) / 2) = ((p.text.size / 2 : Nat) : Int) by have := Hpk.out.2; have := Hpk.out.1; unfold wrap64; omega)
        go_upto_region 6 with (fail)
        go_still_tail 18, (by kernel_rfl)
        change wpList _ _ _ _ _ wr.drew
        go_wp2_with fail
        rw [HW.out]
        refine HHL.out.mono ?_
        rintro e w1 ⟨rfl, fs2, hR2, hfs2⟩
        obtain ⟨n1, n2, n3, n4⟩ := HN.out (p.text.size / 2) (by omega) (show rfateN p 2 = p.text.size / 2 from if_pos rfl) w1 fs2 hR2 hfs2
        clear hR2 hfs2 HL HHL HN hc0 hc1 hc2 c1 hfcr
        go_wp2_with fail
        go_roundw
        case rel => exact ⟨k + 1, fs2, by go_num, by omega, by omega, n1, n2, n3, n4⟩
        case measure => simp [intOf]; omega
      · by_cases hx1 : x = 1
        · have HF1 := Lib.hid (show rfateN p x = p.text.size from by unfold rfateN; rw [if_neg hx2, if_pos hx1])
          clear hx2
          subst hx1
          have HHL := Lib.hid (HL.out p.text.size (Nat.le_refl _))
          go_upto_region 4 with (fail)
          go_still_tail 17, (by kernel_rfl)
          change wpList _ _ _ _ _ wr.drew
          go_wp2_with fail
          refine HHL.out.mono ?_
          rintro e w1 ⟨rfl, fs2, hR2, hfs2⟩
          obtain ⟨n1, n2, n3, n4⟩ := HN.out p.text.size (Nat.le_refl _) HF1.out w1 fs2 hR2 hfs2
          have hf1 := (n4.out.touch.cell (p := ⟨fb, off + k, none⟩) hfb hff).trans HFC.out
          clear hR2 hfs2 HL HHL HN hc0 hc1 hc2 c1 hfcr
          go_wp2_with fail
          go_roundw
          case rel => exact ⟨k + 1, fs2, by go_num, by omega, by omega, n1, n2, n3, n4⟩
          case measure => simp [intOf]; omega
        · have hb2 : (x == 2) = false := beq_eq_false_iff_ne.2 hx2
          have hb1 : (x == 1) = false := beq_eq_false_iff_ne.2 hx1
          have Hfs2 : Hid (fs = rcrashF ((R.wait.zip l).take (k + 1)) R.files) := Lib.hid (by
            rw [Hsn.out, ← Hfs.out]
            have : rlastF p (rfateN p x) = id := funext (fun f => by
              unfold rfateN
              rw [if_neg hx2, if_neg hx1]
              exact rlastF_zero p f)
            rw [this, List.map_id])
          clear HL HN hx1 hx2 Hsn
          go_wp2_with fail
          go_roundw
          case rel => exact ⟨k + 1, fs, by go_num, by omega, by omega, Hlen, Hfs2, Hsm, HR⟩
          case measure => simp [intOf]; omega
    · have Hall := Lib.hid (show (R.wait.zip l).take k = R.wait.zip l from List.take_of_length_le (by rw [List.length_zip]; omega))
      rw [Hall.out] at Hfs
      have h1 := HR.out.trans (RDev.newWait (v := .slice none 0 0) (ps := []) HR.out.at_ (World.ownsRow_nil _ _ _ _) (Touch.refl _ wr) (fun j hj => by cases hj))
      have h2 := h1.trans (RDev.setNum (R' := { R with files := fs, wv := .slice none 0 0, wait := [], fuse := -1 }) h1.at_ 3 (.int .i64 (-1)) rfl rfl rfl rfl rfl)
      have h3 := h2.trans (RDev.setNum (R' := { R with files := fs, wv := .slice none 0 0, wait := [], fuse := -1, off := false }) h2.at_ 4 (.bool false) rfl rfl rfl rfl rfl)
      have HE := Lib.hid h3
      have hcw3 : wr.cell? ⟨q, 3, none⟩ = some (.int .i64 R.fuse) := HR.out.at_.blk.cell 3
      have hcw4 : wr.cell? ⟨q, 4, none⟩ = some (.bool R.off) := HR.out.at_.blk.cell 4
      have hfw1 := HR.out.at_.blk.free 1
      have hfw3 := HR.out.at_.blk.free 3
      have hfw4 := HR.out.at_.blk.free 4
      clear h1 h2 h3
      by_cases hlt : k < R.wait.length
      all_goals
        go_wp2_with fail
        generalize ((wr.setCell ⟨q, 1, none⟩ (.slice none 0 0)).setCell ⟨q, 3, none⟩ (.int .i64 (-1))).setCell ⟨q, 4, none⟩ (.bool false) = wx at HE ⊢
        clear hcw3 hcw4 hfw1 hfw3 hfw4 c1
        go_loopw [5] (fun i wr => ∃ (z : Nat) (fs2 : List RF), i = .int .i64 z ∧ z ≤ R.files.length ∧ Hid (fs2.length = R.files.length) ∧ Hid (fs2 = (fs.take z).map rseenF ++ fs.drop z) ∧ Hid (RDev q R w { R with files := fs2, wv := .slice none 0 0, wait := [], fuse := -1, off := false } wr)) (fun i _ => R.files.length - (intOf i).toNat)
        case atStart => exact ⟨0, fs, rfl, Nat.zero_le _, Hlen, Lib.hid (by simp), HE⟩
        case round =>
          clear HE
          obtain ⟨z, fs2, rfl, hz, Hlen2, Hfs2, HR2⟩ := hrel
          have c0 : wr.cell? ⟨q, 0, none⟩ = some (.slice fva R.files.length fvc) := by rw [← Hfv.out]; exact HR2.out.at_.blk.cell 0
          by_cases hlz : z < R.files.length
          · have hlz2 : z < fs2.length := by rw [Hlen2.out]; exact hlz
            have hlzf : z < fs.length := by rw [Hlen.out]; exact hlz
            obtain ⟨g, cap', hv', hgl, hc⟩ := rfile_at HR2.out.at_ z hlz2
            replace hv' : R.fv = .slice (some ⟨g, 0, none⟩) fs2.length cap' := hv'
            have Hgv := Lib.hid hv'
            rw [Hfv.out] at hv'
            injection hv' with hv1 hv3 hv2
            clear hv3
            subst hv1; subst hv2
            replace hc : ∀ j, j < 4 → wr.cell? ⟨g, z * 4 + j, none⟩ = (rfVals fs2[z])[j]? := hc
            have hfz : fs2[z] = fs[z] := by
              have e1 : fs2[z]? = fs[z]? := by
                rw [Hfs2.out, List.getElem?_append_right (by simp; omega)]
                simp only [List.length_map, List.length_take, List.getElem?_drop]
                rw [Nat.min_eq_left (by omega), Nat.sub_self, Nat.add_zero]
              rw [List.getElem?_eq_getElem hlz2, List.getElem?_eq_getElem hlzf] at e1
              simpa using e1
            have HT := Lib.hid (take_rfiles hlzf rseenF)
            rw [← Hfs2.out, ← hfz] at HT
            have hf3 : wr.frozen? ⟨g, z * 4 + 3, none⟩ = false := rfree HR2.out.at_ Hgv.out _
            have HS := Lib.hid ((HR2.out.below (Below.refl _ _).drew).trans (RDev.setField (HR2.out.at_.below (Below.refl _ _).drew) z 3 hlz2 (by decide) (rseenF fs2[z]) (.string fs2[z].last) Hgv.out rfl))
            generalize fs2[z] = M at hc HT HS
            have hc2 : wr.cell? ⟨g, z * 4 + 2, none⟩ = some (.string M.last) := hc 2 (by omega)
            have hc3 : wr.cell? ⟨g, z * 4 + 3, none⟩ = some (.string M.seen) := hc 3 (by omega)
            have hkl1 : (z : Int) < (R.files.length : Int) := by omega
            clear hc hfz
            go_upto_region 13 with (fail)
            go_still_tail 15, (by kernel_rfl)
            change wpList _ _ _ _ _ wr.drew
            go_wp2_with fail
            go_roundw
            case rel => first
              | exact ⟨z + 1, fs2.set z (rseenF M), by go_num, by omega, Lib.hid (by rw [List.length_set]; exact Hlen2.out), Lib.hid HT.out.symm, HS⟩
              | exact ⟨z + 1, by omega, by omega, fs2.set z (rseenF M), Lib.hid (by rw [List.length_set]; exact Hlen2.out), Lib.hid (by rw [← List.map_take]; exact HT.out.symm), HS⟩
            case measure => simp [intOf]; omega
          · obtain rfl : z = R.files.length := by omega
            have Hfin : Hid (fs2 = (rcrashF (R.wait.zip l) R.files).map rseenF) := Lib.hid (by
              rw [Hfs2.out, List.take_of_length_le (by rw [Hlen.out]; exact Nat.le_refl _), List.drop_eq_nil_of_le (by rw [Hlen.out]; exact Nat.le_refl _), List.append_nil, Hfs.out])
            go_wp2_with fail
            go_end0
            refine ⟨rfl, _, HR2.out, ?_⟩
            unfold QS.crash RSt.pl
            rw [← Hfin.out]
end Go.Proofs.Ytlmodbaeoheiiaa
