/- The document's device: a piece that lasts. No condition but the sizes. -/
import Derived.Test.YtlmodbaeoheiiaaRefRemove
import Derived.Test.YtlmodbaeoheiiaaHeld
namespace Go.Proofs.Ytlmodbaeoheiiaa
open Go.RowKit
set_option linter.unusedVariables false

def rlay (s : ByteArray) (a : Nat) (t : ByteArray) : ByteArray := textOf (layB s.data.toList a t.data.toList)
theorem bytes_ext {s t : ByteArray} (h : s.data.toList = t.data.toList) : s = t := ByteArray.ext (Array.toList_inj.1 h)
theorem bappend (s t : ByteArray) : (s ++ t).data.toList = s.data.toList ++ t.data.toList := by rw [ByteArray.data_append, Array.toList_append]
theorem bextract (t : ByteArray) (i j : Nat) : (t.extract i j).data.toList = (t.data.toList.take j).drop i := by
  rw [ByteArray.data_extract, Array.toList_extract]
  simp [List.extract_eq_take_drop, List.drop_take]
theorem blen (t : ByteArray) : t.data.toList.length = t.size := by rw [Array.length_toList]; rfl
theorem rlay_past {s t : ByteArray} {a : Nat} (h : s.size < a) : (s ++ zeros (a - s.size)).extract 0 a ++ t = rlay s a t := by
  apply bytes_ext
  rw [bappend, bextract, bappend, List.drop_zero]
  unfold rlay textOf layB
  show _ = (List.take a _ ++ _ ++ _ : List UInt8).toArray.toList
  rw [List.toList_toArray, blen]
  have e : (zeros (a - s.size)).data.toList = List.replicate (a - s.size) 0 := by unfold zeros; rw [List.toList_toArray]
  rw [e, List.drop_eq_nil_of_le (by rw [blen]; omega), List.append_nil]
theorem rlay_end {s t : ByteArray} {a : Nat} (h : a ≤ s.size) (h2 : s.size ≤ a + t.size) : s.extract 0 a ++ t = rlay s a t := by
  apply bytes_ext
  rw [bappend, bextract, List.drop_zero]
  unfold rlay textOf layB
  show _ = (List.take a _ ++ _ ++ _ : List UInt8).toArray.toList
  rw [List.toList_toArray, blen, List.drop_eq_nil_of_le (by rw [blen, blen]; omega), List.append_nil, List.take_append_of_le_length (by rw [blen]; exact h)]
theorem rlay_mid {s t : ByteArray} {a : Nat} (h : a + t.size < s.size) : (s.extract 0 a ++ t) ++ s.extract (a + t.size) s.size = rlay s a t := by
  apply bytes_ext
  rw [bappend, bappend, bextract, bextract, List.drop_zero]
  unfold rlay textOf layB
  show _ = (List.take a _ ++ _ ++ _ : List UInt8).toArray.toList
  rw [List.toList_toArray, blen t, List.take_append_of_le_length (by rw [blen]; omega), List.take_of_length_le (show s.data.toList.length ≤ s.size by rw [blen]; exact Nat.le_refl _)]
set_option maxRecDepth 100000 in
set_option maxHeartbeats 800000 in
theorem refLaid_any (s t : ByteArray) (a : Nat) (w : World) (h1 : s.size ≤ 4194304) (h2 : a + t.size ≤ 4194304) :
    Calls Try.prog 70 #[.string s, .int .i64 (a : Int), .string t] w fun e w' => e = .returned (.string (rlay s a t)) ∧ Below w.heap.size w w' := by
  by_cases hp : s.size < a
  · have hmk := fun W => run_make_one (P := Try.prog) 32 5 (.int .u8 0) 1 Try.underlying32 info_byte rfl (a - s.size) (by omega) (by omega) W
    have hcv := conv_zeros (P := Try.prog) w 32 5 9 Try.underlying32 Try.underlying5 Try.underlying9 (a - s.size)
    have hsub : (a : Int) - (s.size : Int) = ((a - s.size : Nat) : Int) := by omega
    have hzs : (s ++ zeros (a - s.size)).size = a := by rw [ByteArray.size_append, zeros_size]; omega
    have HR := Lib.hid (rlay_past (t := t) hp)
    have hp2 : (s.size : Int) < (a : Int) := by omega
    have hov : ¬ (9223372036854775807 < s.size + (zeros (a - s.size)).size) := by rw [zeros_size]; omega
    have hov2 : ¬ (9223372036854775807 < ((s ++ zeros (a - s.size)).extract 0 a).size + t.size) := by rw [ByteArray.size_extract]; omega
    generalize hzz : zeros (a - s.size) = Z at hcv hzs HR hov hov2
    go_enter Try.func70, Try.ntmps70
    go_wp2_with fail
    go_ret
    exact ⟨by rw [← HR.out]; rfl, (Below.refl _ _).alloc (Nat.le_refl _) _⟩
  · by_cases hq : s.size ≤ a + t.size
    · have HR := Lib.hid (rlay_end (t := t) (show a ≤ s.size by omega) hq)
      have hov2 : ¬ (9223372036854775807 < (s.extract 0 a).size + t.size) := by rw [ByteArray.size_extract]; omega
      have has : a ≤ s.size := by omega
      go_enter Try.func70, Try.ntmps70
      go_wp2_with fail
      go_ret
      exact ⟨by rw [← HR.out]; rfl, Below.refl _ _⟩
    · have HR := Lib.hid (rlay_mid (s := s) (t := t) (a := a) (by omega))
      have hx1 : (s.extract 0 a).size = a := by rw [ByteArray.size_extract]; omega
      have hov2 : ¬ (9223372036854775807 < (s.extract 0 a).size + t.size) := by omega
      have hov3 : ¬ (9223372036854775807 < (s.extract 0 a ++ t).size + (s.extract (a + t.size) s.size).size) := by simp only [ByteArray.size_append, ByteArray.size_extract]; omega
      have has : a ≤ s.size := by omega
      have hwr : IntKind.i64.wrap ((a : Int) + (t.size : Int)) = (a : Int) + (t.size : Int) := IntWalk.i64_in _ (by omega)
      have hts : ((a : Int) + (t.size : Int)).toNat = a + t.size := by omega
      have hle : (a : Int) + (t.size : Int) ≤ (s.size : Int) := by omega
      have hle0 : (0 : Int) ≤ (a : Int) + (t.size : Int) := by omega
      have has2 : (a : Int) ≤ (s.size : Int) := by omega
      go_enter Try.func70, Try.ntmps70
      go_upto_region 5 with (fail)
      go_quiet (fail)
      go_wp2_with fail
      go_ret
      exact ⟨by rw [← HR.out]; rfl, below_drewN (Below.refl _ _) _⟩
end Go.Proofs.Ytlmodbaeoheiiaa
namespace Go.Proofs.Ytlmodbaeoheiiaa
open Go.RowKit
set_option linter.unusedVariables false

def rlastF (p : RP) (n : Nat) (f : RF) : RF := if f.id = p.id ∧ 0 < n then { f with last := rlay f.last p.at_.toNat (p.text.extract 0 n) } else f
theorem rlay_size (s t : ByteArray) (a : Nat) : (rlay s a t).size = max s.size (a + t.size) := by
  have h : (rlay s a t).data.toList.length = max s.data.toList.length (a + t.data.toList.length) := by
    unfold rlay textOf
    rw [List.toList_toArray]
    exact layB_length _ _ _
  rw [blen, blen, blen] at h
  exact h
theorem take_rfiles {l : List RF} {k : Nat} (hk : k < l.length) (F : RF → RF) : (l.take (k + 1)).map F ++ l.drop (k + 1) = ((l.take k).map F ++ l.drop k).set k (F l[k]) := by
  rw [List.set_append_right _ _ (by simp; omega), List.take_succ_eq_append_getElem hk, List.map_append, List.append_assoc]
  congr 1
  have : k - ((l.take k).map F).length = 0 := by rw [List.length_map, List.length_take]; omega
  rw [this, ← List.getElem_cons_drop (h := hk)]
  rfl
theorem rfree {w : World} {q g cap : Nat} {R : RSt} (h : RefD w q R) (hg : R.fv = .slice (some ⟨g, 0, none⟩) R.files.length cap) (j : Nat) : w.frozen? ⟨g, j, none⟩ = false := by
  rcases h.frow.2 with ⟨h2, _⟩ | ⟨g', cap', cur, hv', _, hb, _⟩
  · rw [hg] at h2; cases h2
  · rw [hg] at hv'
    injection hv' with e1 e2 e3
    injection e1 with e1
    injection e1 with e1
    subst e1
    exact Lib.frozen_of_heap hb _
set_option maxRecDepth 100000 in
set_option maxHeartbeats 1600000 in
theorem refLasts_any (q : Nat) (R : RSt) (p : RP) (n : Nat) (w : World) (h : RefD w q R) (hl : R.files.length ≤ 1000000) (hs : RSmall R.files) (hp : 0 ≤ p.at_ ∧ p.at_ + (p.text.size : Int) ≤ 2097152) (hn : n ≤ p.text.size) :
    Calls Try.prog 71 #[.pointer (some ⟨q, 0, none⟩), .agg #[.int .i64 p.id, .int .i64 p.at_, .string p.text], .int .i64 (n : Int)] w fun e w' => e = .returned (.tuple #[]) ∧ ∃ fs, RDev q R w { R with files := fs } w' ∧ fs = R.files.map (rlastF p n) := by
  obtain ⟨ad, cap, hv⟩ := row_shape h.frow
  have Hv := Lib.hid hv
  have H := Lib.hid h
  have Hs := Lib.hid hs
  have hql := h.blk.lt
  obtain ⟨pa, hpa⟩ : ∃ pa : Nat, p.at_ = pa := ⟨p.at_.toNat, by omega⟩
  have Hpa := Lib.hid (show p.at_.toNat = pa by omega)
  have hpt : pa + p.text.size ≤ 2097152 := by omega
  have HPB := Lib.hid (show Blk (w.alloc (.cells #[.int .i64 p.id, .int .i64 p.at_, .string p.text] 96)) w.heap.size [.int .i64 p.id, .int .i64 p.at_, .string p.text] 96 from Blk.new w [.int .i64 p.id, .int .i64 p.at_, .string p.text] 96)
  have HR0 := Lib.hid (RDev.below (RDev.refl h) ((Below.refl _ w).alloc (Nat.le_refl _) (.cells #[.int .i64 p.id, .int .i64 p.at_, .string p.text] 96)))
  rw [hpa] at HPB HR0 ⊢
  have hns : (p.text.extract 0 n).size = n := by rw [ByteArray.size_extract]; omega
  have hnn : (n : Int) ≤ (p.text.size : Int) := by omega
  clear h hv hs hp hpa
  go_enter Try.func71, Try.ntmps71
  go_wp2_with fail
  generalize hP : w.heap.size = P at *
  go_loopw [6] (fun i wr => ∃ (k : Nat) (fs : List RF), i = .int .i64 k ∧ k ≤ R.files.length ∧ Hid (fs.length = R.files.length) ∧ Hid (fs = (R.files.take k).map (rlastF p n) ++ R.files.drop k) ∧ Hid (RSmall fs) ∧ Hid (Blk wr P [.int .i64 p.id, .int .i64 (pa : Int), .string p.text] 96) ∧ Hid (RDev q R w { R with files := fs } wr)) (fun i _ => R.files.length - (intOf i).toNat)
  case atStart => exact ⟨0, R.files, rfl, Nat.zero_le _, Lib.hid rfl, Lib.hid (by simp), Hs, HPB, HR0⟩
  case round =>
    clear HR0 HPB
    obtain ⟨k, fs, rfl, hk, Hlen, Hfs, Hsm, HPB, HR⟩ := hrel
    have c0 : wr.cell? ⟨q, 0, none⟩ = some (.slice ad R.files.length cap) := by rw [← Hv.out]; exact HR.out.at_.blk.cell 0
    have hqr := HR.out.at_.blk.lt
    by_cases hlt : k < R.files.length
    · have hlf : k < fs.length := by rw [Hlen.out]; exact hlt
      obtain ⟨g, cap', hv', hgl, hc⟩ := rfile_at HR.out.at_ k hlf
      replace hv' : R.fv = .slice (some ⟨g, 0, none⟩) fs.length cap' := hv'
      have Hgv := Lib.hid hv'
      rw [Hv.out] at hv'
      injection hv' with hv1 hv3 hv2
      clear hv3
      subst hv1; subst hv2
      replace hc : ∀ j, j < 4 → wr.cell? ⟨g, k * 4 + j, none⟩ = (rfVals fs[k])[j]? := hc
      have hfk : fs[k] = R.files[k] := by
        have e1 : fs[k]? = R.files[k]? := by
          rw [Hfs.out, List.getElem?_append_right (by simp; omega)]
          simp only [List.length_map, List.length_take, List.getElem?_drop]
          rw [Nat.min_eq_left (by omega), Nat.sub_self, Nat.add_zero]
        rw [List.getElem?_eq_getElem hlf, List.getElem?_eq_getElem hlt] at e1
        simpa using e1
      have hsk := (Hsm.out _ (List.getElem_mem hlf)).2
      have HT := Lib.hid (take_rfiles hlt (rlastF p n))
      have HSet := Lib.hid (fun (f' : RF) (v : Value) (hv : rfVals f' = (rfVals fs[k]).set 2 v) (w1 : World) (hb : Below wr.heap.size wr w1) => HR.out.trans (RDev.after hb (RDev.setField (HR.out.at_.below hb) k 2 hlf (by decide) f' v Hgv.out hv)))
      have HSm : Hid (∀ f' : RF, f'.seen.size ≤ 4194304 ∧ f'.last.size ≤ 4194304 → RSmall (fs.set k f')) := Lib.hid (fun f' hf' x hx => by
        rcases List.mem_or_eq_of_mem_set hx with h | h
        · exact Hsm.out x h
        · rw [h]; exact hf')
      have hsk1 := (Hsm.out _ (List.getElem_mem hlf)).1
      rw [← hfk] at HT
      rw [← Hfs.out] at HT
      obtain ⟨M, hM⟩ : ∃ M, M = fs[k] := ⟨_, rfl⟩
      rw [← hM] at hc hsk hsk1 HT HSet
      have hc0 : wr.cell? ⟨g, k * 4, none⟩ = some (.int .i64 M.id) := hc 0 (by omega)
      have hc2 : wr.cell? ⟨g, k * 4 + 2, none⟩ = some (.string M.last) := hc 2 (by omega)
      have p0 : wr.cell? ⟨P, 0, none⟩ = some (.int .i64 p.id) := HPB.out.cell 0
      have p1 : wr.cell? ⟨P, 1, none⟩ = some (.int .i64 (pa : Int)) := HPB.out.cell 1
      have p2 : wr.cell? ⟨P, 2, none⟩ = some (.string p.text) := HPB.out.cell 2
      have hPl := HPB.out.lt
      have HMk := Lib.hid hM
      clear hc hM hfk
      by_cases hid : M.id = p.id
      · by_cases hn0 : 0 < n
        · have HF : Hid (rlastF p n M = { M with last := rlay M.last pa (p.text.extract 0 n) }) := Lib.hid (by
            unfold rlastF
            rw [if_pos ⟨hid, hn0⟩, Hpa.out])
          have hdd : (M.id == p.id) = true := by simpa using hid
          have hf2 : wr.frozen? ⟨g, k * 4 + 2, none⟩ = false := rfree HR.out.at_ Hgv.out _
          have hkl0 : (0 : Int) ≤ (k : Int) := by omega
          have hkl1 : (k : Int) < (R.files.length : Int) := by omega
          have HL := Lib.hid (fun w' => refLaid_any M.last (p.text.extract 0 n) pa w' hsk (by rw [hns]; omega))
          have hPg : P ≠ g := fun e => row_ne HR.out.at_.frow HPB.out (by decide) (by show R.fv.ownBlock = some P; rw [Hgv.out, e]; rfl)
          have hqg : q ≠ g := fun e => HR.out.at_.ne.1 (by show R.fv.ownBlock = some q; rw [Hgv.out, e]; rfl)
          have KE := Lib.hid (fun (w1 : World) (h1 : Below wr.heap.size wr w1) => (show w1.cell? ⟨q, 0, none⟩ = some (.slice (some ⟨g, 0, none⟩) R.files.length cap) ∧ w1.cell? ⟨P, 1, none⟩ = some (.int .i64 (pa : Int)) ∧ w1.cell? ⟨P, 2, none⟩ = some (.string p.text) from
            ⟨(h1.cell (p := ⟨q, 0, none⟩) hqr).trans c0, (h1.cell (p := ⟨P, 1, none⟩) hPl).trans p1, (h1.cell (p := ⟨P, 2, none⟩) hPl).trans p2⟩))
          have KF := Lib.hid (fun (w1 : World) (h1 : Below wr.heap.size wr w1) => (show w1.cell? ⟨g, k * 4 + 2, none⟩ = some (.string M.last) ∧ w1.frozen? ⟨g, k * 4 + 2, none⟩ = false from
            ⟨(h1.cell (p := ⟨g, k * 4 + 2, none⟩) hgl).trans hc2, rfree (HR.out.at_.below h1) Hgv.out _⟩))
          have KS := Lib.hid (fun (w1 : World) (v : Value) (h1 : w1.cell? ⟨q, 0, none⟩ = some (.slice (some ⟨g, 0, none⟩) R.files.length cap) ∧ w1.cell? ⟨P, 1, none⟩ = some (.int .i64 (pa : Int)) ∧ w1.cell? ⟨P, 2, none⟩ = some (.string p.text)) =>
            (show (w1.setCell ⟨g, k * 4 + 2, none⟩ v).cell? ⟨q, 0, none⟩ = some (.slice (some ⟨g, 0, none⟩) R.files.length cap) ∧ (w1.setCell ⟨g, k * 4 + 2, none⟩ v).cell? ⟨P, 1, none⟩ = some (.int .i64 (pa : Int)) ∧ (w1.setCell ⟨g, k * 4 + 2, none⟩ v).cell? ⟨P, 2, none⟩ = some (.string p.text) from by
              have kq := World.cell?_of_block (a := ⟨q, 0, none⟩) (Below.heap_setCell w1 ⟨g, k * 4 + 2, none⟩ v q hqg)
              have kp := fun j => World.cell?_of_block (a := ⟨P, j, none⟩) (Below.heap_setCell w1 ⟨g, k * 4 + 2, none⟩ v P hPg)
              exact ⟨kq.trans h1.1, (kp 1).trans h1.2.1, (kp 2).trans h1.2.2⟩))
          go_upto_region 4 with (fail)
          go_quiet (fail)
          go_upto_region 5 with (fail)
          refine wp_region_noPanic ?_
          refine wp_region_held_drew (S := (fun w' => w'.cell? ⟨q, 0, none⟩ = some (.slice (some ⟨g, 0, none⟩) R.files.length cap) ∧ w'.cell? ⟨P, 1, none⟩ = some (.int .i64 (pa : Int)) ∧ w'.cell? ⟨P, 2, none⟩ = some (.string p.text))) (by kernel_rfl) ?_ (fun hHeld => ?_)
          · ((try dsimp only); (first | exact hS1 | exact KS.out _ _ hS1 | go_keep))
          refine held_take (i := 0) (v := ?_) rfl (by kernel_rfl) (by kernel_rfl) (by kernel_rfl) (fun _ _ _ h => h) (by rfl) (fun w hSw => ?_) (by assumption) ?_
          rotate_left
          · ((try dsimp only at hSw); go_simp; (try with_reducible rfl))
          (try simp only [Act.put, List.setIfInBounds_toArray, List.set_cons_zero, List.set_cons_succ])
          refine held_take (i := 1) (v := ?_) rfl (by kernel_rfl) (by kernel_rfl) (by kernel_rfl) (fun _ _ _ h => h) (by rfl) (fun w hSw => ?_) (by assumption) ?_
          rotate_left
          · ((try dsimp only at hSw); go_simp; (try with_reducible rfl))
          (try simp only [Act.put, List.setIfInBounds_toArray, List.set_cons_zero, List.set_cons_succ])
          refine held_take (i := 2) (v := ?_) rfl (by kernel_rfl) (by kernel_rfl) (by kernel_rfl) (fun _ _ _ h => h) (by rfl) (fun w hSw => ?_) (by assumption) ?_
          rotate_left
          · ((try dsimp only at hSw); go_simp; (try with_reducible rfl))
          (try simp only [Act.put, List.setIfInBounds_toArray, List.set_cons_zero, List.set_cons_succ])
          refine held_take (i := 3) (v := ?_) rfl (by kernel_rfl) (by kernel_rfl) (by kernel_rfl) (fun _ _ _ h => h) (by rfl) (fun w hSw => ?_) (by assumption) ?_
          rotate_left
          · ((try dsimp only at hSw); go_simp; (try with_reducible rfl))
          (try simp only [Act.put, List.setIfInBounds_toArray, List.set_cons_zero, List.set_cons_succ])
          refine held_take (i := 4) (v := ?_) rfl (by kernel_rfl) (by kernel_rfl) (by kernel_rfl) (fun _ _ _ h => h) (by rfl) (fun w hSw => ?_) (by assumption) ?_
          rotate_left
          · ((try dsimp only at hSw); go_simp; (try with_reducible rfl))
          (try simp only [Act.put, List.setIfInBounds_toArray, List.set_cons_zero, List.set_cons_succ])
          refine held_take (i := 5) (v := ?_) rfl (by kernel_rfl) (by kernel_rfl) (by kernel_rfl) (fun _ _ _ h => h) (by rfl) (fun w hSw => ?_) (by assumption) ?_
          rotate_left
          · ((try dsimp only at hSw); go_simp; (try with_reducible rfl))
          (try simp only [Act.put, List.setIfInBounds_toArray, List.set_cons_zero, List.set_cons_succ])
          refine held_take (i := 6) (v := ?_) rfl (by kernel_rfl) (by kernel_rfl) (by kernel_rfl) (fun _ _ _ h => h) (by rfl) (fun w hSw => ?_) (by assumption) ?_
          rotate_left
          · ((try dsimp only at hSw); go_simp; (try with_reducible rfl))
          (try simp only [Act.put, List.setIfInBounds_toArray, List.set_cons_zero, List.set_cons_succ])
          refine held_take (i := 7) (v := ?_) rfl (by kernel_rfl) (by kernel_rfl) (by kernel_rfl) (fun _ _ _ h => h) (by rfl) (fun w hSw => ?_) (by assumption) ?_
          rotate_left
          · ((try dsimp only at hSw); go_simp; (try with_reducible rfl))
          (try simp only [Act.put, List.setIfInBounds_toArray, List.set_cons_zero, List.set_cons_succ])
          refine held_take (i := 8) (v := ?_) rfl (by kernel_rfl) (by kernel_rfl) (by kernel_rfl) (fun _ _ _ h => h) (by rfl) (fun w hSw => ?_) (by assumption) ?_
          rotate_left
          · ((try dsimp only at hSw); go_simp; (try with_reducible rfl))
          (try simp only [Act.put, List.setIfInBounds_toArray, List.set_cons_zero, List.set_cons_succ])
          refine held_take (i := 9) (v := ?_) rfl (by kernel_rfl) (by kernel_rfl) (by kernel_rfl) (fun _ _ _ h => h) (by rfl) (fun w hSw => ?_) (by assumption) ?_
          rotate_left
          · ((try dsimp only at hSw); go_simp; (try with_reducible rfl))
          (try simp only [Act.put, List.setIfInBounds_toArray, List.set_cons_zero, List.set_cons_succ])
          refine held_take (i := 10) (v := ?_) rfl (by kernel_rfl) (by kernel_rfl) (by kernel_rfl) (fun _ _ _ h => h) (by rfl) (fun w hSw => ?_) (by assumption) ?_
          rotate_left
          · ((try dsimp only at hSw); go_simp; (try with_reducible rfl))
          (try simp only [Act.put, List.setIfInBounds_toArray, List.set_cons_zero, List.set_cons_succ])
          refine held_take (i := 11) (v := ?_) rfl (by kernel_rfl) (by kernel_rfl) (by kernel_rfl) (fun _ _ _ h => h) (by rfl) (fun w hSw => ?_) (by assumption) ?_
          rotate_left
          · ((try dsimp only at hSw); go_simp; (try with_reducible rfl))
          (try simp only [Act.put, List.setIfInBounds_toArray, List.set_cons_zero, List.set_cons_succ])
          refine held_take (i := 13) (v := ?_) rfl (by kernel_rfl) (by kernel_rfl) (by kernel_rfl) (fun _ _ _ h => h) (by rfl) (fun w hSw => ?_) (by assumption) ?_
          rotate_left
          · ((try dsimp only at hSw); go_simp; (try with_reducible rfl))
          (try simp only [Act.put, List.setIfInBounds_toArray, List.set_cons_zero, List.set_cons_succ])
          refine held_take (i := 14) (v := ?_) rfl (by kernel_rfl) (by kernel_rfl) (by kernel_rfl) (fun _ _ _ h => h) (by rfl) (fun w hSw => ?_) (by assumption) ?_
          rotate_left
          · ((try dsimp only at hSw); go_simp; (try with_reducible rfl))
          (try simp only [Act.put, List.setIfInBounds_toArray, List.set_cons_zero, List.set_cons_succ])
          refine held_take (i := 15) (v := ?_) rfl (by kernel_rfl) (by kernel_rfl) (by kernel_rfl) (fun _ _ _ h => h) (by rfl) (fun w hSw => ?_) (by assumption) ?_
          rotate_left
          · ((try dsimp only at hSw); go_simp; (try with_reducible rfl))
          (try simp only [Act.put, List.setIfInBounds_toArray, List.set_cons_zero, List.set_cons_succ])
          refine held_take (i := 16) (v := ?_) rfl (by kernel_rfl) (by kernel_rfl) (by kernel_rfl) (fun _ _ _ h => h) (by rfl) (fun w hSw => ?_) (by assumption) ?_
          rotate_left
          · ((try dsimp only at hSw); go_simp; (try with_reducible rfl))
          (try simp only [Act.put, List.setIfInBounds_toArray, List.set_cons_zero, List.set_cons_succ])
          refine held_take (i := 17) (v := ?_) rfl (by kernel_rfl) (by kernel_rfl) (by kernel_rfl) (fun _ _ _ h => h) (by rfl) (fun w hSw => ?_) (by assumption) ?_
          rotate_left
          · ((try dsimp only at hSw); go_simp; (try with_reducible rfl))
          (try simp only [Act.put, List.setIfInBounds_toArray, List.set_cons_zero, List.set_cons_succ])
          refine held_take (i := 18) (v := ?_) rfl (by kernel_rfl) (by kernel_rfl) (by kernel_rfl) (fun _ _ _ h => h) (by rfl) (fun w hSw => ?_) (by assumption) ?_
          rotate_left
          · ((try dsimp only at hSw); go_simp; (try with_reducible rfl))
          (try simp only [Act.put, List.setIfInBounds_toArray, List.set_cons_zero, List.set_cons_succ])
          refine wpAnyH_ready (rs := [12]) (by kernel_rfl) (by simp) ?_
          refine held_cons rfl (fun K hK => ?_) (AllReadyH.nil)
          go_simp
          refine hK.out _ _ ?_ (fun hHeld => ?_)
          · ((try dsimp only); (first | exact hS1 | exact KS.out _ _ hS1 | go_keep))
          clear hK K
          (try simp only [Act.put, List.setIfInBounds_toArray, List.set_cons_zero, List.set_cons_succ])
          refine wpAnyH_ready (rs := [19]) (by kernel_rfl) (by simp) ?_
          refine held_cons rfl (fun K hK => ?_) (AllReadyH.nil)
          go_simp
          ((go_at_call 70; refine (HL.out _).mono ?_; rintro e w1 ⟨rfl, hb1⟩; have hb2 := below_step (below_drewN (Below.refl _ wr) _) hb1; have hS1 := KE.out w1 hb2; obtain ⟨hg1, hg2⟩ := KF.out w1 hb2))
          go_wp2_with fail
          refine hK.out _ _ ?_ (fun hHeld => ?_)
          · ((try dsimp only); (first | exact hS1 | exact KS.out _ _ hS1 | go_keep))
          clear hK K
          (try simp only [Act.put, List.setIfInBounds_toArray, List.set_cons_zero, List.set_cons_succ])
          refine held_take (i := 20) (v := ?_) rfl (by kernel_rfl) (by kernel_rfl) (by kernel_rfl) (fun _ _ _ h => h) (by rfl) (fun w hSw => ?_) (by assumption) ?_
          rotate_left
          · ((try dsimp only at hSw); go_simp; (try with_reducible rfl))
          (try simp only [Act.put, List.setIfInBounds_toArray, List.set_cons_zero, List.set_cons_succ])
          refine held_take (i := 21) (v := ?_) rfl (by kernel_rfl) (by kernel_rfl) (by kernel_rfl) (fun _ _ _ h => h) (by rfl) (fun w hSw => ?_) (by assumption) ?_
          rotate_left
          · ((try dsimp only at hSw); go_simp; (try with_reducible rfl))
          (try simp only [Act.put, List.setIfInBounds_toArray, List.set_cons_zero, List.set_cons_succ])
          refine wpAnyH_ready (rs := [22]) (by kernel_rfl) (by simp) ?_
          refine held_cons rfl (fun K hK => ?_) (AllReadyH.nil)
          go_simp
          refine hK.out _ _ ?_ (fun hHeld => ?_)
          · ((try dsimp only); (first | exact hS1 | exact KS.out _ _ hS1 | go_keep))
          clear hK K
          (try simp only [Act.put, List.setIfInBounds_toArray, List.set_cons_zero, List.set_cons_succ])
          refine wpAnyH_done (by kernel_rfl) ?_ _
          all_goals (refine NoPanic.normal ?_)
          have HR2 := Lib.hid (HSet.out { M with last := rlay M.last pa (p.text.extract 0 n) } (.string (rlay M.last pa (p.text.extract 0 n))) rfl w1 hb2)
          have HPB2 : Hid (Blk (w1.setCell ⟨g, k * 4 + 2, none⟩ (.string (rlay M.last pa (p.text.extract 0 n)))) P [.int .i64 p.id, .int .i64 (pa : Int), .string p.text] 96) := Lib.hid ((HPB.out.below hb2).set_other (a := ⟨g, k * 4 + 2, none⟩) hPg _)
          have Hs2 := Lib.hid (HSm.out { M with last := rlay M.last pa (p.text.extract 0 n) } ⟨hsk1, by show (rlay _ _ _).size ≤ _; rw [rlay_size, hns]; omega⟩)
          rw [HF.out] at HT
          generalize w1.setCell ⟨g, k * 4 + 2, none⟩ (.string (rlay M.last pa (p.text.extract 0 n))) = w2 at HR2 HPB2 ⊢
          clear hHeld KE KF KS HL hb1 hb2 hS1 hg1 hg2 p0 p1 p2 hc0 hc2 c0 hf2
          go_wp2_with fail
          go_roundw
          case rel => exact ⟨k + 1, _, by go_num, by omega, Lib.hid (by rw [List.length_set]; exact Hlen.out), Lib.hid HT.out.symm, Hs2, HPB2, HR2⟩
          case measure => simp [intOf]; omega
        · have HF : Hid (rlastF p n M = M) := Lib.hid (by
            unfold rlastF
            rw [if_neg (fun h => hn0 h.2)])
          have hdd : (M.id == p.id) = true := by simpa using hid
          have hself : Hid (fs.set k M = fs) := Lib.hid (by rw [HMk.out]; exact List.set_getElem_self hlf)
          rw [HF.out, hself.out] at HT
          go_upto_region 4 with (fail)
          go_quiet (fail)
          have HR2 := Lib.hid (HR.out.below (below_drewN (Below.refl _ wr) nq))
          have HPB2 := Lib.hid (HPB.out.drewN nq)
          clear p0 p1 p2 hc0 hc2 c0
          go_wp2_with fail
          go_roundw
          case rel => exact ⟨k + 1, fs, by go_num, by omega, Hlen, Lib.hid HT.out.symm, Hsm, HPB2, HR2⟩
          case measure => simp [intOf]; omega
      · have HF : Hid (rlastF p n M = M) := Lib.hid (by
          unfold rlastF
          rw [if_neg (fun h => hid h.1)])
        have hdd : (M.id == p.id) = false := beq_eq_false_iff_ne.2 hid
        have hself : Hid (fs.set k M = fs) := Lib.hid (by rw [HMk.out]; exact List.set_getElem_self hlf)
        rw [HF.out, hself.out] at HT
        go_upto_region 4 with (fail)
        go_quiet (fail)
        have HR2 := Lib.hid (HR.out.below (below_drewN (Below.refl _ wr) nq))
        have HPB2 := Lib.hid (HPB.out.drewN nq)
        clear p0 p1 p2 hc0 hc2 c0
        go_wp2_with fail
        go_roundw
        case rel => exact ⟨k + 1, fs, by go_num, by omega, Hlen, Lib.hid HT.out.symm, Hsm, HPB2, HR2⟩
        case measure => simp [intOf]; omega
    · obtain rfl : k = R.files.length := by omega
      have Hfin : Hid (fs = R.files.map (rlastF p n)) := Lib.hid (by rw [Hfs.out, List.take_length, List.drop_length, List.append_nil])
      go_wp2_with fail
      go_end0
      exact ⟨rfl, fs, HR.out, Hfin.out⟩
end Go.Proofs.Ytlmodbaeoheiiaa
