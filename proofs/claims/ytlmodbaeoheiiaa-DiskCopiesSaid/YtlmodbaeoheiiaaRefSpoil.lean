/- The document's device: a byte changed. No condition but the sizes. -/
import Derived.Test.YtlmodbaeoheiiaaRefCrash
namespace Go.Proofs.Ytlmodbaeoheiiaa
open Go.RowKit
set_option linter.unusedVariables false

def rbent (s : ByteArray) (a : Nat) (y : Int) : ByteArray := textOf (bentAt s.data.toList a y)
set_option maxRecDepth 100000 in
set_option maxHeartbeats 800000 in
theorem refBent_any (s : ByteArray) (a : Nat) (y : Int) (w : World) (ha : a < s.size) (hs : s.size ≤ 4194304) :
    Calls Try.prog 72 #[.string s, .int .i64 (a : Int), .int .i64 y] w fun e w' => e = .returned (.string (rbent s a y)) ∧ Below w.heap.size w w' := by
  have ha1 : (a : Int) < (s.size : Int) := by omega
  have hcv2 := fun w s => run_bytes_of_string (P := Try.prog) w 9 32 5 s Try.underlying9 Try.underlying32 Try.underlying5
  have hb0 := (s[a]).toNat_lt
  have HX := Lib.hid (bits_byte s[a] y)
  go_enter Try.func72, Try.ntmps72
  go_upto_region 2 with (fail)
  obtain ⟨hC, hB⟩ := bytes_block (w := w) (C := bytesRow s (grownCap w s.size 0 5)) (e := 5) (m := ((bytesRow s (grownCap w s.size 0 5)).size, (bytesRow s (grownCap w s.size 0 5)).size + 1)) rfl
  have hcap : s.size ≤ grownCap w s.size 0 5 := grownCap_ge w _ _ _
  have hfz : (w.alloc (.cells (bytesRow s (grownCap w s.size 0 5)) 5 ((bytesRow s (grownCap w s.size 0 5)).size, (bytesRow s (grownCap w s.size 0 5)).size + 1))).drew.frozen? ⟨w.heap.size, a, none⟩ = false := by
    have h1 : (w.alloc (.cells (bytesRow s (grownCap w s.size 0 5)) 5 ((bytesRow s (grownCap w s.size 0 5)).size, (bytesRow s (grownCap w s.size 0 5)).size + 1))).drew.heap[w.heap.size]? = some _ := heap_alloc_new w _
    have hz : (bytesRow s (grownCap w s.size 0 5)).size = grownCap w s.size 0 5 := by
      unfold bytesRow
      rw [Array.size_append, Array.size_map, Array.size_replicate]
      have : s.data.size = s.size := rfl
      omega
    simp only [World.frozen?, h1]
    rw [hz]
    simp
    omega
  generalize (w.alloc (.cells (bytesRow s (grownCap w s.size 0 5)) 5 ((bytesRow s (grownCap w s.size 0 5)).size, (bytesRow s (grownCap w s.size 0 5)).size + 1))).drew = w1 at hC hB hfz ⊢
  generalize grownCap w s.size 0 5 = cap at hcap ⊢
  have hlt1 : w.heap.size < w1.heap.size := World.block_lt_of_cell? w1 _ (hC a ha)
  have HCB : Hid (∀ v, v = Value.int .u8 (((s[a] ^^^ byteOf y).toNat : Nat) : Int) → (convert 32 9 (.slice (some ⟨w.heap.size, 0, none⟩) s.size cap)).run Try.prog (w1.setCell ⟨w.heap.size, a, none⟩ v) = .ok (.string (rbent s a y)) (w1.setCell ⟨w.heap.size, a, none⟩ v)) := Lib.hid (fun v hv => by
    have hl : (bentAt s.data.toList a y).length = s.size := by rw [bentAt_in (by rw [blen]; exact ha), List.length_set, blen]
    have h := run_convert_bytes_back (P := Try.prog) (w1.setCell ⟨w.heap.size, a, none⟩ v) 32 9 5 ⟨w.heap.size, 0, none⟩ cap (bentAt s.data.toList a y) Try.underlying32 Try.underlying5 Try.underlying9 (fun j hj => by
      rw [addr_add]
      have hjs : j < s.size := by rw [hl] at hj; exact hj
      by_cases e : j = a
      · subst e
        rw [World.cell?_setCell_same w1 _ v (hC j hjs), hv]
        have e2 : (bentAt s.data.toList j y)[j] = s[j] ^^^ byteOf y := by
          simp only [bentAt_in (show j < s.data.toList.length by rw [blen]; exact hjs), List.getElem_set_self]
          rfl
        rw [e2]
      · rw [World.cell?_setCell_other w1 _ _ v (by intro h; injection h with _ h2; exact e h2.symm), hC j hjs]
        have e2 : (bentAt s.data.toList a y)[j] = s[j] := by
          simp only [bentAt_in (show a < s.data.toList.length by rw [blen]; exact ha), List.getElem_set_ne (Ne.symm e)]
          rfl
        rw [e2])
    rw [hl] at h
    exact h)
  have c1 := hC a ha
  obtain ⟨H, hH⟩ : ∃ H, H = w.heap.size := ⟨_, rfl⟩
  have HB := Lib.hid hB
  have HHv := Lib.hid hH
  rw [← hH] at c1 hfz HCB hlt1 ⊢
  clear hC hB hcv2 hH
  have hcv := HCB.out (.int .u8 (bits .xor .u8 (s[a].toNat : Int) (y % 256))) (by rw [HX.out])
  go_wp2_with fail
  go_ret
  refine ⟨rfl, ?_⟩
  exact HB.out.trans ((Touch.set (S := fun k => k = H) (Touch.refl _ w1) (p := ⟨H, a, none⟩) (Or.inl rfl) _).below (B := w.heap.size) HB.out.size (fun k hk e => by have := HHv.out; omega))
def QS.spoil (Q : QS) (s : ByteArray) (a y : Int) : Int × QS := if refIdx Q.files s < 0 then (8, Q) else match Q.files[(refIdx Q.files s).toNat]? with
  | none => (8, Q)
  | some f => if a < 0 ∨ (f.last.size : Int) ≤ a then (2, Q) else (0, { Q with files := Q.files.set (refIdx Q.files s).toNat { f with last := rbent f.last a.toNat y, seen := rbent f.seen a.toNat y } })
theorem rbent_out {s : ByteArray} {a : Nat} (h : s.size ≤ a) (y : Int) : rbent s a y = s := by
  unfold rbent
  rw [bentAt_out (by rw [blen]; exact h)]
  exact bytes_ext (by unfold textOf; rw [List.toList_toArray])
theorem refSpoil_none (q : Nat) (R : RSt) (s : ByteArray) (a y : Int) (w : World) (h : RefD w q R) (hl : R.files.length ≤ 1000000) (hx : refIdx R.files s = -1) :
    Calls Try.prog 56 #[.pointer (some ⟨q, 0, none⟩), .string s, .int .i64 a, .int .i64 y] w fun e w' => e = .returned (.int .i64 8) ∧ w = w' := by
  have HF := Lib.hid (refFind_any q R s w h hl)
  rw [hx] at HF
  clear h hx
  go_enter Try.func56, Try.ntmps56
  go_wp2_with fail
  refine HF.out.mono ?_
  rintro e w' ⟨rfl, rfl⟩
  go_wp2_with fail
  go_ret
  exact ⟨rfl, rfl⟩
set_option maxRecDepth 100000 in
set_option maxHeartbeats 800000 in
theorem refSpoil_range (q : Nat) (R : RSt) (s : ByteArray) (a y : Int) (k : Nat) (hk : k < R.files.length) (w : World) (h : RefD w q R) (hl : R.files.length ≤ 1000000) (hx : refIdx R.files s = k) (hr : a < 0 ∨ (R.files[k].last.size : Int) ≤ a) :
    Calls Try.prog 56 #[.pointer (some ⟨q, 0, none⟩), .string s, .int .i64 a, .int .i64 y] w fun e w' => e = .returned (.int .i64 2) ∧ w = w' := by
  have HF := Lib.hid (refFind_any q R s w h hl)
  rw [hx] at HF
  obtain ⟨g, cap, hv, hgl, hc⟩ := rfile_at h k hk
  have c0 : w.cell? ⟨q, 0, none⟩ = some (.slice (some ⟨g, 0, none⟩) R.files.length cap) := by rw [← hv]; exact h.blk.cell 0
  have c2 : w.cell? ⟨g, k * 4 + 2, none⟩ = some (.string R.files[k].last) := hc 2 (by omega)
  generalize R.files[k] = f at c2 hr
  clear h hx hc hv
  by_cases h0 : a < 0
  · clear hr
    go_enter Try.func56, Try.ntmps56
    go_wp2_with fail
    refine HF.out.mono ?_
    rintro e w' ⟨rfl, rfl⟩
    go_wp2_with fail
    go_ret
    exact ⟨rfl, rfl⟩
  · have h1 : (f.last.size : Int) ≤ a := by omega
    clear hr
    go_enter Try.func56, Try.ntmps56
    go_wp2_with fail
    refine HF.out.mono ?_
    rintro e w' ⟨rfl, rfl⟩
    go_wp2_with fail
    go_ret
    exact ⟨rfl, rfl⟩
set_option maxRecDepth 100000 in
set_option maxHeartbeats 1600000 in
theorem refSpoil_ok (q : Nat) (R : RSt) (s : ByteArray) (a : Nat) (y : Int) (k : Nat) (hk : k < R.files.length) (w : World) (h : RefD w q R) (hl : R.files.length ≤ 1000000) (hs : RSmall R.files) (hx : refIdx R.files s = k) (ha : a < R.files[k].last.size) :
    Calls Try.prog 56 #[.pointer (some ⟨q, 0, none⟩), .string s, .int .i64 (a : Int), .int .i64 y] w fun e w' => e = .returned (.int .i64 0) ∧ RDev q R w { R with files := R.files.set k { R.files[k] with last := rbent R.files[k].last a y, seen := rbent R.files[k].seen a y } } w' := by
  have HF := Lib.hid (refFind_any q R s w h hl)
  rw [hx] at HF
  obtain ⟨g, cap, hv, hgl, hc⟩ := rfile_at h k hk
  have Hgv := Lib.hid hv
  have c0 : w.cell? ⟨q, 0, none⟩ = some (.slice (some ⟨g, 0, none⟩) R.files.length cap) := by rw [← hv]; exact h.blk.cell 0
  have c2 : w.cell? ⟨g, k * 4 + 2, none⟩ = some (.string R.files[k].last) := hc 2 (by omega)
  have c3 : w.cell? ⟨g, k * 4 + 3, none⟩ = some (.string R.files[k].seen) := hc 3 (by omega)
  obtain ⟨hs1, hs2⟩ := hs _ (List.getElem_mem hk)
  have H := Lib.hid h
  have HSet1 := Lib.hid (fun (w1 : World) (hb : Below w.heap.size w w1) (f' : RF) (v : Value) (hv2 : rfVals f' = (rfVals R.files[k]).set 2 v) => RDev.after hb (RDev.setField (h.below hb) k 2 hk (by decide) f' v hv hv2))
  have Hset : Hid (∀ f1 f2 : RF, (R.files.set k f1).set k f2 = R.files.set k f2) := Lib.hid (fun f1 f2 => by rw [List.set_set])
  obtain ⟨M, hM⟩ : ∃ M, M = R.files[k] := ⟨_, rfl⟩
  rw [← hM] at c2 c3 hs1 hs2 ha HSet1 ⊢
  have HB1 := Lib.hid (fun w' => refBent_any M.last a y w' ha hs2)
  have hkl1 : (k : Int) < (R.files.length : Int) := by omega
  have ha2 : (a : Int) < (M.last.size : Int) := by omega
  have hql := h.blk.lt
  have HBR := Lib.hid (fun (w1 : World) (hb : Below w.heap.size w w1) => (show w1.cell? ⟨q, 0, none⟩ = some (.slice (some ⟨g, 0, none⟩) R.files.length cap) ∧ w1.cell? ⟨g, k * 4 + 2, none⟩ = some (.string M.last) ∧ w1.frozen? ⟨g, k * 4 + 2, none⟩ = false from
    ⟨(hb.cell (p := ⟨q, 0, none⟩) hql).trans c0, (hb.cell (p := ⟨g, k * 4 + 2, none⟩) hgl).trans c2, rfree (h.below hb) hv _⟩))
  clear h hx hc hv hM
  go_enter Try.func56, Try.ntmps56
  go_wp2_with fail
  refine HF.out.mono ?_
  rintro e w' ⟨rfl, rfl⟩
  go_upto_region 6 with (fail)
  go_cut [] (fun wx => Hid (RDev q R w { R with files := R.files.set k { M with last := rbent M.last a y } } wx))
  case first =>
    go_region_with ((go_at_call 72; refine (HB1.out _).mono ?_; rintro e w1 ⟨rfl, hb1⟩; have hb2 := below_step ((Below.refl _ w).drew) hb1; obtain ⟨hq1, hg1, hg2⟩ := HBR.out w1 hb2))
    all_goals go_wp2_with fail
    all_goals go_meet
    all_goals exact HSet1.out w1 hb2 { M with last := rbent M.last a y } _ rfl
  case rest =>
    have HR := Lib.hid hcut.out
    have hk1 : k < (R.files.set k { M with last := rbent M.last a y }).length := by rw [List.length_set]; exact hk
    have hM1 : (R.files.set k { M with last := rbent M.last a y })[k] = { M with last := rbent M.last a y } := List.getElem_set_self _
    obtain ⟨g', cap', hv', hgl', hc'⟩ := rfile_at HR.out.at_ k hk1
    have Hgv2 : Hid (R.fv = .slice (some ⟨g', 0, none⟩) (R.files.set k { M with last := rbent M.last a y }).length cap') := Lib.hid hv'
    have hgg : g' = g := by
      have e := Hgv2.out
      rw [Hgv.out] at e
      injection e with e1
      injection e1 with e1
      injection e1 with e1
      exact e1.symm
    replace hc' : ∀ j, j < 4 → wc.cell? ⟨g', k * 4 + j, none⟩ = (rfVals (R.files.set k { M with last := rbent M.last a y })[k])[j]? := hc'
    rw [hM1] at hc'
    subst hgg
    have c0 : wc.cell? ⟨q, 0, none⟩ = some (.slice (some ⟨g', 0, none⟩) R.files.length cap) := by rw [← Hgv.out]; exact HR.out.at_.blk.cell 0
    have c3 : wc.cell? ⟨g', k * 4 + 3, none⟩ = some (.string M.seen) := hc' 3 (by omega)
    have hqc := HR.out.at_.blk.lt
    have hgc : g' < wc.heap.size := hgl'
    by_cases hlt : a < M.seen.size
    · have HSet2 : Hid (∀ (w1 : World) (hb : Below wc.heap.size wc w1), RDev q R w { R with files := R.files.set k { M with last := rbent M.last a y, seen := rbent M.seen a y } } (w1.setCell ⟨g', k * 4 + 3, none⟩ (.string (rbent M.seen a y)))) := Lib.hid (fun w1 hb => by
        have h := HR.out.trans (RDev.after hb (RDev.setField (HR.out.at_.below hb) k 3 hk1 (by decide) { M with last := rbent M.last a y, seen := rbent M.seen a y } (.string (rbent M.seen a y)) Hgv2.out (by
          show _ = (rfVals (R.files.set k { M with last := rbent M.last a y })[k]).set 3 _
          rw [hM1]
          rfl)))
        have e := Hset.out { M with last := rbent M.last a y } { M with last := rbent M.last a y, seen := rbent M.seen a y }
        rw [show (R.files.set k { M with last := rbent M.last a y }).set k { M with last := rbent M.last a y, seen := rbent M.seen a y } = _ from e] at h
        exact h)
      have HB2 := Lib.hid (fun w' => refBent_any M.seen a y w' hlt hs1)
      have HBR2 := Lib.hid (fun (w1 : World) (hb : Below wc.heap.size wc w1) => (show w1.cell? ⟨q, 0, none⟩ = some (.slice (some ⟨g', 0, none⟩) R.files.length cap) ∧ w1.cell? ⟨g', k * 4 + 3, none⟩ = some (.string M.seen) ∧ w1.frozen? ⟨g', k * 4 + 3, none⟩ = false from
        ⟨(hb.cell (p := ⟨q, 0, none⟩) hqc).trans c0, (hb.cell (p := ⟨g', k * 4 + 3, none⟩) hgc).trans c3, rfree (HR.out.at_.below hb) Hgv2.out _⟩))
      clear hcut HSet1 HBR HB1 c2 hc' hM1 hv'
      go_upto_region 8 with (fail)
      go_cut [] (fun wx => Hid (RDev q R w { R with files := R.files.set k { M with last := rbent M.last a y, seen := rbent M.seen a y } } wx))
      case first =>
        go_region_with ((go_at_call 72; refine (HB2.out _).mono ?_; rintro e w1 ⟨rfl, hb1⟩; have hb2 := below_step ((Below.refl _ wc).drew) hb1; obtain ⟨hq1, hg1, hg2⟩ := HBR2.out w1 hb2))
        all_goals go_wp2_with fail
        all_goals go_meet
        all_goals exact HSet2.out w1 hb2
      case rest =>
        have HF2 := Lib.hid hcut.out
        clear hcut HSet2 HBR2 HB2 c0 c3
        go_wp2_with fail
        go_ret
        exact ⟨rfl, HF2.out⟩
    · have HF2 : Hid (RDev q R w { R with files := R.files.set k { M with last := rbent M.last a y, seen := rbent M.seen a y } } wc) := Lib.hid (by
        rw [rbent_out (s := M.seen) (by omega) y]
        exact HR.out)
      clear hcut HSet1 HBR HB1 c2 hc' hM1 hv'
      go_wp2_with fail
      go_ret
      exact ⟨rfl, HF2.out⟩
theorem refSpoil_any (q : Nat) (R : RSt) (s : ByteArray) (a y : Int) (w : World) (h : RefD w q R) (hl : R.files.length ≤ 1000000) (hs : RSmall R.files) :
    Calls Try.prog 56 #[.pointer (some ⟨q, 0, none⟩), .string s, .int .i64 a, .int .i64 y] w fun e w' => e = .returned (.int .i64 (R.pl.spoil s a y).1) ∧ ∃ R', RDev q R w R' w' ∧ R'.pl = (R.pl.spoil s a y).2 := by
  rcases refIdx_cases R.files s with hx | ⟨k, hx, hk⟩
  · have e0 : R.pl.spoil s a y = (8, R.pl) := by
      unfold QS.spoil
      rw [if_pos (by show refIdx R.files s < 0; rw [hx]; decide)]
    rw [e0]
    refine (refSpoil_none q R s a y w h hl hx).mono ?_
    rintro e w' ⟨rfl, rfl⟩
    exact ⟨rfl, R, RDev.refl h, rfl⟩
  · have hn : ¬ (refIdx R.pl.files s < 0) := by show ¬ (refIdx R.files s < 0); rw [hx]; omega
    have e9 : (refIdx R.pl.files s).toNat = k := by show (refIdx R.files s).toNat = k; rw [hx]; rfl
    have e8 : R.pl.files[k]? = some R.files[k] := List.getElem?_eq_getElem hk
    by_cases hr : a < 0 ∨ (R.files[k].last.size : Int) ≤ a
    · have e0 : R.pl.spoil s a y = (2, R.pl) := by
        unfold QS.spoil
        rw [if_neg hn, e9, e8]
        exact if_pos hr
      rw [e0]
      refine (refSpoil_range q R s a y k hk w h hl hx hr).mono ?_
      rintro e w' ⟨rfl, rfl⟩
      exact ⟨rfl, R, RDev.refl h, rfl⟩
    · obtain ⟨n, rfl⟩ := Int.eq_ofNat_of_zero_le (show 0 ≤ a by omega)
      have e0 : R.pl.spoil s (n : Int) y = (0, { R.pl with files := R.files.set k { R.files[k] with last := rbent R.files[k].last n y, seen := rbent R.files[k].seen n y } }) := by
        unfold QS.spoil
        rw [if_neg hn, e9, e8]
        exact if_neg hr
      rw [e0]
      refine (refSpoil_ok q R s n y k hk w h hl hs hx (by omega)).mono ?_
      rintro e w' ⟨rfl, hD⟩
      exact ⟨rfl, _, hD, rfl⟩
end Go.Proofs.Ytlmodbaeoheiiaa
