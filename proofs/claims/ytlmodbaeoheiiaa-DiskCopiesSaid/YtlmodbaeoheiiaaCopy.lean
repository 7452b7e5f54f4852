/- Copy. Conditions: sizes. -/
import Derived.Test.YtlmodbaeoheiiaaRename
import Derived.Deep.AppendLies
import Derived.Test.YtlmodbaeoheiiaaHeld
namespace Go.Proofs.Ytlmodbaeoheiiaa
open Go.RowKit
set_option linter.unusedVariables false

theorem waitVals_one (l : List DPiece) : ∀ v ∈ waitVals l, v.oneCell' = true := by
  intro v hv
  obtain ⟨p, _, hp⟩ := List.mem_flatMap.1 hv
  simp only [pieceVals, List.mem_cons, List.not_mem_nil, or_false] at hp
  rcases hp with rfl | rfl | rfl | rfl <;> rfl
set_option maxRecDepth 100000 in
theorem cloneWait_any (v : Value) (l : List DPiece) (w : World) (hown : w.ownsRow 0 78 4 v l.length (waitVals l)) (hn : l.length ≤ 1000000000) :
    Calls Try.prog 43 #[v] w fun e w' => ∃ ad cap, e = .returned (.slice ad l.length cap) ∧ w'.ownsRow w.heap.size 78 4 (.slice ad l.length cap) l.length (waitVals l) ∧ Below w.heap.size w w' := by
  have hq := fun w a l c => run_eql_slice_nil (P := Try.prog) w 65 78 a l c Try.underlying65
  rcases hown.2 with ⟨rfl, h0⟩ | ⟨g, cap, cur, rfl, _, hb, hnc, hcm, hcs, hct⟩
  · obtain rfl := List.eq_nil_of_length_eq_zero h0
    clear hown hn h0
    go_enter Try.func43, Try.ntmps43
    go_wp2_with fail
    go_ret
    exact ⟨_, _, rfl, World.ownsRow_nil _ _ _ _, Below.refl _ _⟩
  · obtain ⟨i0, hi, hz0, hz1, hz2⟩ := info_parts info_write
    have hE := empty_rowD w 78 4
    have hnews : ∀ j u, (waitVals l)[j]? = some u → (w.alloc (.cells #[] 78)).cell? ((⟨g, 0, none⟩ : Addr).add j) = some u := fun j u hj => by
      have hgl := (hown.lt g rfl).2
      have hj2 : j < l.length * 4 := by
        rcases Nat.lt_or_ge j (l.length * 4) with h | h
        · exact h
        · rw [List.getElem?_eq_none (by rw [waitVals_length]; exact h)] at hj; cases hj
      rw [addr_add, (((Below.refl w.heap.size w).alloc (Nat.le_refl _) _).cell (p := ⟨g, j, none⟩) hgl), hown.cellAt j hj2]
      exact hj
    have HE := Lib.hid hE
    have Hnews := Lib.hid hnews
    have HA := Lib.hid ((Below.refl w.heap.size w).alloc (Nat.le_refl _) (.cells #[] 78))
    clear hE hnews hown hb hcs hct
    go_enter Try.func43, Try.ntmps43
    go_wp2_with (at_builtin; refine wpList_append_own_at _ rfl _ _ 65 rfl w.heap.size 78 i0 _ 4 40 Try.underlying65 hi hz0 hz1 hz2 rfl (by decide) _ _ _ rfl HE.out ⟨g, 0, none⟩ l.length cap (waitVals l) rfl (by rw [waitVals_length]) Hnews.out (waitVals_one l) (by unfold maxLen; omega) (by omega) (by simp) ?_; intro v' w' hown' hgrow _ hat)
    go_ret
    have := hown'
    rw [Nat.zero_add, List.nil_append] at this
    obtain ⟨ad, cap2, rfl⟩ := row_shape this
    exact ⟨ad, cap2, rfl, this, HA.out.grown hgrow (by simp) (fun k hk => by cases hk; exact Nat.le_refl _)⟩

theorem news2 (w : World) (o : Obj) (v : Value) (T : TypeId) : ∀ j u, [v][j]? = some u → ((w.alloc o).alloc (.cells #[v] T)).cell? ((⟨w.heap.size + 1, 0, none⟩ : Addr).add j) = some u := by
  intro j u hj
  have h := (Blk.new (w.alloc o) [v] T).cell j
  rw [show (w.alloc o).heap.size = w.heap.size + 1 by simp] at h
  rw [addr_add]
  exact h.trans hj
/-- a device of its own, from block B on -/
def OwnDev (B : Nat) (c : Nat) (S : DSt) (w : World) : Prop := DiskAt w c S ∧ ∀ k, foot c S k → B ≤ k
theorem OwnDev.put {B c gg : Nat} {T : DSt} {id : Int} {nm : ByteArray} {l1 l2 : List UInt8} {w wr w1 w2 w5 : World} {v1 v2 v : Value} (hO : OwnDev B c T wr) (hB : Below B w wr) (hBw : B ≤ wr.heap.size) (h1 : Below wr.heap.size wr w1) (h2 : Below w1.heap.size w1 w2)
    (r1 : w1.ownsRow wr.heap.size 5 1 v1 l1.length (bytesVals l1)) (r2 : w2.ownsRow w1.heap.size 5 1 v2 l2.length (bytesVals l2))
    (h5 : ((w2.alloc (.cells #[.int .i64 id, .string nm, v1, v2] 74)).alloc (.cells #[.pointer (some ⟨w2.heap.size, 0, none⟩)] 72)).grownBy w5 T.fv.ownBlock)
    (hown : w5.ownsRow 0 72 1 v (T.files.length + 1) (fptrs T.files ++ [.pointer (some ⟨w2.heap.size, 0, none⟩)])) (hv : ∀ k, v.ownBlock = some k → k = gg) (hat : T.fv.ownBlock = some gg ∨ gg = w2.heap.size + 2) :
    OwnDev B c { T with fv := v, files := T.files ++ [⟨w2.heap.size, v1, v2, id, nm, l1, l2⟩] } (w5.setCell ⟨c, 0, none⟩ v) ∧ Below B w (w5.setCell ⟨c, 0, none⟩ v) := by
  obtain ⟨hD, hf⟩ := hO
  have s1 := h1.size
  have s2 := h2.size
  have h12 : Below wr.heap.size wr w2 := h1.trans (h2.mono s1)
  generalize hw3 : (w2.alloc (.cells #[.int .i64 id, .string nm, v1, v2] 74)).alloc (.cells #[.pointer (some ⟨w2.heap.size, 0, none⟩)] 72) = w3 at h5
  have hs3 : w3.heap.size = w2.heap.size + 2 := by rw [← hw3]; simp
  have h23 : Below w2.heap.size w2 w3 := by rw [← hw3]; exact ((Below.refl _ _).alloc (Nat.le_refl _) _).alloc (by simp) _
  have h13 : Below wr.heap.size wr w3 := h12.trans (h23.mono (by omega))
  have hD3 := hD.below h13
  have hN3 : Blk w3 w2.heap.size [.int .i64 id, .string nm, v1, v2] 74 := by rw [← hw3]; exact (Blk.new w2 [.int .i64 id, .string nm, v1, v2] 74).alloc _
  have hF3 : FileAt w3 ⟨w2.heap.size, v1, v2, id, nm, l1, l2⟩ :=
    ⟨hN3, ownsRow_below (row_base (ownsRow_below r1 h2) (Nat.zero_le _)) h23, ownsRow_below (row_base r2 (Nat.zero_le _)) h23, fun k hk e => by have := (r1.lt k hk).2; have := (r2.lt k e).1; omega⟩
  have hT5 : Touch (fun k => T.fv.ownBlock = some k) w3 w5 := touch_grown (Touch.refl _ w3) h5 (fun g hg => Or.inl hg)
  have hfr : ∀ k, (k = w2.heap.size ∨ buf ⟨w2.heap.size, v1, v2, id, nm, l1, l2⟩ k) → wr.heap.size ≤ k := by
    rintro k (rfl | hk | hk)
    · omega
    · exact (r1.lt k hk).1
    · have := (r2.lt k hk).1; omega
  have hput := Dev.putFile (v := v) hD3 (Nat.le_refl T.files.length) hF3 (fun g hg => ⟨fun e => by
      have := foot_lt hD (k := g.g) (Or.inr (Or.inr (Or.inr ⟨g, hg, Or.inl rfl⟩)))
      have e2 : w2.heap.size = g.g := e
      omega, fun k hk hg2 => by
      have := foot_lt hD (k := k) (Or.inr (Or.inr (Or.inr ⟨g, hg, Or.inr hg2⟩)))
      have := hfr k (Or.inr hk)
      omega⟩) hT5 (by
    rw [List.take_of_length_le (by unfold fptrs; simp), List.drop_eq_nil_of_le (by unfold fptrs; simp)]
    exact hown)
  rw [List.take_length, List.drop_length] at hput
  refine ⟨⟨hput, ?_⟩, ?_⟩
  · intro k hk
    rcases hk with hk | hk | hk | ⟨f, hm, hk⟩
    · exact hf k (Or.inl hk)
    · have := hv k hk
      subst this
      rcases hat with e | e
      · exact hf k (Or.inr (Or.inl e))
      · omega
    · exact hf k (Or.inr (Or.inr (Or.inl hk)))
    · rcases List.mem_append.1 hm with hm | hm
      · exact hf k (Or.inr (Or.inr (Or.inr ⟨f, hm, hk⟩)))
      · rw [List.mem_singleton.1 hm] at hk
        have := hfr k (by
          rcases hk with hk | hk
          · exact Or.inl hk.symm
          · exact Or.inr hk)
        omega
  · have t5 : Touch (fun k => k = c ∨ T.fv.ownBlock = some k) w3 (w5.setCell ⟨c, 0, none⟩ v) := (hT5.mono (fun k _ hk => Or.inr hk)).trans ((touch1_set (b := c) (Touch.refl _ w5) v).mono (fun k _ hk => Or.inl hk))
    exact (hB.trans (h13.mono hBw)).trans (t5.below (by omega) (fun k hk h => by
      rcases h with rfl | h
      · have := hf k (Or.inl rfl); omega
      · have := hf k (Or.inr (Or.inl h)); omega))
set_option maxRecDepth 100000 in
set_option maxHeartbeats 3200000 in
theorem copy_any (b : Nat) (S : DSt) (w : World) (h : DiskAt w b S) (hl : S.files.length ≤ 1000000) (hsm : Small S.files) (hwl : S.wait.length ≤ 1000000000) :
    Calls Try.prog 25 #[.pointer (some ⟨b, 0, none⟩)] w fun e w' => ∃ c S', e = .returned (.pointer (some ⟨c, 0, none⟩)) ∧ OwnDev w.heap.size c S' w' ∧ S'.pl = S.pl ∧ Below w.heap.size w w' := by
  have H := Lib.hid h
  have hbl := h.blk.lt
  have c1 : w.cell? ⟨b, 1, none⟩ = some S.wv := h.blk.cell 1
  have c2 : w.cell? ⟨b, 2, none⟩ = some (.int .i64 S.most) := h.blk.cell 2
  have c3 : w.cell? ⟨b, 3, none⟩ = some (.int .i64 S.fuse) := h.blk.cell 3
  have c4 : w.cell? ⟨b, 4, none⟩ = some (.bool S.off) := h.blk.cell 4
  have c5 : w.cell? ⟨b, 5, none⟩ = some (.int .i64 S.count) := h.blk.cell 5
  have c6 : w.cell? ⟨b, 6, none⟩ = some (.int .i64 S.made) := h.blk.cell 6
  obtain ⟨wad, wcap, hwv⟩ := row_shape h.wrow
  have HC := Lib.hid (fun w' (hb : Below w.heap.size w w') => cloneWait_any S.wv S.wait w' (h.below hb).wrow hwl)
  rw [hwv] at c1 HC
  have Hsm := Lib.hid hsm
  clear h hsm
  go_enter Try.func25, Try.ntmps25
  go_upto_region 3 with (fail)
  go_region_held3 (fun w' => w'.cell? ⟨b, 1, none⟩ = some (.slice wad S.wait.length wcap) ∧ w'.cell? ⟨b, 2, none⟩ = some (.int .i64 S.most) ∧ w'.cell? ⟨b, 3, none⟩ = some (.int .i64 S.fuse) ∧ w'.cell? ⟨b, 4, none⟩ = some (.bool S.off) ∧ w'.cell? ⟨b, 5, none⟩ = some (.int .i64 S.count) ∧ w'.cell? ⟨b, 6, none⟩ = some (.int .i64 S.made))
    (first | go_keep | (go_split_ands; refine ⟨?_, ?_, ?_, ?_, ?_, ?_⟩ <;> ((rw [hb1.cell (by simpa using hbl)]; assumption))))
    ((go_at_call 43; refine (HC.out _ (Below.refl _ _).drew).mono ?_; rintro e w1 ⟨ad, cap1, rfl, hown1, hb1⟩))
  have hb2 := Below.trans (Below.refl _ _).drew hb1
  have hown2 := row_base hown1 (Nat.zero_le _)
  obtain ⟨T0, hT0⟩ : ∃ T0 : DSt, T0 = { S with fv := .slice none 0 0, wv := .slice ad S.wait.length cap1, files := [] } := ⟨_, rfl⟩
  have HO : Hid (OwnDev w.heap.size w1.heap.size T0 (w1.alloc (.cells T0.vals.toArray 67))) := Lib.hid (by
    refine ⟨⟨Blk.new w1 _ _, ?_, ?_, ?_, ?_⟩, ?_⟩
    · rw [hT0]; exact World.ownsRow_nil _ _ _ _
    · rw [hT0]; exact hown2.alloc _
    · intro f hf; rw [hT0] at hf; cases hf
    · rw [hT0]; exact List.Pairwise.nil
    · intro k hk
      rw [hT0] at hk
      rcases hk with rfl | hk | hk | ⟨f, hf, _⟩
      · exact hb2.size
      · cases hk
      · exact (hown1.lt k hk).1
      · cases hf)
  have HB : Hid (Below w.heap.size w (w1.alloc (.cells T0.vals.toArray 67))) := Lib.hid (hb2.alloc hb2.size _)
  have hvals : T0.vals.toArray = #[Value.slice none 0 0, Value.slice ad S.wait.length cap1, Value.int IntKind.i64 S.most, Value.int IntKind.i64 S.fuse, Value.bool S.off, Value.int IntKind.i64 S.count, Value.int IntKind.i64 S.made] := by rw [hT0]; rfl
  rw [hvals] at HO HB
  have HT0 : Hid (∃ v, T0 = { S with fv := v, wv := .slice ad S.wait.length cap1, files := [] }) := Lib.hid ⟨_, hT0⟩
  clear hvals hT0 hb2 hown2 hown1 c1 c2 c3 c4 c5 c6 HC hwv
  rename_i hHeld
  clear hHeld hb1
  obtain ⟨ad0, cap0, hv0⟩ := row_shape H.out.frow
  have c0 : w.cell? ⟨b, 0, none⟩ = some (.slice ad0 S.files.length cap0) := by rw [← hv0]; exact H.out.blk.cell 0
  have c0' := (HB.out.cell (p := ⟨b, 0, none⟩) hbl).trans c0
  have Hv0 := Lib.hid hv0
  clear c0 hv0
  go_wp2_with fail
  generalize w1.alloc (.cells #[Value.slice none 0 0, Value.slice ad S.wait.length cap1, Value.int IntKind.i64 S.most, Value.int IntKind.i64 S.fuse, Value.bool S.off, Value.int IntKind.i64 S.count, Value.int IntKind.i64 S.made] 67) = wx at HO HB c0' ⊢
  generalize w1.heap.size = c at HO ⊢
  clear c0'
  go_loopw [40] (fun i wr => ∃ (k : Nat) (T : DSt), i = .int .i64 k ∧ k ≤ S.files.length ∧ Hid (T.files.length = k) ∧ Hid (T.files.map DFile.pl = (S.files.take k).map DFile.pl) ∧ Hid (∃ v fs, T = { S with fv := v, wv := .slice ad S.wait.length cap1, files := fs }) ∧ Hid (OwnDev w.heap.size c T wr) ∧ Hid (Below w.heap.size w wr)) (fun i _ => S.files.length - (intOf i).toNat)
  case atStart => exact ⟨0, T0, rfl, Nat.zero_le _, Lib.hid (by obtain ⟨v, hv⟩ := HT0.out; rw [hv]; rfl), Lib.hid (by obtain ⟨v, hv⟩ := HT0.out; rw [hv]; rfl), Lib.hid (by obtain ⟨v, hv⟩ := HT0.out; exact ⟨v, [], hv⟩), HO, HB⟩
  case round =>
    clear HT0 HO HB
    obtain ⟨k, T, rfl, hk, Hlen, Hpl, HT, HO, HB⟩ := hrel
    by_cases hlt : k < S.files.length
    · obtain ⟨g0, cap', hv', hgl, hcf⟩ := fptrs_at H.out k hlt
      rw [Hv0.out] at hv'
      injection hv' with hv1 hv3 hv2
      clear hv3
      subst hv1; subst hv2
      have hcf' := (HB.out.cell (p := ⟨g0, k, none⟩) hgl).trans hcf
      have hF := (H.out.fat _ (List.getElem_mem hlt)).touch (P := fun _ => False) ((Touch.of_below HB.out)) (fun h => h) (fun _ _ h => h)
      obtain ⟨hs1, hs2⟩ := Hsm.out _ (List.getElem_mem hlt)
      have Htk : Hid ((S.files.take (k + 1)).map DFile.pl = (S.files.take k).map DFile.pl ++ [S.files[k].pl]) := Lib.hid (by
        rw [List.take_succ_eq_append_getElem hlt, List.map_append]; rfl)
      generalize S.files[k] = F at hcf' hF hs1 hs2 Htk
      have HF := Lib.hid hF
      obtain ⟨la, lc, hlv⟩ := row_shape hF.last
      obtain ⟨sa, sc, hsv⟩ := row_shape hF.seen
      have d0 : wr.cell? ⟨F.g, 0, none⟩ = some (.int .i64 F.id) := hF.blk.cell 0
      have d1 : wr.cell? ⟨F.g, 1, none⟩ = some (.string F.name) := hF.blk.cell 1
      have d2 : wr.cell? ⟨F.g, 2, none⟩ = some (.slice la F.last.length lc) := by rw [← hlv]; exact hF.blk.cell 2
      have d3 : wr.cell? ⟨F.g, 3, none⟩ = some (.slice sa F.seen.length sc) := by rw [← hsv]; exact hF.blk.cell 3
      have hFl := hF.blk.lt
      obtain ⟨fa, fc, hfv⟩ := row_shape HO.out.1.frow
      have Hfv := Lib.hid hfv
      rw [Hlen.out] at hfv
      have e0 : wr.cell? ⟨c, 0, none⟩ = some (.slice fa k fc) := by rw [← hfv]; exact HO.out.1.blk.cell 0
      have HE0 := Lib.hid e0
      have hcl := HO.out.1.blk.lt
      have HCB := Lib.hid (fun w' (hb : Below wr.heap.size wr w') => And.intro (cloneBytes_any (.slice la F.last.length lc) F.last w' (by have := ownsRow_below hF.last hb; rw [hlv] at this; exact this) hs2) (cloneBytes_any (.slice sa F.seen.length sc) F.seen w' (by have := ownsRow_below hF.seen hb; rw [hsv] at this; exact this) hs1))
      obtain ⟨i0, hi0, hz0, hz1, hz2⟩ := info_parts info_fptr
      have Hi0 := Lib.hid hi0
      have Hown : Hid (wr.ownsRow 0 72 1 (.slice fa k fc) k (fptrs T.files)) := Lib.hid (by
        have := HO.out.1.frow
        rw [hfv, Hlen.out] at this
        exact this)
      have hcn : (Value.slice fa k fc).ownBlock ≠ some c := by rw [← hfv]; exact HO.out.1.b_ne.1
      have hFn : (Value.slice fa k fc).ownBlock ≠ some F.g := row_ne Hown.out hF.blk (by decide)
      have H63 := Lib.hid (show k + 1 ≤ maxLen by unfold maxLen; omega)
      have HBY := Lib.hid (show (k + 1) * 8 ≤ 140737488355328 by omega)
      have HSZ := Lib.hid (fun (w1 w2 : World) (h1 : wr.drew.heap.size ≤ w1.heap.size) (h2 : w1.heap.size ≤ w2.heap.size) => (show (∀ o1 o2 : Obj, c < ((w2.alloc o1).alloc o2).heap.size) ∧ (∀ o1 o2 : Obj, F.g < ((w2.alloc o1).alloc o2).heap.size) from by
        simp only [World.drew] at h1
        refine ⟨fun o1 o2 => ?_, fun o1 o2 => ?_⟩ <;> (rw [show ((w2.alloc o1).alloc o2).heap.size = w2.heap.size + 2 by simp]; omega)))
      have KE := Lib.hid (fun (w1 w2 w5 : World) (o1 o2 : Obj) (h1 : Below wr.drew.heap.size wr.drew w1) (h2 : Below w1.heap.size w1 w2) (h5 : ((w2.alloc o1).alloc o2).grownBy w5 (Value.slice fa k fc).ownBlock) =>
        (show w5.cell? ⟨F.g, 0, none⟩ = some (.int .i64 F.id) ∧ w5.cell? ⟨F.g, 1, none⟩ = some (.string F.name) ∧ w5.cell? ⟨F.g, 2, none⟩ = some (.slice la F.last.length lc) ∧ w5.cell? ⟨F.g, 3, none⟩ = some (.slice sa F.seen.length sc) from by
          have hz := (HSZ.out w1 w2 h1.size h2.size).2 o1 o2
          have key : ∀ j, w5.cell? ⟨F.g, j, none⟩ = wr.cell? ⟨F.g, j, none⟩ := fun j => by
            rw [h5.cell_far ⟨F.g, j, none⟩ hz (Ne.symm hFn)]
            have hb : Below wr.heap.size wr ((w2.alloc o1).alloc o2) := (((Below.refl wr.heap.size wr).drew.trans h1).trans (h2.mono h1.size)).alloc (Nat.le_trans h1.size h2.size) _ |>.alloc (by have := h1.size; have := h2.size; simp only [World.drew] at *; simp; omega) _
            exact hb.cell (p := ⟨F.g, j, none⟩) hFl
          exact ⟨(key 0).trans d0, (key 1).trans d1, (key 2).trans d2, (key 3).trans d3⟩))
      have KB := Lib.hid (fun (w1 w2 w5 : World) (o1 o2 : Obj) (h1 : Below wr.drew.heap.size wr.drew w1) (h2 : Below w1.heap.size w1 w2) (h5 : ((w2.alloc o1).alloc o2).grownBy w5 (Value.slice fa k fc).ownBlock) =>
        (show w5.cell? ⟨c, 0, none⟩ = some (.slice fa k fc) ∧ w5.frozen? ⟨c, 0, none⟩ = false from by
          have hb := blk_grown (((HO.out.1.blk.drew.below h1).below h2).alloc o1 |>.alloc o2) h5 hcn
          refine ⟨?_, hb.free 0⟩
          rw [hb.cell 0, ← HE0.out]
          exact (HO.out.1.blk.cell 0).symm))
      have KS := Lib.hid (fun (w5 : World) (v : Value) (h5 : w5.cell? ⟨F.g, 0, none⟩ = some (.int .i64 F.id) ∧ w5.cell? ⟨F.g, 1, none⟩ = some (.string F.name) ∧ w5.cell? ⟨F.g, 2, none⟩ = some (.slice la F.last.length lc) ∧ w5.cell? ⟨F.g, 3, none⟩ = some (.slice sa F.seen.length sc)) =>
        (show (w5.setCell ⟨c, 0, none⟩ v).cell? ⟨F.g, 0, none⟩ = some (.int .i64 F.id) ∧ (w5.setCell ⟨c, 0, none⟩ v).cell? ⟨F.g, 1, none⟩ = some (.string F.name) ∧ (w5.setCell ⟨c, 0, none⟩ v).cell? ⟨F.g, 2, none⟩ = some (.slice la F.last.length lc) ∧ (w5.setCell ⟨c, 0, none⟩ v).cell? ⟨F.g, 3, none⟩ = some (.slice sa F.seen.length sc) from by
          have key : ∀ j, (w5.setCell ⟨c, 0, none⟩ v).cell? ⟨F.g, j, none⟩ = w5.cell? ⟨F.g, j, none⟩ := fun j => World.cell?_of_block (Below.heap_setCell w5 ⟨c, 0, none⟩ v F.g (HF.out.blk.ne HO.out.1.blk (by decide)))
          exact ⟨(key 0).trans h5.1, (key 1).trans h5.2.1, (key 2).trans h5.2.2.1, (key 3).trans h5.2.2.2⟩))
      clear hF hlv hsv hfv hi0 hs1 hs2
      go_upto_region 7 with (fail)
      refine wp_region_noPanic ?_
      refine wp_region_held_drew (S := (fun w' => w'.cell? ⟨F.g, 0, none⟩ = some (.int .i64 F.id) ∧ w'.cell? ⟨F.g, 1, none⟩ = some (.string F.name) ∧ w'.cell? ⟨F.g, 2, none⟩ = some (.slice la F.last.length lc) ∧ w'.cell? ⟨F.g, 3, none⟩ = some (.slice sa F.seen.length sc))) (by kernel_rfl) ?_ (fun hHeld => ?_)
      · ((try dsimp only); (first | exact hS5 | exact KS.out _ _ hS5 | go_keep | (go_split_ands; refine ⟨?_, ?_, ?_, ?_⟩ <;> ((rw [hb2.cell (by have := hb1.size; simp only [World.drew] at this ⊢; omega)]; assumption))) | (go_split_ands; refine ⟨?_, ?_, ?_, ?_⟩ <;> ((rw [hb1.cell (by simp only [World.drew]; omega)]; assumption)))))
      refine held_take (i := 0) (v := ?_) rfl (by kernel_rfl) (by kernel_rfl) (by kernel_rfl) (fun _ _ _ h => h) (by rfl) (fun w hSw => ?_) (by assumption) ?_
      rotate_left
      · ((try dsimp only at hSw); go_simp; (try with_reducible rfl))
      (try simp only [Act.put, List.setIfInBounds_toArray, List.set_cons_zero, List.set_cons_succ])
      refine held_take (i := 1) (v := ?_) rfl (by kernel_rfl) (by kernel_rfl) (by kernel_rfl) (fun _ _ _ h => h) (by rfl) (fun w hSw => ?_) (by assumption) ?_
      rotate_left
      · ((try dsimp only at hSw); go_simp; (try with_reducible rfl))
      (try simp only [Act.put, List.setIfInBounds_toArray, List.set_cons_zero, List.set_cons_succ])
      refine held_take (i := 2) (v := ?_) rfl (by kernel_rfl) (by kernel_rfl) (by kernel_rfl) (fun _ _ _ h => h) (by rfl) (fun w hSw => ?_) (by assumption) ?_
      rotate_left
      · ((try dsimp only at hSw); go_simp; (try with_reducible rfl))
      (try simp only [Act.put, List.setIfInBounds_toArray, List.set_cons_zero, List.set_cons_succ])
      refine held_take (i := 3) (v := ?_) rfl (by kernel_rfl) (by kernel_rfl) (by kernel_rfl) (fun _ _ _ h => h) (by rfl) (fun w hSw => ?_) (by assumption) ?_
      rotate_left
      · ((try dsimp only at hSw); go_simp; (try with_reducible rfl))
      (try simp only [Act.put, List.setIfInBounds_toArray, List.set_cons_zero, List.set_cons_succ])
      refine held_take (i := 5) (v := ?_) rfl (by kernel_rfl) (by kernel_rfl) (by kernel_rfl) (fun _ _ _ h => h) (by rfl) (fun w hSw => ?_) (by assumption) ?_
      rotate_left
      · ((try dsimp only at hSw); go_simp; (try with_reducible rfl))
      (try simp only [Act.put, List.setIfInBounds_toArray, List.set_cons_zero, List.set_cons_succ])
      refine held_take (i := 6) (v := ?_) rfl (by kernel_rfl) (by kernel_rfl) (by kernel_rfl) (fun _ _ _ h => h) (by rfl) (fun w hSw => ?_) (by assumption) ?_
      rotate_left
      · ((try dsimp only at hSw); go_simp; (try with_reducible rfl))
      (try simp only [Act.put, List.setIfInBounds_toArray, List.set_cons_zero, List.set_cons_succ])
      refine held_take (i := 7) (v := ?_) rfl (by kernel_rfl) (by kernel_rfl) (by kernel_rfl) (fun _ _ _ h => h) (by rfl) (fun w hSw => ?_) (by assumption) ?_
      rotate_left
      · ((try dsimp only at hSw); go_simp; (try with_reducible rfl))
      (try simp only [Act.put, List.setIfInBounds_toArray, List.set_cons_zero, List.set_cons_succ])
      refine held_take (i := 8) (v := ?_) rfl (by kernel_rfl) (by kernel_rfl) (by kernel_rfl) (fun _ _ _ h => h) (by rfl) (fun w hSw => ?_) (by assumption) ?_
      rotate_left
      · ((try dsimp only at hSw); go_simp; (try with_reducible rfl))
      (try simp only [Act.put, List.setIfInBounds_toArray, List.set_cons_zero, List.set_cons_succ])
      refine held_take (i := 9) (v := ?_) rfl (by kernel_rfl) (by kernel_rfl) (by kernel_rfl) (fun _ _ _ h => h) (by rfl) (fun w hSw => ?_) (by assumption) ?_
      rotate_left
      · ((try dsimp only at hSw); go_simp; (try with_reducible rfl))
      (try simp only [Act.put, List.setIfInBounds_toArray, List.set_cons_zero, List.set_cons_succ])
      refine held_take (i := 10) (v := ?_) rfl (by kernel_rfl) (by kernel_rfl) (by kernel_rfl) (fun _ _ _ h => h) (by rfl) (fun w hSw => ?_) (by assumption) ?_
      rotate_left
      · ((try dsimp only at hSw); go_simp; (try with_reducible rfl))
      (try simp only [Act.put, List.setIfInBounds_toArray, List.set_cons_zero, List.set_cons_succ])
      refine held_take (i := 11) (v := ?_) rfl (by kernel_rfl) (by kernel_rfl) (by kernel_rfl) (fun _ _ _ h => h) (by rfl) (fun w hSw => ?_) (by assumption) ?_
      rotate_left
      · ((try dsimp only at hSw); go_simp; (try with_reducible rfl))
      (try simp only [Act.put, List.setIfInBounds_toArray, List.set_cons_zero, List.set_cons_succ])
      refine held_take (i := 12) (v := ?_) rfl (by kernel_rfl) (by kernel_rfl) (by kernel_rfl) (fun _ _ _ h => h) (by rfl) (fun w hSw => ?_) (by assumption) ?_
      rotate_left
      · ((try dsimp only at hSw); go_simp; (try with_reducible rfl))
      (try simp only [Act.put, List.setIfInBounds_toArray, List.set_cons_zero, List.set_cons_succ])
      refine held_take (i := 13) (v := ?_) rfl (by kernel_rfl) (by kernel_rfl) (by kernel_rfl) (fun _ _ _ h => h) (by rfl) (fun w hSw => ?_) (by assumption) ?_
      rotate_left
      · ((try dsimp only at hSw); go_simp; (try with_reducible rfl))
      (try simp only [Act.put, List.setIfInBounds_toArray, List.set_cons_zero, List.set_cons_succ])
      refine held_take (i := 14) (v := ?_) rfl (by kernel_rfl) (by kernel_rfl) (by kernel_rfl) (fun _ _ _ h => h) (by rfl) (fun w hSw => ?_) (by assumption) ?_
      rotate_left
      · ((try dsimp only at hSw); go_simp; (try with_reducible rfl))
      (try simp only [Act.put, List.setIfInBounds_toArray, List.set_cons_zero, List.set_cons_succ])
      refine held_take (i := 15) (v := ?_) rfl (by kernel_rfl) (by kernel_rfl) (by kernel_rfl) (fun _ _ _ h => h) (by rfl) (fun w hSw => ?_) (by assumption) ?_
      rotate_left
      · ((try dsimp only at hSw); go_simp; (try with_reducible rfl))
      (try simp only [Act.put, List.setIfInBounds_toArray, List.set_cons_zero, List.set_cons_succ])
      refine held_take (i := 16) (v := ?_) rfl (by kernel_rfl) (by kernel_rfl) (by kernel_rfl) (fun _ _ _ h => h) (by rfl) (fun w hSw => ?_) (by assumption) ?_
      rotate_left
      · ((try dsimp only at hSw); go_simp; (try with_reducible rfl))
      (try simp only [Act.put, List.setIfInBounds_toArray, List.set_cons_zero, List.set_cons_succ])
      refine held_take (i := 18) (v := ?_) rfl (by kernel_rfl) (by kernel_rfl) (by kernel_rfl) (fun _ _ _ h => h) (by rfl) (fun w hSw => ?_) (by assumption) ?_
      rotate_left
      · ((try dsimp only at hSw); go_simp; (try with_reducible rfl))
      (try simp only [Act.put, List.setIfInBounds_toArray, List.set_cons_zero, List.set_cons_succ])
      refine held_take (i := 19) (v := ?_) rfl (by kernel_rfl) (by kernel_rfl) (by kernel_rfl) (fun _ _ _ h => h) (by rfl) (fun w hSw => ?_) (by assumption) ?_
      rotate_left
      · ((try dsimp only at hSw); go_simp; (try with_reducible rfl))
      (try simp only [Act.put, List.setIfInBounds_toArray, List.set_cons_zero, List.set_cons_succ])
      refine held_take (i := 20) (v := ?_) rfl (by kernel_rfl) (by kernel_rfl) (by kernel_rfl) (fun _ _ _ h => h) (by rfl) (fun w hSw => ?_) (by assumption) ?_
      rotate_left
      · ((try dsimp only at hSw); go_simp; (try with_reducible rfl))
      (try simp only [Act.put, List.setIfInBounds_toArray, List.set_cons_zero, List.set_cons_succ])
      refine held_take (i := 21) (v := ?_) rfl (by kernel_rfl) (by kernel_rfl) (by kernel_rfl) (fun _ _ _ h => h) (by rfl) (fun w hSw => ?_) (by assumption) ?_
      rotate_left
      · ((try dsimp only at hSw); go_simp; (try with_reducible rfl))
      (try simp only [Act.put, List.setIfInBounds_toArray, List.set_cons_zero, List.set_cons_succ])
      refine wpAnyH_ready (rs := [4, 17]) (by kernel_rfl) (by simp) ?_
      refine held_cons rfl (fun K hK => ?_) (held_cons rfl (fun K hK => ?_) (AllReadyH.nil))
      focus
        go_simp
        refine hK.out _ _ ?_ (fun hHeld => ?_)
        · ((try dsimp only); (first | exact hS5 | exact KS.out _ _ hS5 | go_keep | (go_split_ands; refine ⟨?_, ?_, ?_, ?_⟩ <;> ((rw [hb2.cell (by have := hb1.size; simp only [World.drew] at this ⊢; omega)]; assumption))) | (go_split_ands; refine ⟨?_, ?_, ?_, ?_⟩ <;> ((rw [hb1.cell (by simp only [World.drew]; omega)]; assumption)))))
        clear hK K
        (try simp only [Act.put, List.setIfInBounds_toArray, List.set_cons_zero, List.set_cons_succ])
        refine wpAnyH_ready (rs := [17]) (by kernel_rfl) (by simp) ?_
        refine held_cons rfl (fun K hK => ?_) (AllReadyH.nil)
        go_simp
        ((first | (go_at_call 41; refine ((HCB.out _ (Below.refl _ _).drew).1).mono ?_; rintro e w1 ⟨v1, rfl, hown1, hb1⟩; obtain ⟨a1, k1, rfl⟩ := row_shape hown1; have hcA := (hb1.cell (p := ⟨c, 0, none⟩) (by simpa using hcl)).trans e0) | (go_at_call 41; refine ((HCB.out _ ((Below.refl _ _).drew.trans hb1)).2).mono ?_; rintro e w2 ⟨v2, rfl, hown2, hb2⟩; obtain ⟨a2, k2, rfl⟩ := row_shape hown2; have hcB := (hb2.cell (p := ⟨c, 0, none⟩) (by have := hb1.size; simp only [World.drew] at this ⊢; omega)).trans hcA; have hcL : c < w2.heap.size := (by have := hb1.size; have := hb2.size; simp only [World.drew] at *; omega)) | (refine step_append_lies _ (by rfl) _ _ _ (by rfl) 0 72 i0 _ 1 8 Try.underlying64 Hi0.out hz0 hz1 hz2 rfl (by decide) (.slice fa k fc) k (fptrs T.files) (by rfl) (((ownsRow_below (ownsRow_below Hown.out ((Below.refl _ _).drew.trans hb1)) hb2).alloc _).alloc _) ⟨w2.heap.size + 1, 0, none⟩ 1 1 [.pointer (some ⟨w2.heap.size, 0, none⟩)] (by rfl) (by rfl) (news2 w2 _ _ _) (by simp [Value.oneCell']) (by decide) H63.out HBY.out (Nat.zero_le _) (w2.heap.size + 2) (by simp) ?_; intro gg cap5 w5 hown5 hgrow hat hlt5; have hS5 := KE.out w1 w2 w5 _ _ hb1 hb2 hgrow; have hB5 := KB.out w1 w2 w5 _ _ hb1 hb2 hgrow; have hc5 := hB5.1; have hf5 := hB5.2)))
        go_wp2_with fail
        refine hK.out _ _ ?_ (fun hHeld => ?_)
        · ((try dsimp only); (first | exact hS5 | exact KS.out _ _ hS5 | go_keep | (go_split_ands; refine ⟨?_, ?_, ?_, ?_⟩ <;> ((rw [hb2.cell (by have := hb1.size; simp only [World.drew] at this ⊢; omega)]; assumption))) | (go_split_ands; refine ⟨?_, ?_, ?_, ?_⟩ <;> ((rw [hb1.cell (by simp only [World.drew]; omega)]; assumption)))))
        clear hK K
        (try simp only [Act.put, List.setIfInBounds_toArray, List.set_cons_zero, List.set_cons_succ])
        refine wpAnyH_ready (rs := [22]) (by kernel_rfl) (by simp) ?_
        refine held_cons rfl (fun K hK => ?_) (AllReadyH.nil)
        go_simp
        ((first | (go_at_call 41; refine ((HCB.out _ (Below.refl _ _).drew).1).mono ?_; rintro e w1 ⟨v1, rfl, hown1, hb1⟩; obtain ⟨a1, k1, rfl⟩ := row_shape hown1; have hcA := (hb1.cell (p := ⟨c, 0, none⟩) (by simpa using hcl)).trans e0) | (go_at_call 41; refine ((HCB.out _ ((Below.refl _ _).drew.trans hb1)).2).mono ?_; rintro e w2 ⟨v2, rfl, hown2, hb2⟩; obtain ⟨a2, k2, rfl⟩ := row_shape hown2; have hcB := (hb2.cell (p := ⟨c, 0, none⟩) (by have := hb1.size; simp only [World.drew] at this ⊢; omega)).trans hcA; have hcL : c < w2.heap.size := (by have := hb1.size; have := hb2.size; simp only [World.drew] at *; omega)) | (refine step_append_lies _ (by rfl) _ _ _ (by rfl) 0 72 i0 _ 1 8 Try.underlying64 Hi0.out hz0 hz1 hz2 rfl (by decide) (.slice fa k fc) k (fptrs T.files) (by rfl) (((ownsRow_below (ownsRow_below Hown.out ((Below.refl _ _).drew.trans hb1)) hb2).alloc _).alloc _) ⟨w2.heap.size + 1, 0, none⟩ 1 1 [.pointer (some ⟨w2.heap.size, 0, none⟩)] (by rfl) (by rfl) (news2 w2 _ _ _) (by simp [Value.oneCell']) (by decide) H63.out HBY.out (Nat.zero_le _) (w2.heap.size + 2) (by simp) ?_; intro gg cap5 w5 hown5 hgrow hat hlt5; have hS5 := KE.out w1 w2 w5 _ _ hb1 hb2 hgrow; have hB5 := KB.out w1 w2 w5 _ _ hb1 hb2 hgrow; have hc5 := hB5.1; have hf5 := hB5.2)))
        go_wp2_with fail
        refine hK.out _ _ ?_ (fun hHeld => ?_)
        · ((try dsimp only); (first | exact hS5 | exact KS.out _ _ hS5 | go_keep | (go_split_ands; refine ⟨?_, ?_, ?_, ?_⟩ <;> ((rw [hb2.cell (by have := hb1.size; simp only [World.drew] at this ⊢; omega)]; assumption))) | (go_split_ands; refine ⟨?_, ?_, ?_, ?_⟩ <;> ((rw [hb1.cell (by simp only [World.drew]; omega)]; assumption)))))
        clear hK K
        (try simp only [Act.put, List.setIfInBounds_toArray, List.set_cons_zero, List.set_cons_succ])
        refine held_take (i := 23) (v := ?_) rfl (by kernel_rfl) (by kernel_rfl) (by kernel_rfl) (fun _ _ _ h => h) (by rfl) (fun w hSw => ?_) (by assumption) ?_
        rotate_left
        · ((try dsimp only at hSw); go_simp; (try with_reducible rfl))
        (try simp only [Act.put, List.setIfInBounds_toArray, List.set_cons_zero, List.set_cons_succ])
        refine wpAnyH_ready (rs := [24]) (by kernel_rfl) (by simp) ?_
        refine held_cons rfl (fun K hK => ?_) (AllReadyH.nil)
        go_simp
        refine hK.out _ _ ?_ (fun hHeld => ?_)
        · ((try dsimp only); (first | exact hS5 | exact KS.out _ _ hS5 | go_keep | (go_split_ands; refine ⟨?_, ?_, ?_, ?_⟩ <;> ((rw [hb2.cell (by have := hb1.size; simp only [World.drew] at this ⊢; omega)]; assumption))) | (go_split_ands; refine ⟨?_, ?_, ?_, ?_⟩ <;> ((rw [hb1.cell (by simp only [World.drew]; omega)]; assumption)))))
        clear hK K
        (try simp only [Act.put, List.setIfInBounds_toArray, List.set_cons_zero, List.set_cons_succ])
        refine wpAnyH_ready (rs := [25]) (by kernel_rfl) (by simp) ?_
        refine held_cons rfl (fun K hK => ?_) (AllReadyH.nil)
        go_simp
        refine hK.out _ _ ?_ (fun hHeld => ?_)
        · ((try dsimp only); (first | exact hS5 | exact KS.out _ _ hS5 | go_keep | (go_split_ands; refine ⟨?_, ?_, ?_, ?_⟩ <;> ((rw [hb2.cell (by have := hb1.size; simp only [World.drew] at this ⊢; omega)]; assumption))) | (go_split_ands; refine ⟨?_, ?_, ?_, ?_⟩ <;> ((rw [hb1.cell (by simp only [World.drew]; omega)]; assumption)))))
        clear hK K
        (try simp only [Act.put, List.setIfInBounds_toArray, List.set_cons_zero, List.set_cons_succ])
        refine wpAnyH_ready (rs := [26]) (by kernel_rfl) (by simp) ?_
        refine held_cons rfl (fun K hK => ?_) (AllReadyH.nil)
        ((first | (go_at_call 41; refine ((HCB.out _ (Below.refl _ _).drew).1).mono ?_; rintro e w1 ⟨v1, rfl, hown1, hb1⟩; obtain ⟨a1, k1, rfl⟩ := row_shape hown1; have hcA := (hb1.cell (p := ⟨c, 0, none⟩) (by simpa using hcl)).trans e0) | (go_at_call 41; refine ((HCB.out _ ((Below.refl _ _).drew.trans hb1)).2).mono ?_; rintro e w2 ⟨v2, rfl, hown2, hb2⟩; obtain ⟨a2, k2, rfl⟩ := row_shape hown2; have hcB := (hb2.cell (p := ⟨c, 0, none⟩) (by have := hb1.size; simp only [World.drew] at this ⊢; omega)).trans hcA; have hcL : c < w2.heap.size := (by have := hb1.size; have := hb2.size; simp only [World.drew] at *; omega)) | (refine step_append_lies _ (by rfl) _ _ _ (by rfl) 0 72 i0 _ 1 8 Try.underlying64 Hi0.out hz0 hz1 hz2 rfl (by decide) (.slice fa k fc) k (fptrs T.files) (by rfl) (((ownsRow_below (ownsRow_below Hown.out ((Below.refl _ _).drew.trans hb1)) hb2).alloc _).alloc _) ⟨w2.heap.size + 1, 0, none⟩ 1 1 [.pointer (some ⟨w2.heap.size, 0, none⟩)] (by rfl) (by rfl) (news2 w2 _ _ _) (by simp [Value.oneCell']) (by decide) H63.out HBY.out (Nat.zero_le _) (w2.heap.size + 2) (by simp) ?_; intro gg cap5 w5 hown5 hgrow hat hlt5; have hS5 := KE.out w1 w2 w5 _ _ hb1 hb2 hgrow; have hB5 := KB.out w1 w2 w5 _ _ hb1 hb2 hgrow; have hc5 := hB5.1; have hf5 := hB5.2)))
        refine hK.out _ _ ?_ (fun hHeld => ?_)
        · ((try dsimp only); (first | exact hS5 | exact KS.out _ _ hS5 | go_keep | (go_split_ands; refine ⟨?_, ?_, ?_, ?_⟩ <;> ((rw [hb2.cell (by have := hb1.size; simp only [World.drew] at this ⊢; omega)]; assumption))) | (go_split_ands; refine ⟨?_, ?_, ?_, ?_⟩ <;> ((rw [hb1.cell (by simp only [World.drew]; omega)]; assumption)))))
        clear hK K
        (try simp only [Act.put, List.setIfInBounds_toArray, List.set_cons_zero, List.set_cons_succ])
        refine held_take (i := 27) (v := ?_) rfl (by kernel_rfl) (by kernel_rfl) (by kernel_rfl) (fun _ _ _ h => h) (by rfl) (fun w hSw => ?_) (by assumption) ?_
        rotate_left
        · ((try dsimp only at hSw); go_simp; (try with_reducible rfl))
        (try simp only [Act.put, List.setIfInBounds_toArray, List.set_cons_zero, List.set_cons_succ])
        refine held_take (i := 28) (v := ?_) rfl (by kernel_rfl) (by kernel_rfl) (by kernel_rfl) (fun _ _ _ h => h) (by rfl) (fun w hSw => ?_) (by assumption) ?_
        rotate_left
        · ((try dsimp only at hSw); go_simp; (try with_reducible rfl))
        (try simp only [Act.put, List.setIfInBounds_toArray, List.set_cons_zero, List.set_cons_succ])
        refine wpAnyH_ready (rs := [29]) (by kernel_rfl) (by simp) ?_
        refine held_cons rfl (fun K hK => ?_) (AllReadyH.nil)
        go_simp
        refine hK.out _ _ ?_ (fun hHeld => ?_)
        · ((try dsimp only); (first | exact hS5 | exact KS.out _ _ hS5 | go_keep | (go_split_ands; refine ⟨?_, ?_, ?_, ?_⟩ <;> ((rw [hb2.cell (by have := hb1.size; simp only [World.drew] at this ⊢; omega)]; assumption))) | (go_split_ands; refine ⟨?_, ?_, ?_, ?_⟩ <;> ((rw [hb1.cell (by simp only [World.drew]; omega)]; assumption)))))
        clear hK K
        (try simp only [Act.put, List.setIfInBounds_toArray, List.set_cons_zero, List.set_cons_succ])
        refine wpAnyH_done (by kernel_rfl) ?_ _
      rotate_left 1
      focus
        go_simp
        ((first | (go_at_call 41; refine ((HCB.out _ (Below.refl _ _).drew).1).mono ?_; rintro e w1 ⟨v1, rfl, hown1, hb1⟩; obtain ⟨a1, k1, rfl⟩ := row_shape hown1; have hcA := (hb1.cell (p := ⟨c, 0, none⟩) (by simpa using hcl)).trans e0) | (go_at_call 41; refine ((HCB.out _ ((Below.refl _ _).drew.trans hb1)).2).mono ?_; rintro e w2 ⟨v2, rfl, hown2, hb2⟩; obtain ⟨a2, k2, rfl⟩ := row_shape hown2; have hcB := (hb2.cell (p := ⟨c, 0, none⟩) (by have := hb1.size; simp only [World.drew] at this ⊢; omega)).trans hcA; have hcL : c < w2.heap.size := (by have := hb1.size; have := hb2.size; simp only [World.drew] at *; omega)) | (refine step_append_lies _ (by rfl) _ _ _ (by rfl) 0 72 i0 _ 1 8 Try.underlying64 Hi0.out hz0 hz1 hz2 rfl (by decide) (.slice fa k fc) k (fptrs T.files) (by rfl) (((ownsRow_below (ownsRow_below Hown.out ((Below.refl _ _).drew.trans hb1)) hb2).alloc _).alloc _) ⟨w2.heap.size + 1, 0, none⟩ 1 1 [.pointer (some ⟨w2.heap.size, 0, none⟩)] (by rfl) (by rfl) (news2 w2 _ _ _) (by simp [Value.oneCell']) (by decide) H63.out HBY.out (Nat.zero_le _) (w2.heap.size + 2) (by simp) ?_; intro gg cap5 w5 hown5 hgrow hat hlt5; have hS5 := KE.out w1 w2 w5 _ _ hb1 hb2 hgrow; have hB5 := KB.out w1 w2 w5 _ _ hb1 hb2 hgrow; have hc5 := hB5.1; have hf5 := hB5.2)))
        go_wp2_with fail
        refine hK.out _ _ ?_ (fun hHeld => ?_)
        · ((try dsimp only); (first | exact hS5 | exact KS.out _ _ hS5 | go_keep | (go_split_ands; refine ⟨?_, ?_, ?_, ?_⟩ <;> ((rw [hb2.cell (by have := hb1.size; simp only [World.drew] at this ⊢; omega)]; assumption))) | (go_split_ands; refine ⟨?_, ?_, ?_, ?_⟩ <;> ((rw [hb1.cell (by simp only [World.drew]; omega)]; assumption)))))
        clear hK K
        (try simp only [Act.put, List.setIfInBounds_toArray, List.set_cons_zero, List.set_cons_succ])
        refine wpAnyH_ready (rs := [4, 22]) (by kernel_rfl) (by simp) ?_
        refine held_cons rfl (fun K hK => ?_) (held_cons rfl (fun K hK => ?_) (AllReadyH.nil))
        focus
          go_simp
          refine hK.out _ _ ?_ (fun hHeld => ?_)
          · ((try dsimp only); (first | exact hS5 | exact KS.out _ _ hS5 | go_keep | (go_split_ands; refine ⟨?_, ?_, ?_, ?_⟩ <;> ((rw [hb2.cell (by have := hb1.size; simp only [World.drew] at this ⊢; omega)]; assumption))) | (go_split_ands; refine ⟨?_, ?_, ?_, ?_⟩ <;> ((rw [hb1.cell (by simp only [World.drew]; omega)]; assumption)))))
          clear hK K
          (try simp only [Act.put, List.setIfInBounds_toArray, List.set_cons_zero, List.set_cons_succ])
          refine wpAnyH_ready (rs := [22]) (by kernel_rfl) (by simp) ?_
          refine held_cons rfl (fun K hK => ?_) (AllReadyH.nil)
          go_simp
          ((first | (go_at_call 41; refine ((HCB.out _ (Below.refl _ _).drew).1).mono ?_; rintro e w1 ⟨v1, rfl, hown1, hb1⟩; obtain ⟨a1, k1, rfl⟩ := row_shape hown1; have hcA := (hb1.cell (p := ⟨c, 0, none⟩) (by simpa using hcl)).trans e0) | (go_at_call 41; refine ((HCB.out _ ((Below.refl _ _).drew.trans hb1)).2).mono ?_; rintro e w2 ⟨v2, rfl, hown2, hb2⟩; obtain ⟨a2, k2, rfl⟩ := row_shape hown2; have hcB := (hb2.cell (p := ⟨c, 0, none⟩) (by have := hb1.size; simp only [World.drew] at this ⊢; omega)).trans hcA; have hcL : c < w2.heap.size := (by have := hb1.size; have := hb2.size; simp only [World.drew] at *; omega)) | (refine step_append_lies _ (by rfl) _ _ _ (by rfl) 0 72 i0 _ 1 8 Try.underlying64 Hi0.out hz0 hz1 hz2 rfl (by decide) (.slice fa k fc) k (fptrs T.files) (by rfl) (((ownsRow_below (ownsRow_below Hown.out ((Below.refl _ _).drew.trans hb1)) hb2).alloc _).alloc _) ⟨w2.heap.size + 1, 0, none⟩ 1 1 [.pointer (some ⟨w2.heap.size, 0, none⟩)] (by rfl) (by rfl) (news2 w2 _ _ _) (by simp [Value.oneCell']) (by decide) H63.out HBY.out (Nat.zero_le _) (w2.heap.size + 2) (by simp) ?_; intro gg cap5 w5 hown5 hgrow hat hlt5; have hS5 := KE.out w1 w2 w5 _ _ hb1 hb2 hgrow; have hB5 := KB.out w1 w2 w5 _ _ hb1 hb2 hgrow; have hc5 := hB5.1; have hf5 := hB5.2)))
          go_wp2_with fail
          refine hK.out _ _ ?_ (fun hHeld => ?_)
          · ((try dsimp only); (first | exact hS5 | exact KS.out _ _ hS5 | go_keep | (go_split_ands; refine ⟨?_, ?_, ?_, ?_⟩ <;> ((rw [hb2.cell (by have := hb1.size; simp only [World.drew] at this ⊢; omega)]; assumption))) | (go_split_ands; refine ⟨?_, ?_, ?_, ?_⟩ <;> ((rw [hb1.cell (by simp only [World.drew]; omega)]; assumption)))))
          clear hK K
          (try simp only [Act.put, List.setIfInBounds_toArray, List.set_cons_zero, List.set_cons_succ])
          refine held_take (i := 23) (v := ?_) rfl (by kernel_rfl) (by kernel_rfl) (by kernel_rfl) (fun _ _ _ h => h) (by rfl) (fun w hSw => ?_) (by assumption) ?_
          rotate_left
          · ((try dsimp only at hSw); go_simp; (try with_reducible rfl))
          (try simp only [Act.put, List.setIfInBounds_toArray, List.set_cons_zero, List.set_cons_succ])
          refine wpAnyH_ready (rs := [24]) (by kernel_rfl) (by simp) ?_
          refine held_cons rfl (fun K hK => ?_) (AllReadyH.nil)
          go_simp
          refine hK.out _ _ ?_ (fun hHeld => ?_)
          · ((try dsimp only); (first | exact hS5 | exact KS.out _ _ hS5 | go_keep | (go_split_ands; refine ⟨?_, ?_, ?_, ?_⟩ <;> ((rw [hb2.cell (by have := hb1.size; simp only [World.drew] at this ⊢; omega)]; assumption))) | (go_split_ands; refine ⟨?_, ?_, ?_, ?_⟩ <;> ((rw [hb1.cell (by simp only [World.drew]; omega)]; assumption)))))
          clear hK K
          (try simp only [Act.put, List.setIfInBounds_toArray, List.set_cons_zero, List.set_cons_succ])
          refine wpAnyH_ready (rs := [25]) (by kernel_rfl) (by simp) ?_
          refine held_cons rfl (fun K hK => ?_) (AllReadyH.nil)
          go_simp
          refine hK.out _ _ ?_ (fun hHeld => ?_)
          · ((try dsimp only); (first | exact hS5 | exact KS.out _ _ hS5 | go_keep | (go_split_ands; refine ⟨?_, ?_, ?_, ?_⟩ <;> ((rw [hb2.cell (by have := hb1.size; simp only [World.drew] at this ⊢; omega)]; assumption))) | (go_split_ands; refine ⟨?_, ?_, ?_, ?_⟩ <;> ((rw [hb1.cell (by simp only [World.drew]; omega)]; assumption)))))
          clear hK K
          (try simp only [Act.put, List.setIfInBounds_toArray, List.set_cons_zero, List.set_cons_succ])
          refine wpAnyH_ready (rs := [26]) (by kernel_rfl) (by simp) ?_
          refine held_cons rfl (fun K hK => ?_) (AllReadyH.nil)
          ((first | (go_at_call 41; refine ((HCB.out _ (Below.refl _ _).drew).1).mono ?_; rintro e w1 ⟨v1, rfl, hown1, hb1⟩; obtain ⟨a1, k1, rfl⟩ := row_shape hown1; have hcA := (hb1.cell (p := ⟨c, 0, none⟩) (by simpa using hcl)).trans e0) | (go_at_call 41; refine ((HCB.out _ ((Below.refl _ _).drew.trans hb1)).2).mono ?_; rintro e w2 ⟨v2, rfl, hown2, hb2⟩; obtain ⟨a2, k2, rfl⟩ := row_shape hown2; have hcB := (hb2.cell (p := ⟨c, 0, none⟩) (by have := hb1.size; simp only [World.drew] at this ⊢; omega)).trans hcA; have hcL : c < w2.heap.size := (by have := hb1.size; have := hb2.size; simp only [World.drew] at *; omega)) | (refine step_append_lies _ (by rfl) _ _ _ (by rfl) 0 72 i0 _ 1 8 Try.underlying64 Hi0.out hz0 hz1 hz2 rfl (by decide) (.slice fa k fc) k (fptrs T.files) (by rfl) (((ownsRow_below (ownsRow_below Hown.out ((Below.refl _ _).drew.trans hb1)) hb2).alloc _).alloc _) ⟨w2.heap.size + 1, 0, none⟩ 1 1 [.pointer (some ⟨w2.heap.size, 0, none⟩)] (by rfl) (by rfl) (news2 w2 _ _ _) (by simp [Value.oneCell']) (by decide) H63.out HBY.out (Nat.zero_le _) (w2.heap.size + 2) (by simp) ?_; intro gg cap5 w5 hown5 hgrow hat hlt5; have hS5 := KE.out w1 w2 w5 _ _ hb1 hb2 hgrow; have hB5 := KB.out w1 w2 w5 _ _ hb1 hb2 hgrow; have hc5 := hB5.1; have hf5 := hB5.2)))
          refine hK.out _ _ ?_ (fun hHeld => ?_)
          · ((try dsimp only); (first | exact hS5 | exact KS.out _ _ hS5 | go_keep | (go_split_ands; refine ⟨?_, ?_, ?_, ?_⟩ <;> ((rw [hb2.cell (by have := hb1.size; simp only [World.drew] at this ⊢; omega)]; assumption))) | (go_split_ands; refine ⟨?_, ?_, ?_, ?_⟩ <;> ((rw [hb1.cell (by simp only [World.drew]; omega)]; assumption)))))
          clear hK K
          (try simp only [Act.put, List.setIfInBounds_toArray, List.set_cons_zero, List.set_cons_succ])
          refine held_take (i := 27) (v := ?_) rfl (by kernel_rfl) (by kernel_rfl) (by kernel_rfl) (fun _ _ _ h => h) (by rfl) (fun w hSw => ?_) (by assumption) ?_
          rotate_left
          · ((try dsimp only at hSw); go_simp; (try with_reducible rfl))
          (try simp only [Act.put, List.setIfInBounds_toArray, List.set_cons_zero, List.set_cons_succ])
          refine held_take (i := 28) (v := ?_) rfl (by kernel_rfl) (by kernel_rfl) (by kernel_rfl) (fun _ _ _ h => h) (by rfl) (fun w hSw => ?_) (by assumption) ?_
          rotate_left
          · ((try dsimp only at hSw); go_simp; (try with_reducible rfl))
          (try simp only [Act.put, List.setIfInBounds_toArray, List.set_cons_zero, List.set_cons_succ])
          refine wpAnyH_ready (rs := [29]) (by kernel_rfl) (by simp) ?_
          refine held_cons rfl (fun K hK => ?_) (AllReadyH.nil)
          go_simp
          refine hK.out _ _ ?_ (fun hHeld => ?_)
          · ((try dsimp only); (first | exact hS5 | exact KS.out _ _ hS5 | go_keep | (go_split_ands; refine ⟨?_, ?_, ?_, ?_⟩ <;> ((rw [hb2.cell (by have := hb1.size; simp only [World.drew] at this ⊢; omega)]; assumption))) | (go_split_ands; refine ⟨?_, ?_, ?_, ?_⟩ <;> ((rw [hb1.cell (by simp only [World.drew]; omega)]; assumption)))))
          clear hK K
          (try simp only [Act.put, List.setIfInBounds_toArray, List.set_cons_zero, List.set_cons_succ])
          refine wpAnyH_done (by kernel_rfl) ?_ _
        rotate_left 1
        focus
          go_simp
          ((first | (go_at_call 41; refine ((HCB.out _ (Below.refl _ _).drew).1).mono ?_; rintro e w1 ⟨v1, rfl, hown1, hb1⟩; obtain ⟨a1, k1, rfl⟩ := row_shape hown1; have hcA := (hb1.cell (p := ⟨c, 0, none⟩) (by simpa using hcl)).trans e0) | (go_at_call 41; refine ((HCB.out _ ((Below.refl _ _).drew.trans hb1)).2).mono ?_; rintro e w2 ⟨v2, rfl, hown2, hb2⟩; obtain ⟨a2, k2, rfl⟩ := row_shape hown2; have hcB := (hb2.cell (p := ⟨c, 0, none⟩) (by have := hb1.size; simp only [World.drew] at this ⊢; omega)).trans hcA; have hcL : c < w2.heap.size := (by have := hb1.size; have := hb2.size; simp only [World.drew] at *; omega)) | (refine step_append_lies _ (by rfl) _ _ _ (by rfl) 0 72 i0 _ 1 8 Try.underlying64 Hi0.out hz0 hz1 hz2 rfl (by decide) (.slice fa k fc) k (fptrs T.files) (by rfl) (((ownsRow_below (ownsRow_below Hown.out ((Below.refl _ _).drew.trans hb1)) hb2).alloc _).alloc _) ⟨w2.heap.size + 1, 0, none⟩ 1 1 [.pointer (some ⟨w2.heap.size, 0, none⟩)] (by rfl) (by rfl) (news2 w2 _ _ _) (by simp [Value.oneCell']) (by decide) H63.out HBY.out (Nat.zero_le _) (w2.heap.size + 2) (by simp) ?_; intro gg cap5 w5 hown5 hgrow hat hlt5; have hS5 := KE.out w1 w2 w5 _ _ hb1 hb2 hgrow; have hB5 := KB.out w1 w2 w5 _ _ hb1 hb2 hgrow; have hc5 := hB5.1; have hf5 := hB5.2)))
          go_wp2_with fail
          refine hK.out _ _ ?_ (fun hHeld => ?_)
          · ((try dsimp only); (first | exact hS5 | exact KS.out _ _ hS5 | go_keep | (go_split_ands; refine ⟨?_, ?_, ?_, ?_⟩ <;> ((rw [hb2.cell (by have := hb1.size; simp only [World.drew] at this ⊢; omega)]; assumption))) | (go_split_ands; refine ⟨?_, ?_, ?_, ?_⟩ <;> ((rw [hb1.cell (by simp only [World.drew]; omega)]; assumption)))))
          clear hK K
          (try simp only [Act.put, List.setIfInBounds_toArray, List.set_cons_zero, List.set_cons_succ])
          refine held_take (i := 23) (v := ?_) rfl (by kernel_rfl) (by kernel_rfl) (by kernel_rfl) (fun _ _ _ h => h) (by rfl) (fun w hSw => ?_) (by assumption) ?_
          rotate_left
          · ((try dsimp only at hSw); go_simp; (try with_reducible rfl))
          (try simp only [Act.put, List.setIfInBounds_toArray, List.set_cons_zero, List.set_cons_succ])
          refine wpAnyH_ready (rs := [4, 24]) (by kernel_rfl) (by simp) ?_
          refine held_cons rfl (fun K hK => ?_) (held_cons rfl (fun K hK => ?_) (AllReadyH.nil))
          focus
            go_simp
            refine hK.out _ _ ?_ (fun hHeld => ?_)
            · ((try dsimp only); (first | exact hS5 | exact KS.out _ _ hS5 | go_keep | (go_split_ands; refine ⟨?_, ?_, ?_, ?_⟩ <;> ((rw [hb2.cell (by have := hb1.size; simp only [World.drew] at this ⊢; omega)]; assumption))) | (go_split_ands; refine ⟨?_, ?_, ?_, ?_⟩ <;> ((rw [hb1.cell (by simp only [World.drew]; omega)]; assumption)))))
            clear hK K
            (try simp only [Act.put, List.setIfInBounds_toArray, List.set_cons_zero, List.set_cons_succ])
            refine wpAnyH_ready (rs := [24]) (by kernel_rfl) (by simp) ?_
            refine held_cons rfl (fun K hK => ?_) (AllReadyH.nil)
            go_simp
            refine hK.out _ _ ?_ (fun hHeld => ?_)
            · ((try dsimp only); (first | exact hS5 | exact KS.out _ _ hS5 | go_keep | (go_split_ands; refine ⟨?_, ?_, ?_, ?_⟩ <;> ((rw [hb2.cell (by have := hb1.size; simp only [World.drew] at this ⊢; omega)]; assumption))) | (go_split_ands; refine ⟨?_, ?_, ?_, ?_⟩ <;> ((rw [hb1.cell (by simp only [World.drew]; omega)]; assumption)))))
            clear hK K
            (try simp only [Act.put, List.setIfInBounds_toArray, List.set_cons_zero, List.set_cons_succ])
            refine wpAnyH_ready (rs := [25]) (by kernel_rfl) (by simp) ?_
            refine held_cons rfl (fun K hK => ?_) (AllReadyH.nil)
            go_simp
            refine hK.out _ _ ?_ (fun hHeld => ?_)
            · ((try dsimp only); (first | exact hS5 | exact KS.out _ _ hS5 | go_keep | (go_split_ands; refine ⟨?_, ?_, ?_, ?_⟩ <;> ((rw [hb2.cell (by have := hb1.size; simp only [World.drew] at this ⊢; omega)]; assumption))) | (go_split_ands; refine ⟨?_, ?_, ?_, ?_⟩ <;> ((rw [hb1.cell (by simp only [World.drew]; omega)]; assumption)))))
            clear hK K
            (try simp only [Act.put, List.setIfInBounds_toArray, List.set_cons_zero, List.set_cons_succ])
            refine wpAnyH_ready (rs := [26]) (by kernel_rfl) (by simp) ?_
            refine held_cons rfl (fun K hK => ?_) (AllReadyH.nil)
            ((first | (go_at_call 41; refine ((HCB.out _ (Below.refl _ _).drew).1).mono ?_; rintro e w1 ⟨v1, rfl, hown1, hb1⟩; obtain ⟨a1, k1, rfl⟩ := row_shape hown1; have hcA := (hb1.cell (p := ⟨c, 0, none⟩) (by simpa using hcl)).trans e0) | (go_at_call 41; refine ((HCB.out _ ((Below.refl _ _).drew.trans hb1)).2).mono ?_; rintro e w2 ⟨v2, rfl, hown2, hb2⟩; obtain ⟨a2, k2, rfl⟩ := row_shape hown2; have hcB := (hb2.cell (p := ⟨c, 0, none⟩) (by have := hb1.size; simp only [World.drew] at this ⊢; omega)).trans hcA; have hcL : c < w2.heap.size := (by have := hb1.size; have := hb2.size; simp only [World.drew] at *; omega)) | (refine step_append_lies _ (by rfl) _ _ _ (by rfl) 0 72 i0 _ 1 8 Try.underlying64 Hi0.out hz0 hz1 hz2 rfl (by decide) (.slice fa k fc) k (fptrs T.files) (by rfl) (((ownsRow_below (ownsRow_below Hown.out ((Below.refl _ _).drew.trans hb1)) hb2).alloc _).alloc _) ⟨w2.heap.size + 1, 0, none⟩ 1 1 [.pointer (some ⟨w2.heap.size, 0, none⟩)] (by rfl) (by rfl) (news2 w2 _ _ _) (by simp [Value.oneCell']) (by decide) H63.out HBY.out (Nat.zero_le _) (w2.heap.size + 2) (by simp) ?_; intro gg cap5 w5 hown5 hgrow hat hlt5; have hS5 := KE.out w1 w2 w5 _ _ hb1 hb2 hgrow; have hB5 := KB.out w1 w2 w5 _ _ hb1 hb2 hgrow; have hc5 := hB5.1; have hf5 := hB5.2)))
            refine hK.out _ _ ?_ (fun hHeld => ?_)
            · ((try dsimp only); (first | exact hS5 | exact KS.out _ _ hS5 | go_keep | (go_split_ands; refine ⟨?_, ?_, ?_, ?_⟩ <;> ((rw [hb2.cell (by have := hb1.size; simp only [World.drew] at this ⊢; omega)]; assumption))) | (go_split_ands; refine ⟨?_, ?_, ?_, ?_⟩ <;> ((rw [hb1.cell (by simp only [World.drew]; omega)]; assumption)))))
            clear hK K
            (try simp only [Act.put, List.setIfInBounds_toArray, List.set_cons_zero, List.set_cons_succ])
            refine held_take (i := 27) (v := ?_) rfl (by kernel_rfl) (by kernel_rfl) (by kernel_rfl) (fun _ _ _ h => h) (by rfl) (fun w hSw => ?_) (by assumption) ?_
            rotate_left
            · ((try dsimp only at hSw); go_simp; (try with_reducible rfl))
            (try simp only [Act.put, List.setIfInBounds_toArray, List.set_cons_zero, List.set_cons_succ])
            refine held_take (i := 28) (v := ?_) rfl (by kernel_rfl) (by kernel_rfl) (by kernel_rfl) (fun _ _ _ h => h) (by rfl) (fun w hSw => ?_) (by assumption) ?_
            rotate_left
            · ((try dsimp only at hSw); go_simp; (try with_reducible rfl))
            (try simp only [Act.put, List.setIfInBounds_toArray, List.set_cons_zero, List.set_cons_succ])
            refine wpAnyH_ready (rs := [29]) (by kernel_rfl) (by simp) ?_
            refine held_cons rfl (fun K hK => ?_) (AllReadyH.nil)
            go_simp
            refine hK.out _ _ ?_ (fun hHeld => ?_)
            · ((try dsimp only); (first | exact hS5 | exact KS.out _ _ hS5 | go_keep | (go_split_ands; refine ⟨?_, ?_, ?_, ?_⟩ <;> ((rw [hb2.cell (by have := hb1.size; simp only [World.drew] at this ⊢; omega)]; assumption))) | (go_split_ands; refine ⟨?_, ?_, ?_, ?_⟩ <;> ((rw [hb1.cell (by simp only [World.drew]; omega)]; assumption)))))
            clear hK K
            (try simp only [Act.put, List.setIfInBounds_toArray, List.set_cons_zero, List.set_cons_succ])
            refine wpAnyH_done (by kernel_rfl) ?_ _
          rotate_left 1
          focus
            go_simp
            refine hK.out _ _ ?_ (fun hHeld => ?_)
            · ((try dsimp only); (first | exact hS5 | exact KS.out _ _ hS5 | go_keep | (go_split_ands; refine ⟨?_, ?_, ?_, ?_⟩ <;> ((rw [hb2.cell (by have := hb1.size; simp only [World.drew] at this ⊢; omega)]; assumption))) | (go_split_ands; refine ⟨?_, ?_, ?_, ?_⟩ <;> ((rw [hb1.cell (by simp only [World.drew]; omega)]; assumption)))))
            clear hK K
            (try simp only [Act.put, List.setIfInBounds_toArray, List.set_cons_zero, List.set_cons_succ])
            refine wpAnyH_ready (rs := [4, 25]) (by kernel_rfl) (by simp) ?_
            refine held_cons rfl (fun K hK => ?_) (held_cons rfl (fun K hK => ?_) (AllReadyH.nil))
            focus
              go_simp
              refine hK.out _ _ ?_ (fun hHeld => ?_)
              · ((try dsimp only); (first | exact hS5 | exact KS.out _ _ hS5 | go_keep | (go_split_ands; refine ⟨?_, ?_, ?_, ?_⟩ <;> ((rw [hb2.cell (by have := hb1.size; simp only [World.drew] at this ⊢; omega)]; assumption))) | (go_split_ands; refine ⟨?_, ?_, ?_, ?_⟩ <;> ((rw [hb1.cell (by simp only [World.drew]; omega)]; assumption)))))
              clear hK K
              (try simp only [Act.put, List.setIfInBounds_toArray, List.set_cons_zero, List.set_cons_succ])
              refine wpAnyH_ready (rs := [25]) (by kernel_rfl) (by simp) ?_
              refine held_cons rfl (fun K hK => ?_) (AllReadyH.nil)
              go_simp
              refine hK.out _ _ ?_ (fun hHeld => ?_)
              · ((try dsimp only); (first | exact hS5 | exact KS.out _ _ hS5 | go_keep | (go_split_ands; refine ⟨?_, ?_, ?_, ?_⟩ <;> ((rw [hb2.cell (by have := hb1.size; simp only [World.drew] at this ⊢; omega)]; assumption))) | (go_split_ands; refine ⟨?_, ?_, ?_, ?_⟩ <;> ((rw [hb1.cell (by simp only [World.drew]; omega)]; assumption)))))
              clear hK K
              (try simp only [Act.put, List.setIfInBounds_toArray, List.set_cons_zero, List.set_cons_succ])
              refine wpAnyH_ready (rs := [26]) (by kernel_rfl) (by simp) ?_
              refine held_cons rfl (fun K hK => ?_) (AllReadyH.nil)
              ((first | (go_at_call 41; refine ((HCB.out _ (Below.refl _ _).drew).1).mono ?_; rintro e w1 ⟨v1, rfl, hown1, hb1⟩; obtain ⟨a1, k1, rfl⟩ := row_shape hown1; have hcA := (hb1.cell (p := ⟨c, 0, none⟩) (by simpa using hcl)).trans e0) | (go_at_call 41; refine ((HCB.out _ ((Below.refl _ _).drew.trans hb1)).2).mono ?_; rintro e w2 ⟨v2, rfl, hown2, hb2⟩; obtain ⟨a2, k2, rfl⟩ := row_shape hown2; have hcB := (hb2.cell (p := ⟨c, 0, none⟩) (by have := hb1.size; simp only [World.drew] at this ⊢; omega)).trans hcA; have hcL : c < w2.heap.size := (by have := hb1.size; have := hb2.size; simp only [World.drew] at *; omega)) | (refine step_append_lies _ (by rfl) _ _ _ (by rfl) 0 72 i0 _ 1 8 Try.underlying64 Hi0.out hz0 hz1 hz2 rfl (by decide) (.slice fa k fc) k (fptrs T.files) (by rfl) (((ownsRow_below (ownsRow_below Hown.out ((Below.refl _ _).drew.trans hb1)) hb2).alloc _).alloc _) ⟨w2.heap.size + 1, 0, none⟩ 1 1 [.pointer (some ⟨w2.heap.size, 0, none⟩)] (by rfl) (by rfl) (news2 w2 _ _ _) (by simp [Value.oneCell']) (by decide) H63.out HBY.out (Nat.zero_le _) (w2.heap.size + 2) (by simp) ?_; intro gg cap5 w5 hown5 hgrow hat hlt5; have hS5 := KE.out w1 w2 w5 _ _ hb1 hb2 hgrow; have hB5 := KB.out w1 w2 w5 _ _ hb1 hb2 hgrow; have hc5 := hB5.1; have hf5 := hB5.2)))
              refine hK.out _ _ ?_ (fun hHeld => ?_)
              · ((try dsimp only); (first | exact hS5 | exact KS.out _ _ hS5 | go_keep | (go_split_ands; refine ⟨?_, ?_, ?_, ?_⟩ <;> ((rw [hb2.cell (by have := hb1.size; simp only [World.drew] at this ⊢; omega)]; assumption))) | (go_split_ands; refine ⟨?_, ?_, ?_, ?_⟩ <;> ((rw [hb1.cell (by simp only [World.drew]; omega)]; assumption)))))
              clear hK K
              (try simp only [Act.put, List.setIfInBounds_toArray, List.set_cons_zero, List.set_cons_succ])
              refine held_take (i := 27) (v := ?_) rfl (by kernel_rfl) (by kernel_rfl) (by kernel_rfl) (fun _ _ _ h => h) (by rfl) (fun w hSw => ?_) (by assumption) ?_
              rotate_left
              · ((try dsimp only at hSw); go_simp; (try with_reducible rfl))
              (try simp only [Act.put, List.setIfInBounds_toArray, List.set_cons_zero, List.set_cons_succ])
              refine held_take (i := 28) (v := ?_) rfl (by kernel_rfl) (by kernel_rfl) (by kernel_rfl) (fun _ _ _ h => h) (by rfl) (fun w hSw => ?_) (by assumption) ?_
              rotate_left
              · ((try dsimp only at hSw); go_simp; (try with_reducible rfl))
              (try simp only [Act.put, List.setIfInBounds_toArray, List.set_cons_zero, List.set_cons_succ])
              refine wpAnyH_ready (rs := [29]) (by kernel_rfl) (by simp) ?_
              refine held_cons rfl (fun K hK => ?_) (AllReadyH.nil)
              go_simp
              refine hK.out _ _ ?_ (fun hHeld => ?_)
              · ((try dsimp only); (first | exact hS5 | exact KS.out _ _ hS5 | go_keep | (go_split_ands; refine ⟨?_, ?_, ?_, ?_⟩ <;> ((rw [hb2.cell (by have := hb1.size; simp only [World.drew] at this ⊢; omega)]; assumption))) | (go_split_ands; refine ⟨?_, ?_, ?_, ?_⟩ <;> ((rw [hb1.cell (by simp only [World.drew]; omega)]; assumption)))))
              clear hK K
              (try simp only [Act.put, List.setIfInBounds_toArray, List.set_cons_zero, List.set_cons_succ])
              refine wpAnyH_done (by kernel_rfl) ?_ _
            rotate_left 1
            focus
              go_simp
              refine hK.out _ _ ?_ (fun hHeld => ?_)
              · ((try dsimp only); (first | exact hS5 | exact KS.out _ _ hS5 | go_keep | (go_split_ands; refine ⟨?_, ?_, ?_, ?_⟩ <;> ((rw [hb2.cell (by have := hb1.size; simp only [World.drew] at this ⊢; omega)]; assumption))) | (go_split_ands; refine ⟨?_, ?_, ?_, ?_⟩ <;> ((rw [hb1.cell (by simp only [World.drew]; omega)]; assumption)))))
              clear hK K
              (try simp only [Act.put, List.setIfInBounds_toArray, List.set_cons_zero, List.set_cons_succ])
              refine wpAnyH_ready (rs := [4]) (by kernel_rfl) (by simp) ?_
              refine held_cons rfl (fun K hK => ?_) (AllReadyH.nil)
              go_simp
              refine hK.out _ _ ?_ (fun hHeld => ?_)
              · ((try dsimp only); (first | exact hS5 | exact KS.out _ _ hS5 | go_keep | (go_split_ands; refine ⟨?_, ?_, ?_, ?_⟩ <;> ((rw [hb2.cell (by have := hb1.size; simp only [World.drew] at this ⊢; omega)]; assumption))) | (go_split_ands; refine ⟨?_, ?_, ?_, ?_⟩ <;> ((rw [hb1.cell (by simp only [World.drew]; omega)]; assumption)))))
              clear hK K
              (try simp only [Act.put, List.setIfInBounds_toArray, List.set_cons_zero, List.set_cons_succ])
              refine wpAnyH_ready (rs := [26]) (by kernel_rfl) (by simp) ?_
              refine held_cons rfl (fun K hK => ?_) (AllReadyH.nil)
              ((first | (go_at_call 41; refine ((HCB.out _ (Below.refl _ _).drew).1).mono ?_; rintro e w1 ⟨v1, rfl, hown1, hb1⟩; obtain ⟨a1, k1, rfl⟩ := row_shape hown1; have hcA := (hb1.cell (p := ⟨c, 0, none⟩) (by simpa using hcl)).trans e0) | (go_at_call 41; refine ((HCB.out _ ((Below.refl _ _).drew.trans hb1)).2).mono ?_; rintro e w2 ⟨v2, rfl, hown2, hb2⟩; obtain ⟨a2, k2, rfl⟩ := row_shape hown2; have hcB := (hb2.cell (p := ⟨c, 0, none⟩) (by have := hb1.size; simp only [World.drew] at this ⊢; omega)).trans hcA; have hcL : c < w2.heap.size := (by have := hb1.size; have := hb2.size; simp only [World.drew] at *; omega)) | (refine step_append_lies _ (by rfl) _ _ _ (by rfl) 0 72 i0 _ 1 8 Try.underlying64 Hi0.out hz0 hz1 hz2 rfl (by decide) (.slice fa k fc) k (fptrs T.files) (by rfl) (((ownsRow_below (ownsRow_below Hown.out ((Below.refl _ _).drew.trans hb1)) hb2).alloc _).alloc _) ⟨w2.heap.size + 1, 0, none⟩ 1 1 [.pointer (some ⟨w2.heap.size, 0, none⟩)] (by rfl) (by rfl) (news2 w2 _ _ _) (by simp [Value.oneCell']) (by decide) H63.out HBY.out (Nat.zero_le _) (w2.heap.size + 2) (by simp) ?_; intro gg cap5 w5 hown5 hgrow hat hlt5; have hS5 := KE.out w1 w2 w5 _ _ hb1 hb2 hgrow; have hB5 := KB.out w1 w2 w5 _ _ hb1 hb2 hgrow; have hc5 := hB5.1; have hf5 := hB5.2)))
              refine hK.out _ _ ?_ (fun hHeld => ?_)
              · ((try dsimp only); (first | exact hS5 | exact KS.out _ _ hS5 | go_keep | (go_split_ands; refine ⟨?_, ?_, ?_, ?_⟩ <;> ((rw [hb2.cell (by have := hb1.size; simp only [World.drew] at this ⊢; omega)]; assumption))) | (go_split_ands; refine ⟨?_, ?_, ?_, ?_⟩ <;> ((rw [hb1.cell (by simp only [World.drew]; omega)]; assumption)))))
              clear hK K
              (try simp only [Act.put, List.setIfInBounds_toArray, List.set_cons_zero, List.set_cons_succ])
              refine held_take (i := 27) (v := ?_) rfl (by kernel_rfl) (by kernel_rfl) (by kernel_rfl) (fun _ _ _ h => h) (by rfl) (fun w hSw => ?_) (by assumption) ?_
              rotate_left
              · ((try dsimp only at hSw); go_simp; (try with_reducible rfl))
              (try simp only [Act.put, List.setIfInBounds_toArray, List.set_cons_zero, List.set_cons_succ])
              refine held_take (i := 28) (v := ?_) rfl (by kernel_rfl) (by kernel_rfl) (by kernel_rfl) (fun _ _ _ h => h) (by rfl) (fun w hSw => ?_) (by assumption) ?_
              rotate_left
              · ((try dsimp only at hSw); go_simp; (try with_reducible rfl))
              (try simp only [Act.put, List.setIfInBounds_toArray, List.set_cons_zero, List.set_cons_succ])
              refine wpAnyH_ready (rs := [29]) (by kernel_rfl) (by simp) ?_
              refine held_cons rfl (fun K hK => ?_) (AllReadyH.nil)
              go_simp
              refine hK.out _ _ ?_ (fun hHeld => ?_)
              · ((try dsimp only); (first | exact hS5 | exact KS.out _ _ hS5 | go_keep | (go_split_ands; refine ⟨?_, ?_, ?_, ?_⟩ <;> ((rw [hb2.cell (by have := hb1.size; simp only [World.drew] at this ⊢; omega)]; assumption))) | (go_split_ands; refine ⟨?_, ?_, ?_, ?_⟩ <;> ((rw [hb1.cell (by simp only [World.drew]; omega)]; assumption)))))
              clear hK K
              (try simp only [Act.put, List.setIfInBounds_toArray, List.set_cons_zero, List.set_cons_succ])
              refine wpAnyH_done (by kernel_rfl) ?_ _
      all_goals (refine NoPanic.normal ?_)
      all_goals
        obtain ⟨hO5, hB5⟩ := HO.out.put (gg := gg) HB.out HB.out.size ((Below.refl wr.heap.size wr).drew.trans hb1) hb2 hown1 hown2 (by rw [Hfv.out, Hlen.out]; exact hgrow) (v := .slice (some ⟨gg, 0, none⟩) (k + 1) cap5) (by rw [Hlen.out]; exact hown5) (fun j hj => (Option.some.inj (show some gg = some j from hj)).symm) (by rw [Hfv.out, Hlen.out]; exact hat)
        have HO5 := Lib.hid hO5
        have HB5 := Lib.hid hB5
        clear hO5 hB5 hown5 hgrow hat hlt5 hown1 hown2 hb1 hb2 hS5 hc5 hf5 hcA hcB hcL d0 d1 d2 d3 e0 HCB KE KB KS HSZ
        generalize w5.setCell ⟨c, 0, none⟩ _ = w6 at HO5 HB5 ⊢
        have Hlen5 : Hid ((T.files ++ [(⟨w2.heap.size, .slice a1 F.last.length k1, .slice a2 F.seen.length k2, F.id, F.name, F.last, F.seen⟩ : DFile)]).length = k + 1) := Lib.hid (by rw [List.length_append, Hlen.out]; rfl)
        have Hpl5 : Hid ((T.files ++ [(⟨w2.heap.size, .slice a1 F.last.length k1, .slice a2 F.seen.length k2, F.id, F.name, F.last, F.seen⟩ : DFile)]).map DFile.pl = (S.files.take (k + 1)).map DFile.pl) := Lib.hid (by rw [List.map_append, Hpl.out, Htk.out]; rfl)
        have HT5 := Lib.hid (show ∃ v fs, ({ T with fv := .slice (some ⟨gg, 0, none⟩) (k + 1) cap5, files := T.files ++ [⟨w2.heap.size, .slice a1 F.last.length k1, .slice a2 F.seen.length k2, F.id, F.name, F.last, F.seen⟩] } : DSt) = { S with fv := v, wv := .slice ad S.wait.length cap1, files := fs } from by
          obtain ⟨v, fs, hT⟩ := HT.out
          refine ⟨.slice (some ⟨gg, 0, none⟩) (k + 1) cap5, T.files ++ [⟨w2.heap.size, .slice a1 F.last.length k1, .slice a2 F.seen.length k2, F.id, F.name, F.last, F.seen⟩], ?_⟩
          rw [hT])
        go_wp2_with fail
        go_roundw
        case rel => exact ⟨k + 1, _, by go_num, by omega, Hlen5, Hpl5, HT5, HO5, HB5⟩
        case measure => simp [intOf]; omega
    · obtain rfl : k = S.files.length := by omega
      have Hfin : Hid (T.pl = S.pl) := Lib.hid (by
        obtain ⟨v, fs, hT⟩ := HT.out
        have hp := Hpl.out
        rw [List.take_length] at hp
        unfold DSt.pl
        rw [hp, hT])
      go_wp2_with fail
      go_ret
      exact ⟨c, T, rfl, HO.out, Hfin.out, HB.out⟩
end Go.Proofs.Ytlmodbaeoheiiaa
