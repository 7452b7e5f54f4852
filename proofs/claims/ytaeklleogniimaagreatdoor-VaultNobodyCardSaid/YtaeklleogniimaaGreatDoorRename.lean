/- Rename. Conditions: sizes, order. -/
import Derived.Test.YtaeklleogniimaaGreatDoorIndexGone
import Derived.Test.YtaeklleogniimaaGreatDoorOkP
namespace Go.Proofs.YtaeklleogniimaaGreatDoor
open Go.RowKit
set_option linter.unusedVariables false

theorem run_clear_many {P : Program} (w : World) (t e ty : TypeId) (z : Value) (zs : List Value) (ht : P.underlying t = some (.slice e)) (hv : ∀ w, (zeroValue e).run P w = .ok z w) (b o n c : Nat) (hz : (Builtin.zeroCells z.cells n).toList = zs) (h1 : ∀ v ∈ zs, v.oneCell' = true) (hn : 0 < n)
    (hc : ∀ j, j < zs.length → (w.cell? ⟨b, o + j, none⟩).isSome = true) (hf : ∀ j, j < zs.length → w.frozen? ⟨b, o + j, none⟩ = false) :
    (Builtin.clear_ #[t] ty #[.slice (some ⟨b, o, none⟩) n c]).run P w = .ok (.tuple #[]) (w.setCells b o zs) := by
  have hst := run_storeCells_cells (P := P) b o zs 0 w (by simpa using hc) (by simpa using hf) h1
  simp only [Nat.add_zero] at hst
  obtain ⟨m, rfl⟩ : ∃ m, n = m + 1 := ⟨n - 1, by omega⟩
  simp [Builtin.clear_, run_underlying ht, hv, hz, hst]

def keepP (id : Int) (p : DPiece) : Bool := !(p.id == id)
theorem waitVals_atR {l : List DPiece} {k : Nat} (hk : k < l.length) (j : Nat) (hj : j < 4) (rest : List Value) : (waitVals l ++ rest)[k * 4 + j]? = (pieceVals l[k])[j]? := by
  rw [List.getElem?_append_left (by rw [waitVals_length]; omega)]
  induction l generalizing k with
  | nil => simp at hk
  | cons f r ih =>
    have hl : (pieceVals f).length = 4 := rfl
    show ((pieceVals f) ++ waitVals r)[k * 4 + j]? = _
    cases k with
    | zero => rw [List.getElem?_append_left (by omega)]; simp
    | succ k =>
      rw [List.getElem?_append_right (by omega), hl, show (k + 1) * 4 + j - 4 = k * 4 + j by omega]
      exact ih (by simpa using hk)
theorem waitVals_take (l : List DPiece) (i : Nat) : (waitVals l).take (i * 4) = waitVals (l.take i) := by
  induction l generalizing i with
  | nil => simp [waitVals]
  | cons f r ih =>
    cases i with
    | zero => simp [waitVals]
    | succ i =>
      show (pieceVals f ++ waitVals r).take ((i + 1) * 4) = pieceVals f ++ waitVals (r.take i)
      rw [← ih, List.take_append, show (pieceVals f).length = 4 from rfl, List.take_of_length_le (show (pieceVals f).length ≤ _ by show 4 ≤ _; omega)]
      congr 2
      omega
theorem waitVals_set (l : List DPiece) (i : Nat) (p : DPiece) (rest : List Value) (hi : i < l.length) :
    ((((waitVals l ++ rest).set (i * 4) (.int .i64 p.id)).set (i * 4 + 1) (.int .i64 p.at_)).set (i * 4 + 2) (.int .i64 p.from_)).set (i * 4 + 3) (.string p.text) = waitVals (l.set i p) ++ rest := by
  induction l generalizing i with
  | nil => simp at hi
  | cons f r ih =>
    cases i with
    | zero => rfl
    | succ i =>
      have h := ih i (by simpa using hi)
      show ((((pieceVals f ++ waitVals r ++ rest).set _ _).set _ _).set _ _).set _ _ = pieceVals f ++ waitVals (r.set i p) ++ rest
      rw [List.append_assoc, List.append_assoc, ← h]
      have e : ∀ (X : List Value) (j : Nat) (v : Value), (pieceVals f ++ X).set (j + 4) v = pieceVals f ++ X.set j v := fun X j v => by
        rw [List.set_append_right _ _ (by show 4 ≤ j + 4; omega)]
        rfl
      rw [show (i + 1) * 4 = i * 4 + 4 by omega, e, show i * 4 + 4 + 1 = i * 4 + 1 + 4 by omega, e, show i * 4 + 4 + 2 = i * 4 + 2 + 4 by omega, e, show i * 4 + 4 + 3 = i * 4 + 3 + 4 by omega, e]
theorem filter_take {l : List DPiece} {f : DPiece → Bool} {j : Nat} (hj : j < l.length) : (l.take (j + 1)).filter f = (l.take j).filter f ++ if f l[j] = true then [l[j]] else [] := by
  rw [List.take_succ_eq_append_getElem hj, List.filter_append]
  congr 1
  rw [List.filter_cons]
  rfl
theorem firstGone_cases (l : List DPiece) (id : Int) : (firstGone l id = -1 ∧ l.filter (keepP id) = l) ∨ ∃ k : Nat, firstGone l id = k ∧ k < l.length ∧ (l.take (k + 1)).filter (keepP id) = l.take k := by
  unfold firstGone
  cases h : l.findIdx? (fun p => p.id == id) with
  | none =>
    left
    refine ⟨rfl, ?_⟩
    rw [List.filter_eq_self]
    intro p hp
    have := List.findIdx?_eq_none_iff.1 h p hp
    unfold keepP
    rw [this]; rfl
  | some k =>
    right
    obtain ⟨hk, h1, h2⟩ := List.findIdx?_eq_some_iff_getElem.1 h
    refine ⟨k, rfl, hk, ?_⟩
    rw [filter_take hk, if_neg (by unfold keepP; rw [h1]; decide), List.append_nil, List.filter_eq_self]
    intro p hp
    obtain ⟨j, hj, rfl⟩ := List.mem_iff_getElem.1 hp
    rw [List.getElem_take]
    rw [List.length_take] at hj
    have := h2 j (by omega)
    unfold keepP
    simpa using this
theorem zeros_many (n : Nat) : ∃ zs, (Builtin.zeroCells (Value.agg #[.int .i64 0, .int .i64 0, .int .i64 0, .string ByteArray.empty]).cells n).toList = zs ∧ zs.length = n * 4 ∧ ∀ v ∈ zs, v.oneCell' = true := by
  refine ⟨_, rfl, ?_, ?_⟩
  · simp [Builtin.zeroCells, Value.cells]
  · intro v hv
    simp only [Builtin.zeroCells, Value.cells, Array.toList_map, List.mem_map] at hv
    obtain ⟨i, _, rfl⟩ := hv
    have h4 : i % 4 < 4 := Nat.mod_lt _ (by decide)
    show Value.oneCell' ((#[Value.int .i64 0, .int .i64 0, .int .i64 0, .string ByteArray.empty])[i % 4]!) = true
    generalize i % 4 = q at h4
    match q, h4 with
    | 0, _ => rfl
    | 1, _ => rfl
    | 2, _ => rfl
    | 3, _ => rfl

theorem touch_one {a w : World} {b : Nat} (h : Touch (fun k => k = b) a w) (o : Nat) (v : Value) : Touch (fun k => k = b) a (w.setCell ⟨b, o, none⟩ v) := h.set (p := ⟨b, o, none⟩) (Or.inl rfl) v
set_option maxRecDepth 100000 in
set_option maxHeartbeats 1600000 in
theorem deleteGone_any (b : Nat) (S : DSt) (B g : Nat) (id : Int) (w : World) (h : DiskAt w b S) (hl : S.wait.length ≤ 1000000000) (hB : w.cell? ⟨B, 0, none⟩ = some (.pointer (some ⟨g, 0, none⟩))) (hg : w.cell? ⟨g, 0, none⟩ = some (.int .i64 id)) (hB2 : B < w.heap.size) (hg2 : g < w.heap.size)
    (hBf : S.wv.ownBlock ≠ some B) (hgf : S.wv.ownBlock ≠ some g) :
    Calls Tryz.prog 140 #[S.wv, .func (.func 141) #[] #[.pointer (some ⟨B, 0, none⟩)]] w fun e w' =>
      ∃ ad cap, e = .returned (.slice ad (S.wait.filter (keepP id)).length cap) ∧ w'.ownsRow 0 198 4 (.slice ad (S.wait.filter (keepP id)).length cap) (S.wait.filter (keepP id)).length (waitVals (S.wait.filter (keepP id))) ∧ Touch (fun k => S.wv.ownBlock = some k) w w' ∧
        ∀ k, (Value.slice ad (S.wait.filter (keepP id)).length cap).ownBlock = some k → S.wv.ownBlock = some k := by
  have HX := Lib.hid (indexGone_any b S B g id w h hl hB hg hB2 hg2)
  obtain ⟨ad, cap, hv⟩ := row_shape h.wrow
  rcases firstGone_cases S.wait id with ⟨h1, h2⟩ | ⟨i0, h1, hi0, h2⟩
  · rw [h1] at HX
    rw [h2]
    have HR := Lib.hid h.wrow
    rw [hv] at HX ⊢
    rw [hv] at HR
    clear h hB hg hB2 hg2 hBf hgf h1 h2 hv
    go_enter Tryz.func140, Tryz.ntmps140
    go_wp2_with fail
    refine HX.out.mono ?_
    rintro e w' ⟨rfl, hb⟩
    have Hb := Lib.hid hb
    clear hb HX
    go_wp2_with fail
    go_ret
    exact ⟨ad, cap, rfl, ownsRow_below HR.out Hb.out, Touch.of_below Hb.out, fun k hk => hk⟩
  · rw [h1] at HX
    obtain ⟨r1, r2⟩ := h.wrow
    rcases r2 with ⟨r2, r3⟩ | ⟨g1, cap1, cur, hv1, _, hbk, hnc, hcm, hcs, hct⟩
    · rw [r3] at r1
      have := congrArg List.length (show S.wait = [] from List.eq_nil_of_length_eq_zero r3)
      simp at this
      omega
    · rw [hv1] at HX hBf hgf ⊢
      have hB0 : B ≠ g1 := fun e => hBf (by rw [e]; rfl)
      have hg0 : g ≠ g1 := fun e => hgf (by rw [e]; rfl)
      obtain ⟨rest, hrest, hrl⟩ : ∃ rest, cur.toList = waitVals S.wait ++ rest ∧ rest.length = (cap1 - S.wait.length) * 4 := by
        refine ⟨cur.toList.drop (S.wait.length * 4), by rw [← hct, List.take_append_drop], ?_⟩
        rw [List.length_drop, Array.length_toList, hcs]
        omega
      have HBk : Hid (Blk w g1 (waitVals S.wait ++ rest) 198) := Lib.hid (by unfold Blk; rw [← hrest]; exact hbk)
      have HG := Lib.hid (fun (p : DPiece) (w' : World) (hb : Touch (fun k => k = g1) w w') => gone_any p B g id w' ((hb.cell (p := ⟨B, 0, none⟩) hB2 hB0).trans hB) ((hb.cell (p := ⟨g, 0, none⟩) hg2 hg0).trans hg) (Nat.lt_of_lt_of_le hB2 hb.size) (Nat.lt_of_lt_of_le hg2 hb.size))
      unfold pieceVal at HG
      have H2 := Lib.hid h2
      have Hcm := Lib.hid hcm
      unfold maxLen at hcm
      clear h hB hg hB2 hg2 hBf hgf h1 h2 hv r1 hbk hct hcs hrest hv1
      go_enter Tryz.func140, Tryz.ntmps140
      have hbe : (((i0 : Nat) : Int) == -1) = false := beq_eq_false_iff_ne.2 (by omega)
      go_wp2_with fail
      refine HX.out.mono ?_
      rintro e w' ⟨rfl, hb⟩
      have Hb := Lib.hid hb
      clear hb HX
      go_wp2_with fail
      go_loopw [5, 6] (fun u v wr => ∃ (i j : Nat) (mid : List DPiece), u = .int .i64 i ∧ v = .int .i64 j ∧ i < j ∧ j ≤ S.wait.length ∧ Hid (mid.length = S.wait.length) ∧ Hid (mid.take i = (S.wait.take j).filter (keepP id)) ∧ Hid (mid.drop j = S.wait.drop j) ∧ Hid (Blk wr g1 (waitVals mid ++ rest) 198) ∧ Hid (Touch (fun k => k = g1) w wr)) (fun _ v _ => S.wait.length - (intOf v).toNat)
      case atStart => exact ⟨i0, i0 + 1, S.wait, rfl, by go_num, by omega, by omega, Lib.hid rfl, Lib.hid H2.out.symm, Lib.hid rfl, Lib.hid (HBk.out.below Hb.out), Lib.hid (Touch.of_below Hb.out)⟩
      case round =>
        obtain ⟨i, j, mid, rfl, rfl, hij, hj, Hml, Hmt, Hmd, HBr, HT⟩ := hrel
        by_cases hlt : j < S.wait.length
        · have hmj : j < mid.length := by rw [Hml.out]; exact hlt
          have hmi : i < mid.length := by omega
          have hmj2 : mid[j] = S.wait[j] := by
            have e1 : (mid.drop j)[0]? = (S.wait.drop j)[0]? := by rw [Hmd.out]
            rw [List.getElem?_drop, List.getElem?_drop, Nat.add_zero, List.getElem?_eq_getElem hmj, List.getElem?_eq_getElem hlt] at e1
            simpa using e1
          have Hft := Lib.hid (filter_take (f := keepP id) hlt)
          have Hmd1 : Hid (∀ p, (mid.set i p).drop (j + 1) = S.wait.drop (j + 1) ∧ mid.drop (j + 1) = S.wait.drop (j + 1)) := Lib.hid (fun p => by
            have e1 : mid.drop (j + 1) = S.wait.drop (j + 1) := by
              rw [← List.drop_drop, ← List.drop_drop, Hmd.out]
            exact ⟨by rw [List.drop_set_of_lt (by omega)]; exact e1, e1⟩)
          have hc : ∀ t, t < 4 → wr.cell? ⟨g1, j * 4 + t, none⟩ = (pieceVals mid[j])[t]? := fun t ht => by rw [HBr.out.cell, waitVals_atR hmj t ht]
          have hd : ∀ t, t < 4 → wr.cell? ⟨g1, i * 4 + t, none⟩ = (pieceVals mid[i])[t]? := fun t ht => by rw [HBr.out.cell, waitVals_atR hmi t ht]
          rw [hmj2] at hc
          have HBs := Lib.hid (fun (p : DPiece) => waitVals_set mid i p rest hmi)
          have Hmts : Hid (∀ p, (mid.set i p).take (i + 1) = mid.take i ++ [p]) := Lib.hid (fun p => by
            rw [List.take_succ_eq_append_getElem (by rw [List.length_set]; exact hmi), List.take_set_of_le (Nat.le_refl _), List.getElem_set_self])
          generalize S.wait[j] = p at hc Hft
          generalize mid[i] = o at hd
          have hc0 : wr.cell? ⟨g1, j * 4, none⟩ = some (.int .i64 p.id) := hc 0 (by omega)
          have hc1 : wr.cell? ⟨g1, j * 4 + 1, none⟩ = some (.int .i64 p.at_) := hc 1 (by omega)
          have hc2 : wr.cell? ⟨g1, j * 4 + 2, none⟩ = some (.int .i64 p.from_) := hc 2 (by omega)
          have hc3 : wr.cell? ⟨g1, j * 4 + 3, none⟩ = some (.string p.text) := hc 3 (by omega)
          have hd0 : wr.cell? ⟨g1, i * 4, none⟩ = some (.int .i64 o.id) := hd 0 (by omega)
          have hd1 : wr.cell? ⟨g1, i * 4 + 1, none⟩ = some (.int .i64 o.at_) := hd 1 (by omega)
          have hd2 : wr.cell? ⟨g1, i * 4 + 2, none⟩ = some (.int .i64 o.from_) := hd 2 (by omega)
          have hd3 : wr.cell? ⟨g1, i * 4 + 3, none⟩ = some (.string o.text) := hd 3 (by omega)
          have hgl := HBr.out.lt
          have HD := Lib.hid (And.intro hd0 (And.intro hd1 (And.intro hd2 hd3)))
          clear hc hd hd0 hd1 hd2 hd3 hmj2
          go_wp2_with fail
          refine (HG.out p _ (HT.out.alloc _)).mono ?_
          rintro e w1 ⟨rfl, hb1⟩
          have Hbr : Hid (Below wr.heap.size wr w1) := Lib.hid (((Below.refl _ _).alloc (Nat.le_refl _) _).trans (hb1.mono (by simp)))
          obtain ⟨q, hq, hqc⟩ : ∃ q : Nat, q = wr.heap.size ∧ w1.cell? ⟨q, 0, none⟩ = some (.int .i64 p.id) ∧ w1.cell? ⟨q, 1, none⟩ = some (.int .i64 p.at_) ∧ w1.cell? ⟨q, 2, none⟩ = some (.int .i64 p.from_) ∧ w1.cell? ⟨q, 3, none⟩ = some (.string p.text) := by
            have hX : Blk w1 wr.heap.size [.int .i64 p.id, .int .i64 p.at_, .int .i64 p.from_, .string p.text] 198 := Blk.below (Blk.new wr [.int .i64 p.id, .int .i64 p.at_, .int .i64 p.from_, .string p.text] 198) hb1
            exact ⟨_, rfl, hX.cell 0, hX.cell 1, hX.cell 2, hX.cell 3⟩
          have HBw := Lib.hid (HBr.out.below Hbr.out)
          have HTw : Hid (Touch (fun k => k = g1) w w1) := Lib.hid (HT.out.trans (Touch.of_below Hbr.out))
          cases hq2 : (p.id == id) with
          | true =>
            have Hk : Hid (mid.take i = (S.wait.take (j + 1)).filter (keepP id)) := Lib.hid (by
              rw [Hft.out, if_neg (by unfold keepP; rw [hq2]; decide), List.append_nil]; exact Hmt.out)
            clear hc0 hc1 hc2 hc3 hb1 hqc hq2
            go_wp2_with fail
            go_roundw
            case rel => exact ⟨i, j + 1, mid, rfl, by go_num, by omega, by omega, Hml, Hk, Lib.hid (Hmd1.out p).2, HBw, HTw⟩
            case measure => simp [intOf]; omega
          | false =>
            have Hk : Hid ((mid.set i p).take (i + 1) = (S.wait.take (j + 1)).filter (keepP id)) := Lib.hid (by
              rw [Hft.out, if_pos (by unfold keepP; rw [hq2]; decide), Hmts.out, Hmt.out])
            obtain ⟨hd0, hd1, hd2, hd3⟩ := HD.out
            have he0 := (Hbr.out.cell (p := ⟨g1, i * 4, none⟩) hgl).trans hd0
            have he1 := (Hbr.out.cell (p := ⟨g1, i * 4 + 1, none⟩) hgl).trans hd1
            have he2 := (Hbr.out.cell (p := ⟨g1, i * 4 + 2, none⟩) hgl).trans hd2
            have he3 := (Hbr.out.cell (p := ⟨g1, i * 4 + 3, none⟩) hgl).trans hd3
            have hf0 := HBw.out.free (i * 4)
            have hf1 := HBw.out.free (i * 4 + 1)
            have hf2 := HBw.out.free (i * 4 + 2)
            have hf3 := HBw.out.free (i * 4 + 3)
            obtain ⟨hqc0, hqc1, hqc2, hqc3⟩ := hqc
            subst hq
            clear hc0 hc1 hc2 hc3 hd0 hd1 hd2 hd3 hb1 hq2
            have HN := Lib.hid (HBs.out p ▸ (((HBw.out.set (i * 4) (.int .i64 p.id)).set (i * 4 + 1) (.int .i64 p.at_)).set (i * 4 + 2) (.int .i64 p.from_)).set (i * 4 + 3) (.string p.text))
            have HTN := Lib.hid (touch_one (touch_one (touch_one (touch_one HTw.out (i * 4) (.int .i64 p.id)) (i * 4 + 1) (.int .i64 p.at_)) (i * 4 + 2) (.int .i64 p.from_)) (i * 4 + 3) (.string p.text))
            go_wp2_with fail
            go_roundw
            case rel => exact ⟨i + 1, j + 1, mid.set i p, by go_num, by go_num, by omega, by omega, Lib.hid (by rw [List.length_set]; exact Hml.out), Hk, Lib.hid (Hmd1.out p).1, HN, HTN⟩
            case measure => simp [intOf]; omega
        · obtain rfl : j = S.wait.length := by omega
          obtain ⟨zs, hz1, hz2, hz3⟩ := zeros_many (S.wait.length - i)
          have hv : ∀ w, (zeroValue 198).run Tryz.prog w = .ok (Value.agg #[.int .i64 0, .int .i64 0, .int .i64 0, .string ByteArray.empty]) w := fun w => by kernel_rfl
          have hcl1 : ∀ ty, (Builtin.clear_ #[77] ty #[.slice (some ⟨g1, i * 4, none⟩) (S.wait.length - i) (cap1 - i)]).run Tryz.prog wr = .ok (.tuple #[]) (wr.setCells g1 (i * 4) zs) :=
            fun ty => run_clear_many (P := Tryz.prog) wr _ _ ty _ zs Tryz.underlying77 hv g1 (i * 4) _ _ hz1 hz3 (by omega) (fun t ht => by
              rw [HBr.out.cell, List.getElem?_append_left (by rw [waitVals_length, Hml.out]; omega), List.getElem?_eq_getElem (by rw [waitVals_length, Hml.out]; omega)]; rfl) (fun t ht => HBr.out.free _)
          have HW := Lib.hid (Blk.setCells zs HBr.out (i * 4) (by rw [List.length_append, waitVals_length, Hml.out]; omega))
          have HT2 : Hid (Touch (fun k => k = g1) w (wr.setCells g1 (i * 4) zs)) := Lib.hid (Touch.setCells (S := fun k => k = g1) zs (i * 4) HT.out (Or.inl rfl))
          clear hz1 hz3 hv
          have Hkept : Hid (S.wait.filter (keepP id) = mid.take i) := Lib.hid (by rw [Hmt.out, List.take_length])
          have Hki : Hid ((S.wait.filter (keepP id)).length = i) := Lib.hid (by rw [Hkept.out, List.length_take, Hml.out]; omega)
          go_wp2_with fail
          go_ret
          rw [Hki.out]
          refine ⟨some ⟨g1, 0, none⟩, cap1, rfl, ⟨?_, Or.inr ⟨g1, cap1, _, rfl, Nat.zero_le _, HW.out, by omega, Hcm.out, ?_, ?_⟩⟩, HT2.out.mono (fun k _ hk => by rw [hk]; rfl), fun k hk => hk⟩
          · rw [waitVals_length, Hki.out]
          · simp only [List.size_toArray, List.length_append, List.length_take, List.length_drop, waitVals_length, Hml.out]
            omega
          · show List.take _ (List.take _ _ ++ zs ++ _) = _
            rw [List.append_assoc, List.take_append_of_le_length (by simp only [List.length_take, List.length_append, waitVals_length, Hml.out]; omega), List.take_take, Nat.min_self, List.take_append_of_le_length (by rw [waitVals_length, Hml.out]; omega), waitVals_take, Hkept.out]
end Go.Proofs.YtaeklleogniimaaGreatDoor
namespace Go.Proofs.YtaeklleogniimaaGreatDoor
open Go.RowKit
set_option linter.unusedVariables false

/-- a device with another row of files -/
theorem DiskAt.rowed {w : World} {b : Nat} {S : DSt} {v : Value} {fs : List DFile} (hB : Blk w b S.vals 79) (hw : w.ownsRow 0 198 4 S.wv S.wait.length (waitVals S.wait)) (hown : w.ownsRow 0 133 1 v fs.length (fptrs fs)) (hf : ∀ f ∈ fs, FileAt w f) (hap : fs.Pairwise Apart) :
    DiskAt (w.setCell ⟨b, 0, none⟩ v) b { S with fv := v, files := fs } := by
  have T : Touch (fun k => k = b) w (w.setCell ⟨b, 0, none⟩ v) := touch1_set (Touch.refl _ w) _
  refine ⟨hB.set 0 v, row_touch hown T (fun g hg e => row_ne hown hB (by decide) (by rw [hg, e])), row_touch hw T (fun g hg e => row_ne hw hB (by decide) (by rw [hg, e])), fun f hm => (hf f hm).touch T ((hf f hm).blk.ne hB (by decide)) (fun k hk e => ?_), hap⟩
  subst e
  rcases hk with hk | hk
  · exact row_ne (hf f hm).last hB (by decide) hk
  · exact row_ne (hf f hm).seen hB (by decide) hk
/-- a device with other pieces that wait -/
theorem DiskAt.waited {w : World} {b : Nat} {S : DSt} {v : Value} {ps : List DPiece} (hB : Blk w b S.vals 79) (hw : w.ownsRow 0 198 4 v ps.length (waitVals ps)) (hown : w.ownsRow 0 133 1 S.fv S.files.length (fptrs S.files)) (hf : ∀ f ∈ S.files, FileAt w f) (hap : S.files.Pairwise Apart) :
    DiskAt (w.setCell ⟨b, 1, none⟩ v) b { S with wv := v, wait := ps } := by
  have T : Touch (fun k => k = b) w (w.setCell ⟨b, 1, none⟩ v) := touch1_set (Touch.refl _ w) _
  refine ⟨hB.set 1 v, row_touch hown T (fun g hg e => row_ne hown hB (by decide) (by rw [hg, e])), row_touch hw T (fun g hg e => row_ne hw hB (by decide) (by rw [hg, e])), fun f hm => (hf f hm).touch T ((hf f hm).blk.ne hB (by decide)) (fun k hk e => ?_), hap⟩
  subst e
  rcases hk with hk | hk
  · exact row_ne (hf f hm).last hB (by decide) hk
  · exact row_ne (hf f hm).seen hB (by decide) hk
theorem FileAt.byRow {w w' : World} {f : DFile} {v : Value} {n : Nat} {xs : List Value} {e : TypeId} {sz : Nat} (h : FileAt w f) (hr : w.ownsRow 0 e sz v n xs) (ht : Touch (fun k => v.ownBlock = some k) w w') (h1 : e ≠ 136) (h2 : e ≠ 5) : FileAt w' f :=
  h.touch ht (fun e => row_ne hr h.blk h1 e) (fun k hk e => by
    rcases hk with hk | hk
    · exact row_ne_row hr h.last h2 e hk
    · exact row_ne_row hr h.seen h2 e hk)
theorem Dev.erased {w w1 : World} {b i : Nat} {S : DSt} {v : Value} (h : DiskAt w b S) (hi : i < S.files.length) (hT : Touch (fun k => S.fv.ownBlock = some k) w w1) (hown : w1.ownsRow 0 133 1 v (S.files.length - 1) ((fptrs S.files).eraseIdx i)) (hv : ∀ k, v.ownBlock = some k → S.fv.ownBlock = some k ∨ w.heap.size ≤ k) :
    Dev b S w { S with fv := v, files := S.files.eraseIdx i } (w1.setCell ⟨b, 0, none⟩ v) := by
  obtain ⟨h1, h2, h3⟩ := h.b_ne
  have e1 : (fptrs S.files).eraseIdx i = fptrs (S.files.eraseIdx i) := by
    unfold fptrs
    rw [List.eraseIdx_eq_take_drop_succ, List.eraseIdx_eq_take_drop_succ, List.map_append, List.map_take, List.map_drop]
  have e2 : S.files.length - 1 = (S.files.eraseIdx i).length := by rw [List.length_eraseIdx, if_pos hi]
  rw [e1, e2] at hown
  have hsub : ∀ f ∈ S.files.eraseIdx i, f ∈ S.files := fun f hf => (List.eraseIdx_sublist ..).subset hf
  refine ⟨DiskAt.rowed (h.blk.touch hT (fun e => h1 e)) (row_touch h.wrow hT (fun g hg e => row_ne_row h.frow h.wrow (by decide) e hg)) hown (fun f hf => (h.fat f (hsub f hf)).byRow h.frow hT (by decide) (by decide)) (h.apart.sublist (List.eraseIdx_sublist ..)), ?_, ?_⟩
  · exact (hT.mono (fun k _ hk => Or.inr (Or.inl hk))).trans ((touch1_set (b := b) (Touch.refl _ w1) v).mono (fun k _ hk => Or.inl hk))
  · intro k hk
    rcases hk with hk | hk | hk | ⟨f, hf, hk⟩
    · exact Or.inl (Or.inl hk)
    · rcases hv k hk with hk | hk
      · exact Or.inl (Or.inr (Or.inl hk))
      · exact Or.inr hk
    · exact Or.inl (Or.inr (Or.inr (Or.inl hk)))
    · exact Or.inl (Or.inr (Or.inr (Or.inr ⟨f, hsub f hf, hk⟩)))
theorem Dev.filtered {w w1 : World} {b : Nat} {S : DSt} {v : Value} {ps : List DPiece} (h : DiskAt w b S) (hT : Touch (fun k => S.wv.ownBlock = some k) w w1) (hown : w1.ownsRow 0 198 4 v ps.length (waitVals ps)) (hv : ∀ k, v.ownBlock = some k → S.wv.ownBlock = some k ∨ w.heap.size ≤ k) :
    Dev b S w { S with wv := v, wait := ps } (w1.setCell ⟨b, 1, none⟩ v) := by
  obtain ⟨h1, h2, h3⟩ := h.b_ne
  refine ⟨DiskAt.waited (h.blk.touch hT (fun e => h2 e)) hown (row_touch h.frow hT (fun g hg e => row_ne_row h.wrow h.frow (by decide) e hg)) (fun f hf => (h.fat f hf).byRow h.wrow hT (by decide) (by decide)) h.apart, ?_, ?_⟩
  · exact (hT.mono (fun k _ hk => Or.inr (Or.inr (Or.inl hk)))).trans ((touch1_set (b := b) (Touch.refl _ w1) v).mono (fun k _ hk => Or.inl hk))
  · intro k hk
    rcases hk with hk | hk | hk | hk
    · exact Or.inl (Or.inl hk)
    · exact Or.inl (Or.inr (Or.inl hk))
    · rcases hv k hk with hk | hk
      · exact Or.inl (Or.inr (Or.inr (Or.inl hk)))
      · exact Or.inr hk
    · exact Or.inl (Or.inr (Or.inr (Or.inr hk)))

def PS.remove (P : PS) (s : ByteArray) : Int × PS := if P.off then (14, P) else match findI P.files s with
  | none => (8, P)
  | some i => (0, { P with files := P.files.eraseIdx i, wait := P.wait.filter (keepP (idAt P i)) })

theorem remove_off (b : Nat) (S : DSt) (s : ByteArray) (w : World) (h : DiskAt w b S) (ho : S.off = true) : Calls Tryz.prog 78 #[.pointer (some ⟨b, 0, none⟩), .string s] w fun e w' => e = .returned (.int .i64 14) ∧ w = w' := by
  have hr := Lib.hid (ready_any b S w h)
  rw [ho] at hr
  clear h
  go_enter Tryz.func78, Tryz.ntmps78
  go_wp2_with fail
  refine hr.out.mono ?_
  rintro e w' ⟨rfl, rfl⟩
  go_wp2_with fail
  go_ret
  exact ⟨rfl, rfl⟩
theorem remove_none (b : Nat) (S : DSt) (s : ByteArray) (w : World) (h : DiskAt w b S) (hor : Ordered S.files) (hl : S.files.length ≤ 1000000000) (ho : S.off = false) (hat : isAt S.files s = false) : Calls Tryz.prog 78 #[.pointer (some ⟨b, 0, none⟩), .string s] w fun e w' => e = .returned (.int .i64 8) ∧ w = w' := by
  have hr := Lib.hid (ready_any b S w h)
  rw [ho] at hr
  have hp := Lib.hid (place_any b S s w h hor hl)
  rw [hat] at hp
  clear h hor
  go_enter Tryz.func78, Tryz.ntmps78
  go_wp2_with fail
  refine hr.out.mono ?_
  rintro e w' ⟨rfl, rfl⟩
  go_wp2_with fail
  refine hp.out.mono ?_
  rintro e w' ⟨rfl, rfl⟩
  go_wp2_with fail
  go_ret
  exact ⟨rfl, rfl⟩
set_option maxRecDepth 100000 in
set_option maxHeartbeats 1600000 in
theorem remove_ok (b : Nat) (S : DSt) (s : ByteArray) (w : World) (h : DiskAt w b S) (hor : Ordered S.files) (hl : S.files.length ≤ 1000000000) (hwl : S.wait.length ≤ 1000000000) (ho : S.off = false) (hat : isAt S.files s = true) (hx : lower S.files s < S.files.length) :
    Calls Tryz.prog 78 #[.pointer (some ⟨b, 0, none⟩), .string s] w fun e w' => e = .returned (.int .i64 0) ∧ ∃ v v', Dev b S w { S with fv := v, files := S.files.eraseIdx (lower S.files s), wv := v', wait := S.wait.filter (keepP S.files[lower S.files s].id) } w' := by
  have hr := Lib.hid (ready_any b S w h)
  rw [ho] at hr
  have hp := Lib.hid (place_any b S s w h hor hl)
  rw [hat] at hp
  generalize lower S.files s = i at hx hp ⊢
  obtain ⟨g0, cap, hv, hgl, hc⟩ := fptrs_at h i hx
  have c0 : w.cell? ⟨b, 0, none⟩ = some (.slice (some ⟨g0, 0, none⟩) S.files.length cap) := by rw [← hv]; exact h.blk.cell 0
  have HD := Lib.hid h
  have HF := Lib.hid (h.fat _ (List.getElem_mem hx))
  have Hap := Lib.hid (fun (f : DFile) => List.getElem_mem hx)
  generalize hF : S.files[i] = F at hc HF ⊢
  have hbl := h.blk.lt
  have Hdel := Lib.hid (fun w' (ht : Touch (fun _ => False) w w') => delete_row S.fv S.files.length i (fptrs S.files) w' (row_touch h.frow ht (fun _ _ h => h)) hx (fun u hu => by
    obtain ⟨f, _, rfl⟩ := List.mem_map.1 hu
    rfl))
  rw [hv] at Hdel
  have Hv := Lib.hid hv
  clear h hor hv hat hF
  go_enter Tryz.func78, Tryz.ntmps78
  go_wp2_with fail
  refine hr.out.mono ?_
  rintro e w' ⟨rfl, rfl⟩
  go_wp2_with fail
  refine hp.out.mono ?_
  rintro e w' ⟨rfl, rfl⟩
  go_wp2_with fail
  have hT0 : Touch (fun _ => False) w (w.alloc (Obj.cells #[Value.pointer (some { block := F.g, off := 0 })] 133)) := (Touch.refl _ w).alloc _
  refine (Hdel.out _ hT0).mono ?_
  rintro e w1 ⟨g2, cap2, hvv, rfl, hown, hT⟩
  injection hvv with hv1 hv3 hv2
  clear hv3
  injection hv1 with hv1
  injection hv1 with hv1
  subst hv1; subst hv2
  have hD0 := HD.out.alloc (Obj.cells #[Value.pointer (some { block := F.g, off := 0 })] 133)
  have hzz : (w.alloc (Obj.cells #[Value.pointer (some { block := F.g, off := 0 })] 133)).heap.size = w.heap.size + 1 := by simp
  have hH0 : Blk (w.alloc (Obj.cells #[Value.pointer (some { block := F.g, off := 0 })] 133)) w.heap.size [.pointer (some ⟨F.g, 0, none⟩)] 133 := Blk.new w [.pointer (some ⟨F.g, 0, none⟩)] 133
  have hF0 : FileAt (w.alloc (Obj.cells #[Value.pointer (some { block := F.g, off := 0 })] 133)) F := HF.out.touch hT0 (fun h => h) (fun _ _ h => h)
  generalize w.alloc (Obj.cells #[Value.pointer (some { block := F.g, off := 0 })] 133) = w0 at *
  rw [← Hv.out] at hT
  have hE := Dev.erased hD0 hx hT hown (fun k hk => by
    left; rw [Hv.out]; exact hk)
  have hfb : S.fv.ownBlock ≠ some w.heap.size := fun e => by have := (HD.out.frow.lt _ e).2; omega
  have hH1 := hH0.touch hT hfb
  have hF1 := hF0.byRow hD0.frow hT (by decide) (by decide)
  have hB1 := hD0.blk.touch hT hD0.b_ne.1
  have c0' : w1.cell? ⟨b, 0, none⟩ = some S.fv := hB1.cell 0
  have f0' := hB1.free 0
  have hHb : w.heap.size ≠ b := by omega
  have hFb : F.g ≠ b := (hF0.blk.ne hD0.blk (by decide))
  have hH2 := hH1.set_other (a := ⟨b, 0, none⟩) hHb (.slice (some ⟨g0, 0, none⟩) (S.files.length - 1) cap)
  have hF2 := hF1.blk.set_other (a := ⟨b, 0, none⟩) hFb (.slice (some ⟨g0, 0, none⟩) (S.files.length - 1) cap)
  have HE := Lib.hid hE
  have c1 : (w1.setCell ⟨b, 0, none⟩ (.slice (some ⟨g0, 0, none⟩) (S.files.length - 1) cap)).cell? ⟨b, 1, none⟩ = some S.wv := hE.at_.blk.cell 1
  have HW0 := Lib.hid (show Below w.heap.size w w0 from hT0.below (Nat.le_refl _) (fun _ _ h => h))
  have hdel := deleteGone_any b _ w.heap.size F.g F.id _ hE.at_ hwl (hH2.cell 0) (hF2.cell 0) hH2.lt hF2.lt (fun e => by have := (HD.out.wrow.lt _ e).2; omega) (fun e => row_ne HD.out.wrow HF.out.blk (by decide) e)
  obtain ⟨wad, wcap, hwv⟩ := row_shape HD.out.wrow
  replace hdel : Calls Tryz.prog 140 #[S.wv, .func (.func 141) #[] #[.pointer (some ⟨w.heap.size, 0, none⟩)]] _ _ := hdel
  have HDel := Lib.hid hdel
  clear hdel hE hown hT hH0 hF0 hfb hH1 hF1 hB1 hHb hFb hH2 hF2 hT0 hD0
  go_upto_region 9 with (fail)
  generalize w1.setCell ⟨b, 0, none⟩ (.slice (some ⟨g0, 0, none⟩) (S.files.length - 1) cap) = w2 at HE HDel c1 ⊢
  rw [hwv] at c1 HDel
  have Hwv := Lib.hid hwv
  clear c0' f0' c0 hwv
  go_wp2_with fail
  refine HDel.out.mono ?_
  rintro e w3 ⟨ad, cap3, rfl, hown, hT, hv⟩
  rw [← Hwv.out] at hT hv
  have hB3 := HE.out.at_.blk.touch hT HE.out.at_.b_ne.2.1
  have c31 : w3.cell? ⟨b, 1, none⟩ = some S.wv := hB3.cell 1
  have f31 := hB3.free 1
  have HEE := Lib.hid ((Dev.after HW0.out HE.out).trans (Dev.filtered HE.out.at_ hT hown (fun k hk => Or.inl (hv k hk))))
  clear hT hv hB3 hown HDel HE HW0 c1
  go_wp2_with fail
  go_ret
  exact ⟨rfl, _, _, HEE.out⟩
theorem findI_none_of {l : List DFile} {s : ByteArray} (ho : Ordered l) (h : isAt l s = false) : findI (l.map DFile.pl) s = none := by
  rw [isAt_isSome ho] at h
  cases hq : findI (l.map DFile.pl) s with
  | none => rfl
  | some i => rw [hq] at h; cases h
theorem remove_any (b n : Nat) (S : DSt) (s : ByteArray) (w : World) (h : DiskAt w b S) (hok : OkP n S.pl) (hn : n ≤ 1000000000) :
    Calls Tryz.prog 78 #[.pointer (some ⟨b, 0, none⟩), .string s] w fun e w' => e = .returned (.int .i64 (S.pl.remove s).1) ∧ ∃ S', Dev b S w S' w' ∧ S'.pl = (S.pl.remove s).2 := by
  obtain ⟨hor, hl, _, _, hwl, _⟩ := hok.ready hn
  cases ho : S.off with
  | true =>
    have e0 : S.pl.remove s = (14, S.pl) := if_pos ho
    rw [e0]
    refine (remove_off b S s w h ho).mono ?_
    rintro e w' ⟨rfl, rfl⟩
    exact ⟨rfl, S, Dev.refl h, rfl⟩
  | false =>
    have hno : ¬ (S.pl.off = true) := by show ¬ (S.off = true); rw [ho]; decide
    rcases isAt_find hor s with ⟨h1, h2⟩ | ⟨hx, h1, hnm, h2⟩
    · have e0 : S.pl.remove s = (8, S.pl) := by
        unfold PS.remove
        rw [if_neg hno, pl_files, findI_none_of hor h1]
      rw [e0]
      refine (remove_none b S s w h hor hl ho h1).mono ?_
      rintro e w' ⟨rfl, rfl⟩
      exact ⟨rfl, S, Dev.refl h, rfl⟩
    · have hid : idAt S.pl (lower S.files s) = S.files[lower S.files s].id := by
        unfold idAt
        rw [pl_files, List.getElem?_map, List.getElem?_eq_getElem hx]; rfl
      have e0 : S.pl.remove s = (0, { S.pl with files := S.pl.files.eraseIdx (lower S.files s), wait := S.pl.wait.filter (keepP S.files[lower S.files s].id) }) := by
        unfold PS.remove
        rw [if_neg hno, pl_files, findI_at hor s hx hnm]
        show (0, _) = _
        rw [hid]
      rw [e0]
      refine (remove_ok b S s w h hor hl hwl ho h1 hx).mono ?_
      rintro e w' ⟨rfl, v, v', hD⟩
      refine ⟨rfl, _, hD, ?_⟩
      show PS.mk ((S.files.eraseIdx _).map DFile.pl) _ _ _ _ _ _ = _
      rw [pl_files, List.eraseIdx_eq_take_drop_succ, List.eraseIdx_eq_take_drop_succ, List.map_append, List.map_take, List.map_drop]
      rfl
theorem OkP.remove {n : Nat} {P : PS} (h : OkP n P) (s : ByteArray) : OkP n (P.remove s).2 := by
  unfold PS.remove
  split
  · exact h
  · split
    · exact h
    · next i _ =>
      have hs : ∀ f ∈ P.files.eraseIdx i, f ∈ P.files := fun f hf => (List.eraseIdx_sublist ..).subset hf
      exact ⟨h.names.sublist (List.eraseIdx_sublist ..), Nat.le_trans (List.eraseIdx_sublist ..).length_le h.flen, Nat.le_trans List.filter_sublist.length_le h.wlen, h.count, h.made, h.most, h.fuse, fun f hf => h.small f (hs f hf), fun p hp => h.wait p (List.mem_filter.1 hp).1⟩
end Go.Proofs.YtaeklleogniimaaGreatDoor
namespace Go.Proofs.YtaeklleogniimaaGreatDoor
open Go.RowKit
set_option linter.unusedVariables false

/-- a device that takes a file in at a place -/
theorem Dev.putFile {w w1 : World} {b i : Nat} {S : DSt} {v : Value} {f : DFile} (h : DiskAt w b S) (hi : i ≤ S.files.length) (hf : FileAt w f) (hap : ∀ g ∈ S.files, Apart f g) (hT : Touch (fun k => S.fv.ownBlock = some k) w w1) (hown : w1.ownsRow 0 133 1 v (S.files.length + 1) ((fptrs S.files).take i ++ .pointer (some ⟨f.g, 0, none⟩) :: (fptrs S.files).drop i)) :
    DiskAt (w1.setCell ⟨b, 0, none⟩ v) b { S with fv := v, files := S.files.take i ++ f :: S.files.drop i } := by
  obtain ⟨h1, h2, h3⟩ := h.b_ne
  have e1 : (fptrs S.files).take i ++ .pointer (some ⟨f.g, 0, none⟩) :: (fptrs S.files).drop i = fptrs (S.files.take i ++ f :: S.files.drop i) := by
    unfold fptrs
    rw [List.map_append, List.map_cons, List.map_take, List.map_drop]
  have e2 : S.files.length + 1 = (S.files.take i ++ f :: S.files.drop i).length := by
    simp only [List.length_append, List.length_take, List.length_cons, List.length_drop]; omega
  rw [e1, e2] at hown
  refine DiskAt.rowed (h.blk.touch hT (fun e => h1 e)) (row_touch h.wrow hT (fun g hg e => row_ne_row h.frow h.wrow (by decide) e hg)) hown (fun g hg => ?_) ?_
  · rcases List.mem_append.1 hg with h5 | h5
    · exact (h.fat g (List.mem_of_mem_take h5)).byRow h.frow hT (by decide) (by decide)
    · rcases List.mem_cons.1 h5 with rfl | h5
      · exact hf.byRow h.frow hT (by decide) (by decide)
      · exact (h.fat g (List.mem_of_mem_drop h5)).byRow h.frow hT (by decide) (by decide)
  · rw [List.pairwise_middle Apart.symm, List.take_append_drop, List.pairwise_cons]
    exact ⟨hap, h.apart⟩
def renamed (S : DSt) (v : Value) (i : Nat) (F : DFile) (t : ByteArray) : DSt :=
  { S with fv := v, files := (S.files.eraseIdx i).take (lower (S.files.eraseIdx i) t) ++ { F with name := t } :: (S.files.eraseIdx i).drop (lower (S.files.eraseIdx i) t) }

def PS.rename (P : PS) (s t : ByteArray) : Int × PS := if P.off then (14, P) else if okName t = false then (1, P) else match findI P.files s with
  | none => (8, P)
  | some i => if (findI P.files t).isSome then (9, P) else match P.files[i]? with
    | none => (8, P)
    | some f => (0, { P with files := (P.files.eraseIdx i).take (lowerP (P.files.eraseIdx i) t) ++ { f with name := t } :: (P.files.eraseIdx i).drop (lowerP (P.files.eraseIdx i) t) })
theorem eraseIdx_pl (l : List DFile) (i : Nat) : (l.eraseIdx i).map DFile.pl = (l.map DFile.pl).eraseIdx i := by
  rw [List.eraseIdx_eq_take_drop_succ, List.eraseIdx_eq_take_drop_succ, List.map_append, List.map_take, List.map_drop]
theorem OkP.rename {n : Nat} {P : PS} (h : OkP n P) (s t : ByteArray) : OkP n (P.rename s t).2 := by
  unfold PS.rename
  split
  · exact h
  · split
    · exact h
    · split
      · exact h
      · next i hi =>
        split
        · exact h
        · next hf =>
          split
          · exact h
          · next f hfi =>
            have hil : i < P.files.length := (List.getElem?_eq_some_iff.1 hfi).1
            have hs : ∀ g ∈ P.files.eraseIdx i, g ∈ P.files := fun g hg => (List.eraseIdx_sublist ..).subset hg
            have hno := findI_isNone (by simpa using hf : (findI P.files t).isSome = false)
            have hfm : f ∈ P.files := List.mem_of_getElem? hfi
            refine ⟨insert_names (new := { f with name := t }) rfl _ (h.names.sublist (List.eraseIdx_sublist ..)) (fun g hg => hno g (hs g hg)), ?_, h.wlen, h.count, h.made, h.most, h.fuse, ?_, h.wait⟩
            · have h1 := h.flen
              have h2 : lowerP (P.files.eraseIdx i) t ≤ (P.files.eraseIdx i).length := List.countP_le_length
              have h3 : (P.files.eraseIdx i).length = P.files.length - 1 := by rw [List.length_eraseIdx, if_pos hil]
              simp only [List.length_append, List.length_take, List.length_cons, List.length_drop]
              omega
            · intro g hg
              rcases List.mem_append.1 hg with h1 | h1
              · exact h.small g (hs g (List.mem_of_mem_take h1))
              · rcases List.mem_cons.1 h1 with rfl | h1
                · exact h.small f hfm
                · exact h.small g (hs g (List.mem_of_mem_drop h1))
end Go.Proofs.YtaeklleogniimaaGreatDoor
