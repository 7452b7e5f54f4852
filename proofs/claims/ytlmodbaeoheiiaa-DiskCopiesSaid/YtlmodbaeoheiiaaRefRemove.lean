/- The document's device: Remove. No condition but the sizes. -/
import Derived.Test.YtlmodbaeoheiiaaInsert
import Derived.Deep.AppendLies
import Derived.Test.YtlmodbaeoheiiaaRefRename
namespace Go.Proofs.Ytlmodbaeoheiiaa
open Go Go.RowKit
set_option linter.unusedVariables false

theorem slice_of_row {w : World} {base : Nat} {e : TypeId} {size : Nat} {v : Value} {n : Nat} {xs : List Value} (h : w.ownsRow base e size v n xs) : ∃ ad cap, v = .slice ad n cap := by
  rcases h.2 with ⟨rfl, rfl⟩ | ⟨g, cap, cur, rfl, _⟩
  · exact ⟨none, 0, rfl⟩
  · exact ⟨_, cap, rfl⟩
theorem step_append_own_at {P : Program} (w : World) {ops : Array Oper} {o : Oper} {a : Act} {K : Act → World → Prop} {Q : Exit → Act → World → Prop} {E : Prop} (hgd : o.guard = none) (s x : Operand) (t : TypeId)
    (ho : o.op = .call { callee := .builtin .append, args := #[s, x], argTypes := #[t, t] })
    (base : Nat) (e : TypeId) (i : TypeInfo) (z : Value) (size bytes : Nat) (ht : P.underlying t = some (.slice e)) (hi : P.info? e = some i) (hz : i.zero = some z)
    (hsize : i.size = size) (hby : i.bytes = bytes) (hzs : z.cells.size = size) (hsz : 0 < size)
    (v : Value) (n : Nat) (xs : List Value) (hs : a.eval s = v) (hown : w.ownsRow base e size v n xs)
    (ad : Addr) (m c : Nat) (news : List Value) (hx : a.eval x = .slice (some ad) m c) (hl : news.length = m * size) (hnews : ∀ j u, news[j]? = some u → w.cell? (ad.add j) = some u) (h1 : ∀ u ∈ news, u.oneCell' = true)
    (h63 : n + m ≤ maxLen) (hbytes : (n + m) * bytes ≤ 140737488355328) (hbase : base ≤ w.heap.size) (H : Nat) (hH : w.heap.size = H)
    (h : ∀ ad' cap' w', w'.ownsRow base e size (.slice ad' (n + m) cap') (n + m) (xs ++ news) → w.grownBy w' v.ownBlock → ((Value.slice ad' (n + m) cap').ownBlock = v.ownBlock ∨ (Value.slice ad' (n + m) cap').ownBlock = some H) → K (a.put o.dst (.slice ad' (n + m) cap')) w') :
    if Region.wanted o (yielded ops a.tmps) = true then Oper.wp P o a w K Q else E := by
  have hw : Region.wanted o (yielded ops a.tmps) = true := by simp [Region.wanted, hgd]
  rw [if_pos hw]
  obtain ⟨v', w', hr, h2, h3, _, h5⟩ := run_append_own_at (P := P) w base t o.type e i z size bytes ht hi hz hsize hby hzs hsz v n xs hown ad m c news hl hnews h1 h63 hbytes hbase
  obtain ⟨ad', cap', rfl⟩ := slice_of_row h2
  unfold Oper.wp execOp
  simp only [ho, resolve, invoke, builtin, Sem.run_bind, Sem.run_pure, Result.andThen_ok, List.map_toArray, List.map_cons, List.map_nil, hs, hx, hr]
  exact h ad' cap' w' h2 h3 (by rw [hH] at h5; exact h5)
end Go.Proofs.Ytlmodbaeoheiiaa
namespace Go.Proofs.Ytlmodbaeoheiiaa
open Go.RowKit
set_option linter.unusedVariables false

theorem info_rpiece : (Try.prog.info? 96).map (fun i => (i.zero, i.size, i.bytes)) = some (some (.agg #[.int .i64 0, .int .i64 0, .string ByteArray.empty]), 3, 32) := by kernel_rfl
def keepR (id : Int) (p : RP) : Bool := !(p.id == id)
def ridAt (Q : QS) (k : Nat) : Int := (Q.files[k]?.map RF.id).getD 0
def QS.remove (Q : QS) (s : ByteArray) : Int × QS := if Q.off then (14, Q) else if refIdx Q.files s < 0 then (8, Q) else
  (0, { Q with files := Q.files.eraseIdx (refIdx Q.files s).toNat, wait := Q.wait.filter (keepR (ridAt Q (refIdx Q.files s).toNat)) })
theorem rfsVals_one (l : List RF) : ∀ v ∈ rfsVals l, v.oneCell' = true := by
  intro v hv
  obtain ⟨p, _, hp⟩ := List.mem_flatMap.1 hv
  simp only [rfVals, List.mem_cons, List.not_mem_nil, or_false] at hp
  rcases hp with rfl | rfl | rfl | rfl <;> rfl
theorem rfilter_take {l : List RP} {f : RP → Bool} {j : Nat} (hj : j < l.length) : (l.take (j + 1)).filter f = (l.take j).filter f ++ if f l[j] = true then [l[j]] else [] := by
  rw [List.take_succ_eq_append_getElem hj, List.filter_append]
  congr 1
  rw [List.filter_cons]
  rfl
theorem rfsVals_append (l m : List RF) : rfsVals (l ++ m) = rfsVals l ++ rfsVals m := by unfold rfsVals; rw [List.flatMap_append]
theorem rfsVals_take (l : List RF) (i : Nat) : (rfsVals l).take (i * 4) = rfsVals (l.take i) := by
  have h : rfsVals l = rfsVals (l.take i) ++ rfsVals (l.drop i) := by rw [← rfsVals_append, List.take_append_drop]
  by_cases hi : i ≤ l.length
  · rw [h, List.take_left' (by rw [rfsVals_length, List.length_take]; omega)]
  · rw [List.take_of_length_le (by rw [rfsVals_length]; omega), List.take_of_length_le (by omega)]
theorem rfsVals_drop (l : List RF) (i : Nat) : (rfsVals l).drop (i * 4) = rfsVals (l.drop i) := by
  have h : rfsVals l = rfsVals (l.take i) ++ rfsVals (l.drop i) := by rw [← rfsVals_append, List.take_append_drop]
  by_cases hi : i ≤ l.length
  · rw [h, List.drop_left' (by rw [rfsVals_length, List.length_take]; omega)]
  · rw [List.drop_eq_nil_of_le (by rw [rfsVals_length]; omega), List.drop_eq_nil_of_le (by omega)]; rfl
set_option maxRecDepth 100000 in
set_option maxHeartbeats 1600000 in
theorem refRemove_ok (q : Nat) (R : RSt) (s : ByteArray) (w : World) (h : RefD w q R) (hl : R.files.length ≤ 1000000) (hwl : R.wait.length ≤ 1000000000) (ho : R.off = false) (k : Nat) (hx : refIdx R.files s = k) (hk : k < R.files.length) :
    Calls Try.prog 45 #[.pointer (some ⟨q, 0, none⟩), .string s] w fun e w' => e = .returned (.int .i64 0) ∧ ∃ R', RDev q R w R' w' ∧ R'.pl = { R.pl with files := R.files.eraseIdx k, wait := R.wait.filter (keepR R.files[k].id) } := by
  have d4 := refOff q R w h false ho
  have HF := Lib.hid (refFind_any q R s w h hl)
  rw [hx] at HF
  obtain ⟨g1, cap, hv, hgl, hc⟩ := rfile_at h k hk
  have c0 : w.cell? ⟨q, 0, none⟩ = some (.slice (some ⟨g1, 0, none⟩) R.files.length cap) := by rw [← hv]; exact h.blk.cell 0
  have f0 := h.blk.free 0
  have hql := h.blk.lt
  have c1 : w.cell? ⟨g1, k * 4, none⟩ = some (.int .i64 R.files[k].id) := hc 0 (by omega)
  have H := Lib.hid h
  have Hv := Lib.hid hv
  generalize R.files[k].id = id at c1 ⊢
  clear h ho hx hc hv
  go_enter Try.func45, Try.ntmps45
  go_wp2_with fail
  refine HF.out.mono ?_
  rintro e w' ⟨rfl, rfl⟩
  obtain ⟨i0, hi0, hz0, hz1, hz2⟩ := info_parts info_rfile
  have Hi0 := Lib.hid hi0
  have HE := Lib.hid (empty_rowD w 94 4)
  have hgne : g1 ≠ w.heap.size := by omega
  have HN1 : Hid (∀ j u, (rfsVals (R.files.take k))[j]? = some u → ((w.alloc (.cells #[] 94)).drew).cell? ((⟨g1, 0, none⟩ : Addr).add j) = some u) := Lib.hid (fun j u hj => by
    obtain ⟨g', cap', hv', _, _, _, _, hc⟩ := row_some H.out.frow (by omega)
    rw [Hv.out] at hv'
    injection hv' with e1 e2 e3
    injection e1 with e1
    injection e1 with e1
    subst e1
    rw [← rfsVals_take, List.getElem?_take] at hj
    split at hj
    · next hlt =>
      rw [addr_add, ((((Below.refl w.heap.size w).alloc (Nat.le_refl _) _).drew).cell (p := ⟨g1, j, none⟩) hgl), hc j (by omega)]
      exact hj
    · cases hj)
  have HN2 : Hid (∀ j u, (rfsVals (R.files.drop (k + 1)))[j]? = some u → w.cell? ⟨g1, (k + 1) * 4 + j, none⟩ = some u) := Lib.hid (fun j u hj => by
    obtain ⟨g', cap', hv', _, _, _, _, hc⟩ := row_some H.out.frow (by omega)
    rw [Hv.out] at hv'
    injection hv' with e1 e2 e3
    injection e1 with e1
    injection e1 with e1
    subst e1
    rw [← rfsVals_drop, List.getElem?_drop] at hj
    have hj4 : (k + 1) * 4 + j < R.files.length * 4 := by
      rcases Nat.lt_or_ge ((k + 1) * 4 + j) (R.files.length * 4) with h | h
      · exact h
      · rw [List.getElem?_eq_none (by rw [rfsVals_length]; exact h)] at hj; cases hj
    rw [hc _ hj4]
    exact hj)
  have L1 := Lib.hid (show (rfsVals (R.files.take k)).length = k * 4 by rw [rfsVals_length, List.length_take]; omega)
  have L2 := Lib.hid (show (rfsVals (R.files.drop (k + 1))).length = (R.files.length - (k + 1)) * 4 by rw [rfsVals_length, List.length_drop])
  have O1 := Lib.hid (rfsVals_one (R.files.take k))
  have O2 := Lib.hid (rfsVals_one (R.files.drop (k + 1)))
  have M1 := Lib.hid (show 0 + k ≤ maxLen by unfold maxLen; omega)
  have M2 := Lib.hid (show (0 + k) * 56 ≤ 140737488355328 by omega)
  obtain ⟨hnc, hcm⟩ : R.files.length ≤ cap ∧ cap ≤ maxLen := by
    obtain ⟨g', cap', hv', _, _, h1, h2, _⟩ := row_some H.out.frow (by omega)
    rw [Hv.out] at hv'
    injection hv' with e1 e2 e3
    subst e3
    exact ⟨h1, h2⟩
  unfold maxLen at hcm
  obtain ⟨A, hA, HN3⟩ : ∃ A : Addr, (if cap = k + 1 then some (⟨g1, 0, none⟩ : Addr) else some ⟨g1, (k + 1) * 4, none⟩) = some A ∧ Hid (A.block = g1 ∧ ∀ j u, (rfsVals (R.files.drop (k + 1)))[j]? = some u → w.cell? (A.add j) = some u) := by
    by_cases h : cap = k + 1
    · refine ⟨⟨g1, 0, none⟩, by simp [h], rfl, fun t u hu => ?_⟩
      rw [List.drop_eq_nil_of_le (by omega)] at hu
      simp [rfsVals] at hu
    · refine ⟨⟨g1, (k + 1) * 4, none⟩, by simp [h], rfl, fun t u hu => ?_⟩
      rw [Addr.add_lit]
      exact HN2.out t u hu
  have hkc : k ≤ cap := by omega
  have hjc : k + 1 ≤ cap := by omega
  have hjn : k + 1 ≤ R.files.length := by omega
  have hjn2 : (k : Int) + 1 ≤ (R.files.length : Int) := by omega
  have hjc2 : (k : Int) + 1 ≤ (cap : Int) := by omega
  have hji : ((k : Int) + 1).toNat = k + 1 := by omega
  have hj0 : (0 : Int) ≤ (k : Int) + 1 := by omega
  have hwr : IntKind.i64.wrap ((k : Int) + 1) = (k : Int) + 1 := IntWalk.i64_in _ (by omega)
  have HW4 := Lib.hid (fun (w4 : World) (h4 : ((w.alloc (.cells #[] 94)).drew).grownBy w4 (some w.heap.size)) => (show w4.cell? ⟨q, 0, none⟩ = some (.slice (some ⟨g1, 0, none⟩) R.files.length cap) ∧ w4.frozen? ⟨q, 0, none⟩ = false ∧ (∀ j u, (rfsVals (R.files.drop (k + 1)))[j]? = some u → w4.cell? (A.add j) = some u) ∧ w.heap.size + 1 ≤ w4.heap.size ∧ Below w.heap.size w w4 from by
    have hB : Below w.heap.size w w4 := (((Below.refl w.heap.size w).alloc (Nat.le_refl _) _).drew).grown h4 (by simp) (fun k' hk' => by cases hk'; exact Nat.le_refl _)
    have hR := H.out.below hB
    have hz := h4.size
    refine ⟨?_, hR.blk.free 0, fun j u hj => ?_, by simp at hz; omega, hB⟩
    · rw [← Hv.out]; exact hR.blk.cell 0
    · have e : (A.add j).block = g1 := by
        have := HN3.out.1
        unfold Addr.add
        split
        · exact this
        · exact this
      rw [hB.cell (p := A.add j) (by rw [e]; exact hgl)]
      exact HN3.out.2 j u hj))
  have HW5 := Lib.hid (fun (w4 w5 : World) (row : Option Nat) (h4 : ((w.alloc (.cells #[] 94)).drew).grownBy w4 (some w.heap.size)) (h5 : w4.grownBy w5 row) (hr : row = some w.heap.size ∨ row = some (w.heap.size + 1)) => (show w5.cell? ⟨q, 0, none⟩ = some (.slice (some ⟨g1, 0, none⟩) R.files.length cap) ∧ w5.frozen? ⟨q, 0, none⟩ = false ∧ Below w.heap.size w w5 from by
    have hB4 := (HW4.out w4 h4).2.2.2.2
    have hB : Below w.heap.size w w5 := hB4.grown h5 hB4.size (fun k' hk' => by rcases hr with rfl | rfl <;> (cases hk'; omega))
    have hR := H.out.below hB
    exact ⟨by rw [← Hv.out]; exact hR.blk.cell 0, hR.blk.free 0, hB⟩))
  have M3 := Lib.hid (show k + (R.files.length - (k + 1)) ≤ maxLen by unfold maxLen; omega)
  have M4 := Lib.hid (show (k + (R.files.length - (k + 1))) * 56 ≤ 140737488355328 by omega)
  have HFIN := Lib.hid (fun (w5 : World) (v : Value) (hB : Below w.heap.size w w5) (ho : w5.ownsRow w.heap.size 94 4 v (k + (R.files.length - (k + 1))) (rfsVals (R.files.take k) ++ rfsVals (R.files.drop (k + 1)))) => (show RDev q R w { R with fv := v, files := R.files.eraseIdx k } (w5.setCell ⟨q, 0, none⟩ v) from by
    refine RDev.newFiles H.out ?_ (Touch.of_below hB) (fun k' hk' => Or.inr (ho.lt k' hk').1)
    rw [← rfsVals_append, ← List.eraseIdx_eq_take_drop_succ] at ho
    have e : (R.files.eraseIdx k).length = k + (R.files.length - (k + 1)) := by rw [List.length_eraseIdx, if_pos hk]; omega
    rw [e]
    exact row_base ho (Nat.zero_le _)))
  clear hi0
  go_upto_region 7 with (fail)
  go_cut [] (fun wx => Hid (∃ v', RDev q R w { R with fv := v', files := R.files.eraseIdx k } wx))
  case first =>
    go_region_law
      (first
        | (refine step_append_own_at _ (by rfl) (.tmp 27) (.tmp 33) _ (by rfl) w.heap.size 94 i0 _ 4 56 Try.underlying49 Hi0.out hz0 hz1 hz2 rfl (by decide) (.slice (some ⟨w.heap.size, 0, none⟩) 0 0) 0 [] (by rfl) (HE.out.drew) ⟨g1, 0, none⟩ k cap (rfsVals (R.files.take k)) (by rfl) L1.out HN1.out O1.out M1.out M2.out (by simp) (w.heap.size + 1) (by simp) ?_; intro ad4 cap4 w4 hown4 hgrow4 hat4; rw [Nat.zero_add] at hown4 hat4; obtain ⟨hc4, hf4, hn4, hz4, hb4⟩ := HW4.out w4 hgrow4)
        | (refine step_append_own_at _ (by rfl) (.tmp 34) (.tmp 41) _ (by rfl) w.heap.size 94 i0 _ 4 56 Try.underlying49 Hi0.out hz0 hz1 hz2 rfl (by decide) (.slice ad4 k cap4) k (rfsVals (R.files.take k)) (by rfl) hown4 A (R.files.length - (k + 1)) (cap - (k + 1)) (rfsVals (R.files.drop (k + 1))) (by rfl) L2.out hn4 O2.out M3.out M4.out (by omega) w4.heap.size rfl ?_; intro ad5 cap5 w5 hown5 hgrow5 hat5; obtain ⟨hc5, hf5, hb5⟩ := HW5.out w4 w5 _ hgrow4 hgrow5 hat4))
    all_goals go_wp2_with fail
    all_goals go_meet
    all_goals exact ⟨_, HFIN.out w5 _ hb5 hown5⟩
  case rest =>
    obtain ⟨v', hR⟩ := hcut.out
    have HR := Lib.hid hR
    clear hcut hR HFIN HW4 HW5 HN1 HN2 HN3 HE L1 L2 O1 O2 M1 M2 M3 M4 c0 c1 f0 hA hwr hz0 hz1 hz2 Hi0 HF d4 hkc hjc hjn hjn2 hjc2 hji hj0 hgne
    obtain ⟨wa, wcap, hwv⟩ := row_shape HR.out.at_.wrow
    have Hwv := Lib.hid hwv
    have hqc := HR.out.at_.blk.lt
    have HC1 : Hid (wc.cell? ⟨q, 1, none⟩ = some (.slice wa R.wait.length wcap)) := Lib.hid (by rw [← Hwv.out]; exact HR.out.at_.blk.cell 1)
    clear hwv
    go_wp2_with fail
    go_loopw [7, 8] (fun u i wr => ∃ (j m : Nat), j ≤ R.wait.length ∧ i = .int .i64 j ∧ Hid (m = ((R.wait.take j).filter (keepR id)).length) ∧ m ≤ j ∧ Hid (wr.ownsRow wc.heap.size 96 3 u m (rpsVals ((R.wait.take j).filter (keepR id)))) ∧ Hid (Below wc.heap.size wc wr)) (fun _ i _ => R.wait.length - (intOf i).toNat)
    case atStart => exact ⟨0, 0, Nat.zero_le _, rfl, Lib.hid (by simp), Nat.le_refl _, Lib.hid (World.ownsRow_nil _ _ _ _), Lib.hid (Below.refl _ _)⟩
    case round =>
      obtain ⟨j, m, hj, rfl, Hm, hmj, HO, HB⟩ := hrel
      have c1 := (HB.out.cell (p := ⟨q, 1, none⟩) hqc).trans HC1.out
      by_cases hlt : j < R.wait.length
      · obtain ⟨g, cap', hv', hgl2, hc⟩ := rpiece_at HR.out.at_ j hlt
        replace hv' : R.wv = .slice (some ⟨g, 0, none⟩) R.wait.length cap' := hv'
        rw [Hwv.out] at hv'
        injection hv' with hv1 hv3 hv2
        clear hv3
        subst hv1; subst hv2
        have Hft := Lib.hid (rfilter_take (f := keepR id) hlt)
        replace hc : ∀ t, t < 3 → wc.cell? ⟨g, j * 3 + t, none⟩ = (rpVals R.wait[j])[t]? := hc
        generalize R.wait[j] = p at hc Hft
        have hc0 : wr.cell? ⟨g, j * 3, none⟩ = some (.int .i64 p.id) := (HB.out.cell (p := ⟨g, j * 3, none⟩) hgl2).trans (hc 0 (by omega))
        have hc1 : wr.cell? ⟨g, j * 3 + 1, none⟩ = some (.int .i64 p.at_) := (HB.out.cell (p := ⟨g, j * 3 + 1, none⟩) hgl2).trans (hc 1 (by omega))
        have hc2 : wr.cell? ⟨g, j * 3 + 2, none⟩ = some (.string p.text) := (HB.out.cell (p := ⟨g, j * 3 + 2, none⟩) hgl2).trans (hc 2 (by omega))
        obtain ⟨ua, uc, hu⟩ := row_shape HO.out
        subst hu
        have hown := HO.out
        clear hc HO
        by_cases hid : p.id = id
        · have hbe : (p.id == id) = true := by simpa using hid
          have Hk : Hid ((R.wait.take (j + 1)).filter (keepR id) = (R.wait.take j).filter (keepR id)) := Lib.hid (by
            rw [Hft.out, if_neg (by unfold keepR; rw [hbe]; decide), List.append_nil])
          have HO := Lib.hid hown
          clear hown
          go_wp2_with fail
          go_roundw
          case rel => exact ⟨j + 1, m, hlt, by go_num, Lib.hid (by rw [Hk.out]; exact Hm.out), by omega, Lib.hid (by rw [Hk.out]; exact HO.out), HB⟩
          case measure => simp [intOf]; omega
        · have hbe : (p.id == id) = false := beq_eq_false_iff_ne.2 hid
          have Hk : Hid ((R.wait.take (j + 1)).filter (keepR id) = (R.wait.take j).filter (keepR id) ++ [p]) := Lib.hid (by
            rw [Hft.out, if_pos (by unfold keepR; rw [hbe]; decide)])
          go_wp2_with (at_builtin; refine append_one rfl _ _ 50 rfl wc.heap.size 96 3 32 Try.underlying50 _ info_rpiece rfl (by decide) _ _ _ rfl hown [.int .i64 p.id, .int .i64 p.at_, .string p.text] rfl rfl (by simp [Value.oneCell']) ?c1 ?c2 ?c3 ?_)
          case c1 => unfold maxLen; omega
          case c2 => omega
          case c3 => exact HB.out.size
          intro v' w1 hown3 hb3
          have HO4 : Hid (w1.ownsRow wc.heap.size 96 3 v' (m + 1) (rpsVals ((R.wait.take (j + 1)).filter (keepR id)))) := Lib.hid (by
            rw [Hk.out]
            have e : rpsVals ((R.wait.take j).filter (keepR id) ++ [p]) = rpsVals ((R.wait.take j).filter (keepR id)) ++ [.int .i64 p.id, .int .i64 p.at_, .string p.text] := by unfold rpsVals; simp [rpVals]
            rw [e]
            exact hown3)
          have HB4 := Lib.hid (HB.out.trans hb3)
          clear hown3 hown hb3
          go_wp2_with fail
          go_roundw
          case rel => exact ⟨j + 1, m + 1, hlt, by go_num, Lib.hid (by rw [Hk.out, List.length_append, Hm.out]; rfl), by omega, HO4, HB4⟩
          case measure => simp [intOf]; omega
      · obtain rfl : j = R.wait.length := by omega
        have hown := HO.out
        rw [List.take_length] at hown Hm
        have HO := Lib.hid hown
        obtain ⟨ua, uc, hu⟩ := row_shape HO.out
        subst hu
        have HE := Lib.hid (HR.out.trans (RDev.newWait HR.out.at_ (v := .slice ua m uc) (ps := R.wait.filter (keepR id)) (w3 := wr) (by rw [← Hm.out]; exact row_base HO.out (Nat.zero_le _)) (Touch.of_below HB.out) (fun k hk => Or.inr (HO.out.lt k hk).1)))
        have f1 := (HR.out.at_.below HB.out).blk.free 1
        clear hown HO
        go_wp2_with fail
        go_ret
        exact ⟨rfl, _, HE.out, rfl⟩
theorem refRemove_any (q : Nat) (R : RSt) (s : ByteArray) (w : World) (h : RefD w q R) (hl : R.files.length ≤ 1000000) (hwl : R.wait.length ≤ 1000000000) :
    Calls Try.prog 45 #[.pointer (some ⟨q, 0, none⟩), .string s] w fun e w' => e = .returned (.int .i64 (R.pl.remove s).1) ∧ ∃ R', RDev q R w R' w' ∧ R'.pl = (R.pl.remove s).2 := by
  have HR := Lib.hid (RDev.refl h)
  cases ho : R.off with
  | true =>
    have d4 := refOff q R w h true ho
    have e0 : R.pl.remove s = (14, R.pl) := by unfold QS.remove; rw [if_pos (show R.pl.off = true from ho)]
    rw [e0]
    clear h ho e0
    go_enter Try.func45, Try.ntmps45
    go_wp2_with fail
    go_ret
    exact ⟨rfl, R, HR.out, rfl⟩
  | false =>
    have hno : ¬ (R.pl.off = true) := by show ¬ (R.off = true); rw [ho]; decide
    rcases refIdx_cases R.files s with hx | ⟨k, hx, hk⟩
    · have e0 : R.pl.remove s = (8, R.pl) := by
        unfold QS.remove
        rw [if_neg hno, if_pos (by show refIdx R.files s < 0; rw [hx]; decide)]
      rw [e0]
      have d4 := refOff q R w h false ho
      have HF := Lib.hid (refFind_any q R s w h hl)
      rw [hx] at HF
      clear h ho e0 hx
      go_enter Try.func45, Try.ntmps45
      go_wp2_with fail
      refine HF.out.mono ?_
      rintro e w' ⟨rfl, rfl⟩
      go_wp2_with fail
      go_ret
      exact ⟨rfl, R, HR.out, rfl⟩
    · have e0 : R.pl.remove s = (0, { R.pl with files := R.files.eraseIdx k, wait := R.wait.filter (keepR R.files[k].id) }) := by
        unfold QS.remove
        rw [if_neg hno, if_neg (by show ¬ (refIdx R.files s < 0); rw [hx]; omega)]
        have e9 : (refIdx R.pl.files s).toNat = k := by show (refIdx R.files s).toNat = k; rw [hx]; rfl
        have e8 : ridAt R.pl k = R.files[k].id := by
          unfold ridAt
          show (R.files[k]?.map RF.id).getD 0 = _
          rw [List.getElem?_eq_getElem hk]; rfl
        rw [e9, e8]
        rfl
      rw [e0]
      exact refRemove_ok q R s w h hl hwl ho k hx hk
end Go.Proofs.Ytlmodbaeoheiiaa
