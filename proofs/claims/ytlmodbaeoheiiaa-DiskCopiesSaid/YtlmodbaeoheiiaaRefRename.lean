/- The document's device: Rename. No condition but the sizes. -/
import Derived.Test.YtlmodbaeoheiiaaRefName
namespace Go.Proofs.Ytlmodbaeoheiiaa
open Go.RowKit
set_option linter.unusedVariables false

def QS.create (Q : QS) (s : ByteArray) : Int × QS := if Q.off then (14, Q) else if okName s = false then (1, Q) else if 0 ≤ refIdx Q.files s then (9, Q) else
  (0, { Q with files := Q.files ++ [⟨Q.made, s, ByteArray.empty, ByteArray.empty⟩], made := Q.made + 1 })
theorem info_rfile : (Try.prog.info? 94).map (fun i => (i.zero, i.size, i.bytes)) = some (some (.agg #[.int .i64 0, .string ByteArray.empty, .string ByteArray.empty, .string ByteArray.empty]), 4, 56) := by kernel_rfl
theorem refCreate_off (q : Nat) (R : RSt) (s : ByteArray) (w : World) (h : RefD w q R) (ho : R.off = true) :
    Calls Try.prog 44 #[.pointer (some ⟨q, 0, none⟩), .string s] w fun e w' => e = .returned (.int .i64 14) ∧ w = w' := by
  have d4 := refOff q R w h true ho
  clear h ho
  go_enter Try.func44, Try.ntmps44
  go_wp2_with fail
  go_ret
  exact ⟨rfl, rfl⟩
theorem refCreate_bad (q : Nat) (R : RSt) (s : ByteArray) (w : World) (h : RefD w q R) (ho : R.off = false) (hs : s.size ≤ 9223372036854775807) (hn : okName s = false) :
    Calls Try.prog 44 #[.pointer (some ⟨q, 0, none⟩), .string s] w fun e w' => e = .returned (.int .i64 1) ∧ w = w' := by
  have d4 := refOff q R w h false ho
  have HN := Lib.hid (refName_any s w hs)
  rw [hn] at HN
  clear h ho
  go_enter Try.func44, Try.ntmps44
  go_wp2_with fail
  refine HN.out.mono ?_
  rintro e w' ⟨rfl, rfl⟩
  go_wp2_with fail
  go_ret
  exact ⟨rfl, rfl⟩
theorem refCreate_dup (q : Nat) (R : RSt) (s : ByteArray) (w : World) (h : RefD w q R) (hl : R.files.length ≤ 1000000) (ho : R.off = false) (hs : s.size ≤ 9223372036854775807) (hn : okName s = true) (k : Nat) (hx : refIdx R.files s = k) :
    Calls Try.prog 44 #[.pointer (some ⟨q, 0, none⟩), .string s] w fun e w' => e = .returned (.int .i64 9) ∧ w = w' := by
  have d4 := refOff q R w h false ho
  have HN := Lib.hid (refName_any s w hs)
  rw [hn] at HN
  have HF := Lib.hid (refFind_any q R s w h hl)
  rw [hx] at HF
  clear h ho
  go_enter Try.func44, Try.ntmps44
  go_wp2_with fail
  refine HN.out.mono ?_
  rintro e w' ⟨rfl, rfl⟩
  go_wp2_with fail
  refine HF.out.mono ?_
  rintro e w' ⟨rfl, rfl⟩
  go_wp2_with fail
  go_ret
  exact ⟨rfl, rfl⟩
set_option maxRecDepth 100000 in
set_option maxHeartbeats 1600000 in
theorem refCreate_ok (q : Nat) (R : RSt) (s : ByteArray) (w : World) (h : RefD w q R) (hl : R.files.length ≤ 1000000) (ho : R.off = false) (hs : s.size ≤ 9223372036854775807) (hn : okName s = true) (hx : refIdx R.files s = -1) (hm : 0 ≤ R.made ∧ R.made ≤ 1000000000) :
    Calls Try.prog 44 #[.pointer (some ⟨q, 0, none⟩), .string s] w fun e w' => e = .returned (.int .i64 0) ∧ ∃ R', RDev q R w R' w' ∧ R'.pl = { R.pl with files := R.files ++ [⟨R.made, s, ByteArray.empty, ByteArray.empty⟩], made := R.made + 1 } := by
  have d4 := refOff q R w h false ho
  have HN := Lib.hid (refName_any s w hs)
  rw [hn] at HN
  have HF := Lib.hid (refFind_any q R s w h hl)
  rw [hx] at HF
  have d6 : w.cell? ⟨q, 6, none⟩ = some (.int .i64 R.made) := h.blk.cell 6
  have f0 := h.blk.free 0
  obtain ⟨i0, hi0, hz0, hz1, hz2⟩ := info_parts info_rfile
  have Hi0 := Lib.hid hi0
  have Hown := Lib.hid h.frow
  have hql := h.blk.lt
  have hnq := h.ne.1
  have d0 : w.cell? ⟨q, 0, none⟩ = some R.fv := h.blk.cell 0
  have H := Lib.hid h
  have H63 := Lib.hid (show R.files.length + 1 ≤ maxLen by unfold maxLen; omega)
  have HBY := Lib.hid (show (R.files.length + 1) * 56 ≤ 140737488355328 by omega)
  have HBL := Lib.hid (show ∀ o : Obj, q < (w.alloc o).drew.heap.size from fun o => by
    have : (w.alloc o).drew.heap.size = w.heap.size + 1 := by simp
    omega)
  have HSZ := Lib.hid (show ∀ o : Obj, (w.alloc o).drew.heap.size = w.heap.size + 1 from fun o => by simp)
  have hfa : ∀ o : Obj, (w.alloc o).drew.frozen? ⟨q, 0, none⟩ = false := fun o => (h.blk.alloc o).drew.free 0
  have hfb : ∀ o : Obj, (w.alloc o).frozen? ⟨q, 0, none⟩ = false := fun o => (h.blk.alloc o).free 0
  clear h ho hn hx hi0
  go_enter Try.func44, Try.ntmps44
  go_wp2_with fail
  refine HN.out.mono ?_
  rintro e w' ⟨rfl, rfl⟩
  go_wp2_with fail
  refine HF.out.mono ?_
  rintro e w' ⟨rfl, rfl⟩
  go_upto_region 7 with (fail)
  go_cut [] (fun wx => Hid (∃ v', RDev q R w { R with fv := v', files := R.files ++ [⟨R.made, s, ByteArray.empty, ByteArray.empty⟩] } wx))
  case first =>
    go_region_law
      ((refine step_append_lies _ (by rfl) _ _ _ (by rfl) 0 94 i0 _ 4 56 Try.underlying49 Hi0.out hz0 hz1 hz2 rfl (by decide) R.fv R.files.length (rfsVals R.files) (by rfl) ((Hown.out.alloc _).drew) ⟨w.heap.size, 0, none⟩ 1 1 [.int .i64 R.made, .string s, .string ByteArray.empty, .string ByteArray.empty] (by rfl) (by rfl) (World.news_of_block (cs := #[.int .i64 R.made, .string s, .string ByteArray.empty, .string ByteArray.empty]) (t := 94) (fr := (0, 0)) (heap_alloc_new w _)) (by simp [Value.oneCell']) (by decide) H63.out HBY.out (Nat.zero_le _) (w.heap.size + 1) (HSZ.out _) ?_; intro gg cap w4 hown4 hgrow hat hlt; have hc4 := hgrow.cell_far ⟨q, 0, none⟩ (HBL.out _) (Ne.symm hnq); have hf4 := hgrow.frozen_far ⟨q, 0, none⟩ (HBL.out _) (Ne.symm hnq)))
    all_goals go_wp2_with fail
    all_goals go_meet
    all_goals
      exact ⟨.slice (some ⟨gg, 0, none⟩) (R.files.length + 1) cap, RDev.newFiles H.out (by
        have e1 : (R.files ++ [(⟨R.made, s, ByteArray.empty, ByteArray.empty⟩ : RF)]).length = R.files.length + 1 := by simp
        have e2 : rfsVals (R.files ++ [(⟨R.made, s, ByteArray.empty, ByteArray.empty⟩ : RF)]) = rfsVals R.files ++ [.int .i64 R.made, .string s, .string ByteArray.empty, .string ByteArray.empty] := by unfold rfsVals; simp [rfVals]
        rw [e1, e2]
        exact hown4) (touch_grown (((Touch.refl _ w).alloc _).drew) hgrow (fun g hg => Or.inl hg)) (fun k hk => by
          have e : gg = k := by simpa [Value.ownBlock] using hk
          subst e
          rcases hat with e | e
          · exact Or.inl e
          · right; omega)⟩
  case rest =>
    obtain ⟨v', hR⟩ := hcut.out
    have HR := Lib.hid hR
    have c6 : wc.cell? ⟨q, 6, none⟩ = some (.int .i64 R.made) := HR.out.at_.blk.cell 6
    have f6 := HR.out.at_.blk.free 6
    have HE := Lib.hid (HR.out.trans (RDev.setNum (R' := { R with fv := v', files := R.files ++ [⟨R.made, s, ByteArray.empty, ByteArray.empty⟩], made := R.made + 1 }) HR.out.at_ 6 (.int .i64 (R.made + 1)) rfl rfl rfl rfl rfl))
    clear hcut hR
    go_wp2_with fail
    go_ret
    exact ⟨rfl, _, HE.out, rfl⟩
theorem refCreate_any (q : Nat) (R : RSt) (s : ByteArray) (w : World) (h : RefD w q R) (hl : R.files.length ≤ 1000000) (hs : s.size ≤ 9223372036854775807) (hm : 0 ≤ R.made ∧ R.made ≤ 1000000000) :
    Calls Try.prog 44 #[.pointer (some ⟨q, 0, none⟩), .string s] w fun e w' => e = .returned (.int .i64 (R.pl.create s).1) ∧ ∃ R', RDev q R w R' w' ∧ R'.pl = (R.pl.create s).2 := by
  unfold QS.create
  cases ho : R.off with
  | true =>
    rw [if_pos (show R.pl.off = true from ho)]
    refine (refCreate_off q R s w h ho).mono ?_
    rintro e w' ⟨rfl, rfl⟩
    exact ⟨rfl, R, RDev.refl h, rfl⟩
  | false =>
    rw [if_neg (show ¬ (R.pl.off = true) from by show ¬ (R.off = true); rw [ho]; decide)]
    cases hnm : okName s with
    | false =>
      rw [if_pos rfl]
      refine (refCreate_bad q R s w h ho hs hnm).mono ?_
      rintro e w' ⟨rfl, rfl⟩
      exact ⟨rfl, R, RDev.refl h, rfl⟩
    | true =>
      rw [if_neg (by decide)]
      rcases refIdx_cases R.files s with hx | ⟨k, hx, hk⟩
      · rw [if_neg (by show ¬ (0 ≤ refIdx R.files s); rw [hx]; decide)]
        exact refCreate_ok q R s w h hl ho hs hnm hx hm
      · rw [if_pos (by show 0 ≤ refIdx R.files s; rw [hx]; omega)]
        refine (refCreate_dup q R s w h hl ho hs hnm k hx).mono ?_
        rintro e w' ⟨rfl, rfl⟩
        exact ⟨rfl, R, RDev.refl h, rfl⟩
end Go.Proofs.Ytlmodbaeoheiiaa
namespace Go.Proofs.Ytlmodbaeoheiiaa
open Go.RowKit
set_option linter.unusedVariables false

theorem set_modify {α : Type} {l : List α} {k : Nat} (hk : k < l.length) (F : α → α) (x : α) (h : x = F l[k]) : l.set k x = l.modify k F := by
  subst h
  apply List.ext_getElem?
  intro j
  rw [List.getElem?_set, List.getElem?_modify]
  by_cases e : k = j
  · subst e; simp [hk]
  · simp [e]
def QS.rename (Q : QS) (s t : ByteArray) : Int × QS := if Q.off then (14, Q) else if okName t = false then (1, Q) else if refIdx Q.files s < 0 then (8, Q) else if 0 ≤ refIdx Q.files t then (9, Q) else
  (0, { Q with files := Q.files.modify (refIdx Q.files s).toNat fun f => { f with name := t } })
set_option maxRecDepth 100000 in
set_option maxHeartbeats 800000 in
theorem refRename_any (q : Nat) (R : RSt) (s t : ByteArray) (w : World) (h : RefD w q R) (hl : R.files.length ≤ 1000000) (hs : t.size ≤ 9223372036854775807) :
    Calls Try.prog 46 #[.pointer (some ⟨q, 0, none⟩), .string s, .string t] w fun e w' => e = .returned (.int .i64 (R.pl.rename s t).1) ∧ ∃ R', RDev q R w R' w' ∧ R'.pl = (R.pl.rename s t).2 := by
  have HR := Lib.hid (RDev.refl h)
  cases ho : R.off with
  | true =>
    have d4 := refOff q R w h true ho
    have e0 : R.pl.rename s t = (14, R.pl) := by unfold QS.rename; rw [if_pos (show R.pl.off = true from ho)]
    rw [e0]
    clear h ho e0
    go_enter Try.func46, Try.ntmps46
    go_wp2_with fail
    go_ret
    exact ⟨rfl, R, HR.out, rfl⟩
  | false =>
    have d4 := refOff q R w h false ho
    have hno : ¬ (R.pl.off = true) := by show ¬ (R.off = true); rw [ho]; decide
    have HN := Lib.hid (refName_any t w hs)
    cases hnm : okName t with
    | false =>
      have e0 : R.pl.rename s t = (1, R.pl) := by unfold QS.rename; rw [if_neg hno, if_pos hnm]
      rw [e0]
      rw [hnm] at HN
      clear h ho e0 hnm
      go_enter Try.func46, Try.ntmps46
      go_wp2_with fail
      refine HN.out.mono ?_
      rintro e w' ⟨rfl, rfl⟩
      go_wp2_with fail
      go_ret
      exact ⟨rfl, R, HR.out, rfl⟩
    | true =>
      have hno2 : ¬ (okName t = false) := by rw [hnm]; decide
      rw [hnm] at HN
      have HF := Lib.hid (refFind_any q R s w h hl)
      rcases refIdx_cases R.files s with hx | ⟨k, hx, hk⟩
      · have e0 : R.pl.rename s t = (8, R.pl) := by
          unfold QS.rename
          rw [if_neg hno, if_neg hno2, if_pos (by show refIdx R.files s < 0; rw [hx]; decide)]
        rw [e0]
        rw [hx] at HF
        clear h ho e0 hnm hx
        go_enter Try.func46, Try.ntmps46
        go_wp2_with fail
        refine HN.out.mono ?_
        rintro e w' ⟨rfl, rfl⟩
        go_wp2_with fail
        refine HF.out.mono ?_
        rintro e w' ⟨rfl, rfl⟩
        go_wp2_with fail
        go_ret
        exact ⟨rfl, R, HR.out, rfl⟩
      · have hn8 : ¬ (refIdx R.pl.files s < 0) := by show ¬ (refIdx R.files s < 0); rw [hx]; omega
        have HF2 := Lib.hid (refFind_any q R t w h hl)
        rcases refIdx_cases R.files t with hx2 | ⟨k2, hx2, hk2⟩
        · have e0 : R.pl.rename s t = (0, { R.pl with files := R.files.set k { R.files[k] with name := t } }) := by
            unfold QS.rename
            rw [if_neg hno, if_neg hno2, if_neg hn8, if_neg (by show ¬ (0 ≤ refIdx R.files t); rw [hx2]; decide), set_modify hk (fun f => { f with name := t }) _ rfl]
            have e9 : (refIdx R.pl.files s).toNat = k := by show (refIdx R.files s).toNat = k; rw [hx]; rfl
            rw [e9]
            rfl
          rw [e0]
          rw [hx] at HF
          rw [hx2] at HF2
          obtain ⟨g1, cap, hv, hgl, hc⟩ := rfile_at h k hk
          have c0 : w.cell? ⟨q, 0, none⟩ = some (.slice (some ⟨g1, 0, none⟩) R.files.length cap) := by rw [← hv]; exact h.blk.cell 0
          have c1 : w.cell? ⟨g1, k * 4 + 1, none⟩ = some (.string R.files[k].name) := hc 1 (by omega)
          have f1 : w.frozen? ⟨g1, k * 4 + 1, none⟩ = false := by
            rcases h.frow.2 with ⟨h2, _⟩ | ⟨g', cap', cur, hv', _, hb, _⟩
            · rw [hv] at h2; cases h2
            · rw [hv] at hv'
              injection hv' with e1 e2 e3
              injection e1 with e1
              injection e1 with e1
              subst e1
              exact Lib.frozen_of_heap hb _
          have HD := Lib.hid (RDev.setField h k 1 hk (by decide) { R.files[k] with name := t } (.string t) hv rfl)
          clear h ho e0 hnm hx hx2 hc hv HR
          go_enter Try.func46, Try.ntmps46
          go_wp2_with fail
          refine HN.out.mono ?_
          rintro e w' ⟨rfl, rfl⟩
          go_wp2_with fail
          refine HF.out.mono ?_
          rintro e w' ⟨rfl, rfl⟩
          go_wp2_with fail
          refine HF2.out.mono ?_
          rintro e w' ⟨rfl, rfl⟩
          go_wp2_with fail
          go_ret
          exact ⟨rfl, _, HD.out, rfl⟩
        · have e0 : R.pl.rename s t = (9, R.pl) := by
            unfold QS.rename
            rw [if_neg hno, if_neg hno2, if_neg hn8, if_pos (by show 0 ≤ refIdx R.files t; rw [hx2]; omega)]
          rw [e0]
          rw [hx] at HF
          rw [hx2] at HF2
          clear h ho e0 hnm hx hx2
          go_enter Try.func46, Try.ntmps46
          go_wp2_with fail
          refine HN.out.mono ?_
          rintro e w' ⟨rfl, rfl⟩
          go_wp2_with fail
          refine HF.out.mono ?_
          rintro e w' ⟨rfl, rfl⟩
          go_wp2_with fail
          refine HF2.out.mono ?_
          rintro e w' ⟨rfl, rfl⟩
          go_wp2_with fail
          go_ret
          exact ⟨rfl, R, HR.out, rfl⟩
end Go.Proofs.Ytlmodbaeoheiiaa
