/- The walk of the statement's sends: it tells a bool at whatev -/
import Derived.Test.YtaemlplcjjbamaaGreatDoorBLRight
namespace Go.Proofs.YtaemlplcjjbamaaGreatDoor
open Go.Lib (hid)
set_option maxRecDepth 100000
set_option maxHeartbeats 8000000
open Go Go.RowKit
set_option linter.unusedVariables false
variable {P : Program} {Q : Exit → Act → World → Prop} {fuel i k : Nat} {listed : Array Bool} {oi : Oper} {ops : Array Oper} {rest : List Oper} {w : World}
theorem held_skipL {md : Region.Mode} {S : World → Prop} {a : Act} (hi : ops.toList.drop i = oi :: rest)
  (hs : Region.noSelect ops = true) (hf : Region.free md ops listed i = true) (hr : (Region.ready md ops listed).contains i = true)
  (hQ : ∀ c a w, Q (.panic c) (a.put oi.dst undef) w → Q (.panic c) a w) (hw : Region.wanted oi (yielded ops a.tmps) = false) (hS : S w)
  (h : wpAnyH P md ops Q S fuel (listed.setIfInBounds i true) (a.put oi.dst undef) w) : wpAnyH P md ops Q S (fuel + 1) listed a w :=
 wpAnyH_take (zCi hi) hs hf hr hQ (.inr ⟨hw, rfl⟩) hS h
theorem msgsL_at {L : List MG} {m : MG} (h : L[k]? = some m) (j : Nat) (hj : j < 14) : (msgsV L)[k * 14 + j]? = m.vals[j]? := by
 induction L generalizing k with
 | nil => simp at h
 | cons y L ih =>
  have e : msgsV (y :: L) = y.vals ++ msgsV L := rfl
  have hy : y.vals.length = 14 := rfl
  cases k with
  | zero =>
   simp at h
   subst h
   rw [e, List.getElem?_append_left (by rw [hy]; omega)]
   congr 1
   omega
  | succ k =>
   have h' : L[k]? = some m := by simpa using h
   rw [e, List.getElem?_append_right (by rw [hy]; omega), hy, show (k + 1) * 14 + j - 14 = k * 14 + j by omega]
   exact ih h'
theorem lsends_any (wb c bk B np : Nat) (sa : Option Addr) (sc : Nat) (id : Int) (av : Value) (L : List MG) (S : CSt) (w : World)
  (hW : Blk w wb (zCY c bk id (np : Int) (.slice sa L.length sc) av) 43) (hC : zAb w c S) (hn : 1 ≤ S.n)
  (hS : w.ownsRow B 30 14 (.slice sa L.length sc) L.length (msgsV L)) (hL : ∀ m ∈ L, m.ll = 0) (hl : L.length ≤ 1000) :
  Calls Tryz.prog 28 #[.pointer (some ⟨wb, 0, none⟩)] w (ABool w) := by
 have HW := hid hW
 have HC := hid hC
 have HS := hid hS
 have HLv := hid hL
 clear hW hC hS hL
 go_enter Tryz.func28, Tryz.ntmps28
 go_wp2
 go_loopw [3, 4, 5] (fun i _ _ wr => ∃ k : Nat, i = .int .i64 k ∧ k ≤ L.length ∧ Below w.heap.size w wr) (fun i _ _ _ => L.length - (intOf i).toNat)
 case atStart => exact ⟨0, rfl, Nat.zero_le _, Below.refl _ _⟩
 case round =>
  obtain ⟨k, rfl, hk, hbr⟩ := hrel
  have hW2 := HW.out.below hbr
  have c4 : wr.cell? ⟨wb, 4, none⟩ = some (.slice sa L.length sc) := hW2.cell 4
  by_cases hlt : k < L.length
  ·have hrow := zAc HS.out hbr
   obtain ⟨g, cap, hsv, hg0, hg, _, _, hcell⟩ := zAz hrow (by omega)
   have hsa : sa = some ⟨g, 0, none⟩ := by injection hsv
   subst hsa
   obtain ⟨m, hm⟩ : ∃ m, L[k]? = some m := ⟨_, List.getElem?_eq_getElem hlt⟩
   have hLm := HLv.out m (List.mem_of_getElem? hm)
   have hx : ∀ j, j < 14 → wr.cell? ⟨g, k * 14 + j, none⟩ = m.vals[j]? := fun j hj => (hcell (k * 14 + j) (by omega)).trans (msgsL_at hm j hj)
   have x0 : wr.cell? ⟨g, k * 14, none⟩ = some (.int .i64 m.k) := hx 0 (by omega)
   have x1 : wr.cell? ⟨g, k * 14 + 1, none⟩ = some (.int .i64 m.fr) := hx 1 (by omega)
   have x2 : wr.cell? ⟨g, k * 14 + 2, none⟩ = some (.int .i64 m.to_) := hx 2 (by omega)
   have x3 : wr.cell? ⟨g, k * 14 + 3, none⟩ = some (.int .i64 m.bal) := hx 3 (by omega)
   have x4 : wr.cell? ⟨g, k * 14 + 4, none⟩ = some (.int .i64 m.gen) := hx 4 (by omega)
   have x5 : wr.cell? ⟨g, k * 14 + 5, none⟩ = some (.int .i64 m.bas) := hx 5 (by omega)
   have x6 : wr.cell? ⟨g, k * 14 + 6, none⟩ = some (.int .i64 m.fl) := hx 6 (by omega)
   have x7 : wr.cell? ⟨g, k * 14 + 7, none⟩ = some (.int .i64 m.tp) := hx 7 (by omega)
   have x8 : wr.cell? ⟨g, k * 14 + 8, none⟩ = some (.int .i64 m.rd) := hx 8 (by omega)
   have x9 : wr.cell? ⟨g, k * 14 + 9, none⟩ = some (.string m.mrk) := hx 9 (by omega)
   have x10 : wr.cell? ⟨g, k * 14 + 10, none⟩ = some (.int .i64 m.pa) := hx 10 (by omega)
   have x11 : wr.cell? ⟨g, k * 14 + 11, none⟩ = some (.int .i64 m.po) := hx 11 (by omega)
   have x12 : wr.cell? ⟨g, k * 14 + 12, none⟩ = some (.string m.pt) := hx 12 (by omega)
   have x13 : wr.cell? ⟨g, k * 14 + 13, none⟩ = some (.slice m.la m.ll m.lc) := hx 13 (by omega)
   have HLm := hid hLm
   clear hx hcell hrow hsv hm hLm
   have hbA := hbr.alloc hbr.size (.cells #[.int .i64 m.k, .int .i64 m.fr, .int .i64 m.to_, .int .i64 m.bal, .int .i64 m.gen, .int .i64 m.bas, .int .i64 m.fl, .int .i64 m.tp, .int .i64 m.rd, .string m.mrk, .int .i64 m.pa, .int .i64 m.po, .string m.pt, .slice m.la m.ll m.lc] 30)
   have QA := hid (show Blk (wr.alloc (.cells #[.int .i64 m.k, .int .i64 m.fr, .int .i64 m.to_, .int .i64 m.bal, .int .i64 m.gen, .int .i64 m.bas, .int .i64 m.fl, .int .i64 m.tp, .int .i64 m.rd, .string m.mrk, .int .i64 m.pa, .int .i64 m.po, .string m.pt, .slice m.la m.ll m.lc] 30)) wr.heap.size [.int .i64 m.k, .int .i64 m.fr, .int .i64 m.to_, .int .i64 m.bal, .int .i64 m.gen, .int .i64 m.bas, .int .i64 m.fl, .int .i64 m.tp, .int .i64 m.rd, .string m.mrk, .int .i64 m.pa, .int .i64 m.po, .string m.pt, .slice m.la m.ll m.lc] 30 from Blk.new wr [.int .i64 m.k, .int .i64 m.fr, .int .i64 m.to_, .int .i64 m.bal, .int .i64 m.gen, .int .i64 m.bas, .int .i64 m.fl, .int .i64 m.tp, .int .i64 m.rd, .string m.mrk, .int .i64 m.pa, .int .i64 m.po, .string m.pt, .slice m.la m.ll m.lc] 30)
   have HWA := hid (hW2.alloc (.cells #[.int .i64 m.k, .int .i64 m.fr, .int .i64 m.to_, .int .i64 m.bal, .int .i64 m.gen, .int .i64 m.bas, .int .i64 m.fl, .int .i64 m.tp, .int .i64 m.rd, .string m.mrk, .int .i64 m.pa, .int .i64 m.po, .string m.pt, .slice m.la m.ll m.lc] 30))
   have HCA := hid ((HC.out.below hbr).alloc (.cells #[.int .i64 m.k, .int .i64 m.fr, .int .i64 m.to_, .int .i64 m.bal, .int .i64 m.gen, .int .i64 m.bas, .int .i64 m.fl, .int .i64 m.tp, .int .i64 m.rd, .string m.mrk, .int .i64 m.pa, .int .i64 m.po, .string m.pt, .slice m.la m.ll m.lc] 30))
   have hgl : g < wr.heap.size := hg
   go_upto_region 5 with fail
   generalize wr.alloc (.cells #[.int .i64 m.k, .int .i64 m.fr, .int .i64 m.to_, .int .i64 m.bal, .int .i64 m.gen, .int .i64 m.bas, .int .i64 m.fl, .int .i64 m.tp, .int .i64 m.rd, .string m.mrk, .int .i64 m.pa, .int .i64 m.po, .string m.pt, .slice m.la m.ll m.lc] 30) = wA at hbA QA HWA HCA ⊢
   generalize wr.heap.size = q at QA hgl ⊢
   have HK := hid (show ∀ w', Below wA.heap.size wA w' → (w'.cell? ⟨q, 0, none⟩ = some (.int .i64 m.k) ∧ w'.cell? ⟨q, 1, none⟩ = some (.int .i64 m.fr) ∧ w'.cell? ⟨q, 2, none⟩ = some (.int .i64 m.to_) ∧ w'.cell? ⟨q, 3, none⟩ = some (.int .i64 m.bal) ∧ w'.cell? ⟨q, 4, none⟩ = some (.int .i64 m.gen) ∧ w'.cell? ⟨q, 5, none⟩ = some (.int .i64 m.bas) ∧ w'.cell? ⟨q, 6, none⟩ = some (.int .i64 m.fl) ∧ w'.cell? ⟨q, 7, none⟩ = some (.int .i64 m.tp) ∧ w'.cell? ⟨q, 8, none⟩ = some (.int .i64 m.rd) ∧ w'.cell? ⟨q, 9, none⟩ = some (.string m.mrk) ∧ w'.cell? ⟨q, 10, none⟩ = some (.int .i64 m.pa) ∧ w'.cell? ⟨q, 11, none⟩ = some (.int .i64 m.po) ∧ w'.cell? ⟨q, 12, none⟩ = some (.string m.pt) ∧ w'.cell? ⟨q, 13, none⟩ = some (.slice m.la m.ll m.lc) ∧ w'.cell? ⟨wb, 0, none⟩ = some (.pointer (some ⟨c, 0, none⟩)) ∧ w'.cell? ⟨wb, 2, none⟩ = some (.int .i64 id) ∧ w'.cell? ⟨wb, 3, none⟩ = some (.int .i64 (np : Int))) from fun w' hb => ⟨(QA.out.below hb).cell 0, (QA.out.below hb).cell 1, (QA.out.below hb).cell 2, (QA.out.below hb).cell 3, (QA.out.below hb).cell 4, (QA.out.below hb).cell 5, (QA.out.below hb).cell 6, (QA.out.below hb).cell 7, (QA.out.below hb).cell 8, (QA.out.below hb).cell 9, (QA.out.below hb).cell 10, (QA.out.below hb).cell 11, (QA.out.below hb).cell 12, (QA.out.below hb).cell 13, (HWA.out.below hb).cell 0, (HWA.out.below hb).cell 2, (HWA.out.below hb).cell 3⟩)
   have HRt := hid (fun w1 => lright_any m HLm.out w1)
   have HBl := hid (fun w' (hb : Below wA.heap.size wA w') => zBP c S w' (HCA.out.below hb) hn)
   have hk0 := HK.out wA.drew (Below.refl _ _).drew
   have hkA := HK.out wA (Below.refl _ _)
   have q0 := hkA.1
   clear x0 x1 x2 x3 x4 x5 x6 x7 x8 x9 x10 x11 x12 x13 c4 hW2 hbr hgl QA HWA HCA hkA
   go_cut [5] (fun v wx => ∃ fb : Bool, v = .bool fb ∧ wA = wx)
   case first =>
    cases e9 : (m.k == 9) with
    | true =>
     go_wp2_with fail
     go_meet
     exact ⟨_, rfl, rfl⟩
    | false =>
     cases e13 : (m.k == 13) with
     | true =>
      go_wp2_with fail
      go_meet
      exact ⟨_, rfl, rfl⟩
     | false =>
      go_wp2_with fail
      go_meet
      exact ⟨_, rfl, rfl⟩
   case rest =>
    obtain ⟨fb, rfl, rfl⟩ := hcut
    clear q0
    go_upto_region 6 with fail
    refine wp_region_noPanic ?_
    refine wp_region_held_drew (S := (fun w' => w'.cell? ⟨q, 0, none⟩ = some (.int .i64 m.k) ∧ w'.cell? ⟨q, 1, none⟩ = some (.int .i64 m.fr) ∧ w'.cell? ⟨q, 2, none⟩ = some (.int .i64 m.to_) ∧ w'.cell? ⟨q, 3, none⟩ = some (.int .i64 m.bal) ∧ w'.cell? ⟨q, 4, none⟩ = some (.int .i64 m.gen) ∧ w'.cell? ⟨q, 5, none⟩ = some (.int .i64 m.bas) ∧ w'.cell? ⟨q, 6, none⟩ = some (.int .i64 m.fl) ∧ w'.cell? ⟨q, 7, none⟩ = some (.int .i64 m.tp) ∧ w'.cell? ⟨q, 8, none⟩ = some (.int .i64 m.rd) ∧ w'.cell? ⟨q, 9, none⟩ = some (.string m.mrk) ∧ w'.cell? ⟨q, 10, none⟩ = some (.int .i64 m.pa) ∧ w'.cell? ⟨q, 11, none⟩ = some (.int .i64 m.po) ∧ w'.cell? ⟨q, 12, none⟩ = some (.string m.pt) ∧ w'.cell? ⟨q, 13, none⟩ = some (.slice m.la m.ll m.lc) ∧ w'.cell? ⟨wb, 0, none⟩ = some (.pointer (some ⟨c, 0, none⟩)) ∧ w'.cell? ⟨wb, 2, none⟩ = some (.int .i64 id) ∧ w'.cell? ⟨wb, 3, none⟩ = some (.int .i64 (np : Int)))) (by kernel_rfl) ?_ (fun hHeld => ?_)
    ·((try dsimp only); (first | with_reducible exact hk0 | with_reducible exact HK.out _ (by assumption) | go_keep))
    refine htk 0 (v := ?_) (hy := fun w hSw => ?_) (h := ?_)
    rotate_left
    ·((try dsimp only at hSw); go_simp; (try with_reducible rfl))
    (try simp only [Act.put, List.setIfInBounds_toArray, List.set_cons_zero, List.set_cons_succ])
    refine hon 1 (h := fun K hK => ?_)
    go_simp
    go_at_call 46
    refine (HRt.out _).mono ?_
    rintro e wR ⟨⟨rb, rfl⟩, hbR⟩
    have hbR2 := zAd ((Below.refl wA.heap.size wA).drew) hbR
    go_wp2_with fail
    refine hK.out _ _ ?_ (fun hHeld => ?_)
    ·((try dsimp only); (first | with_reducible exact hk0 | with_reducible exact HK.out _ (by assumption) | go_keep))
    clear hK K
    (try simp only [Act.put, List.setIfInBounds_toArray, List.set_cons_zero, List.set_cons_succ])
    cases rb
    rotate_left
    cases e1 : (m.fr != id)
    cases hv0 : decide (m.to_ < 0)
    cases hv4 : decide ((np : Int) ≤ m.to_)
    cases fb
    cases e2 : (m.bal != S.ballot)
    all_goals (refine htk 2 (v := ?_) (hy := fun w hSw => ?_) (h := ?_); rotate_left; (focus ((try dsimp only at hSw); go_simp; (try with_reducible rfl))); (try simp only [Act.put, List.setIfInBounds_toArray, List.set_cons_zero, List.set_cons_succ]); all_goals skip)
    all_goals (refine htk 3 (v := ?_) (hy := fun w hSw => ?_) (h := ?_); rotate_left; (focus ((try dsimp only at hSw); go_simp; (try with_reducible rfl))); (try simp only [Act.put, List.setIfInBounds_toArray, List.set_cons_zero, List.set_cons_succ]); all_goals skip)
    iterate 6 ((focus (refine htk 4 (v := ?_) (hy := fun w hSw => ?_) (h := ?_); rotate_left; (focus ((try dsimp only at hSw); go_simp; (try with_reducible rfl))); (try simp only [Act.put, List.setIfInBounds_toArray, List.set_cons_zero, List.set_cons_succ]); all_goals skip)); rotate_left)
    iterate 1 ((focus (refine hsk 4 (h := ?_); (try simp only [Act.put, List.setIfInBounds_toArray, List.set_cons_zero, List.set_cons_succ]))); rotate_left)
    iterate 6 ((focus (refine htk 5 (v := ?_) (hy := fun w hSw => ?_) (h := ?_); rotate_left; (focus ((try dsimp only at hSw); go_simp; (try with_reducible rfl))); (try simp only [Act.put, List.setIfInBounds_toArray, List.set_cons_zero, List.set_cons_succ]); all_goals skip)); rotate_left)
    iterate 1 ((focus (refine hsk 5 (h := ?_); (try simp only [Act.put, List.setIfInBounds_toArray, List.set_cons_zero, List.set_cons_succ]))); rotate_left)
    iterate 6 ((focus (refine htk 6 (v := ?_) (hy := fun w hSw => ?_) (h := ?_); rotate_left; (focus ((try dsimp only at hSw); go_simp; (try with_reducible rfl))); (try simp only [Act.put, List.setIfInBounds_toArray, List.set_cons_zero, List.set_cons_succ]); all_goals skip)); rotate_left)
    iterate 1 ((focus (refine hsk 6 (h := ?_); (try simp only [Act.put, List.setIfInBounds_toArray, List.set_cons_zero, List.set_cons_succ]))); rotate_left)
    iterate 6 ((focus (refine htk 7 (v := ?_) (hy := fun w hSw => ?_) (h := ?_); rotate_left; (focus ((try dsimp only at hSw); go_simp; (try with_reducible rfl))); (try simp only [Act.put, List.setIfInBounds_toArray, List.set_cons_zero, List.set_cons_succ]); all_goals skip)); rotate_left)
    iterate 1 ((focus (refine hsk 7 (h := ?_); (try simp only [Act.put, List.setIfInBounds_toArray, List.set_cons_zero, List.set_cons_succ]))); rotate_left)
    iterate 6 ((focus (refine htk 8 (v := ?_) (hy := fun w hSw => ?_) (h := ?_); rotate_left; (focus ((try dsimp only at hSw); go_simp; (try with_reducible rfl))); (try simp only [Act.put, List.setIfInBounds_toArray, List.set_cons_zero, List.set_cons_succ]); all_goals skip)); rotate_left)
    iterate 1 ((focus (refine hsk 8 (h := ?_); (try simp only [Act.put, List.setIfInBounds_toArray, List.set_cons_zero, List.set_cons_succ]))); rotate_left)
    iterate 6 ((focus (refine htk 9 (v := ?_) (hy := fun w hSw => ?_) (h := ?_); rotate_left; (focus ((try dsimp only at hSw); go_simp; (try with_reducible rfl))); (try simp only [Act.put, List.setIfInBounds_toArray, List.set_cons_zero, List.set_cons_succ]); all_goals skip)); rotate_left)
    iterate 1 ((focus (refine hsk 9 (h := ?_); (try simp only [Act.put, List.setIfInBounds_toArray, List.set_cons_zero, List.set_cons_succ]))); rotate_left)
    iterate 6 ((focus (refine htk 10 (v := ?_) (hy := fun w hSw => ?_) (h := ?_); rotate_left; (focus ((try dsimp only at hSw); go_simp; (try with_reducible rfl))); (try simp only [Act.put, List.setIfInBounds_toArray, List.set_cons_zero, List.set_cons_succ]); all_goals skip)); rotate_left)
    iterate 1 ((focus (refine hsk 10 (h := ?_); (try simp only [Act.put, List.setIfInBounds_toArray, List.set_cons_zero, List.set_cons_succ]))); rotate_left)
    all_goals (refine htk 11 (v := ?_) (hy := fun w hSw => ?_) (h := ?_); rotate_left; (focus ((try dsimp only at hSw); go_simp; (try with_reducible rfl))); (try simp only [Act.put, List.setIfInBounds_toArray, List.set_cons_zero, List.set_cons_succ]); all_goals skip)
    all_goals (refine htk 12 (v := ?_) (hy := fun w hSw => ?_) (h := ?_); rotate_left; (focus ((try dsimp only at hSw); go_simp; (try with_reducible rfl))); (try simp only [Act.put, List.setIfInBounds_toArray, List.set_cons_zero, List.set_cons_succ]); all_goals skip)
    iterate 5 ((focus (refine htk 13 (v := ?_) (hy := fun w hSw => ?_) (h := ?_); rotate_left; (focus ((try dsimp only at hSw); go_simp; (try with_reducible rfl))); (try simp only [Act.put, List.setIfInBounds_toArray, List.set_cons_zero, List.set_cons_succ]); all_goals skip)); rotate_left)
    iterate 2 ((focus (refine hsk 13 (h := ?_); (try simp only [Act.put, List.setIfInBounds_toArray, List.set_cons_zero, List.set_cons_succ]))); rotate_left)
    iterate 5 ((focus (refine htk 14 (v := ?_) (hy := fun w hSw => ?_) (h := ?_); rotate_left; (focus ((try dsimp only at hSw); go_simp; (try with_reducible rfl))); (try simp only [Act.put, List.setIfInBounds_toArray, List.set_cons_zero, List.set_cons_succ]); all_goals skip)); rotate_left)
    iterate 2 ((focus (refine hsk 14 (h := ?_); (try simp only [Act.put, List.setIfInBounds_toArray, List.set_cons_zero, List.set_cons_succ]))); rotate_left)
    iterate 5 ((focus (refine htk 15 (v := ?_) (hy := fun w hSw => ?_) (h := ?_); rotate_left; (focus ((try dsimp only at hSw); go_simp; (try with_reducible rfl))); (try simp only [Act.put, List.setIfInBounds_toArray, List.set_cons_zero, List.set_cons_succ]); all_goals skip)); rotate_left)
    iterate 2 ((focus (refine hsk 15 (h := ?_); (try simp only [Act.put, List.setIfInBounds_toArray, List.set_cons_zero, List.set_cons_succ]))); rotate_left)
    all_goals (refine htk 16 (v := ?_) (hy := fun w hSw => ?_) (h := ?_); rotate_left; (focus ((try dsimp only at hSw); go_simp; (try with_reducible rfl))); (try simp only [Act.put, List.setIfInBounds_toArray, List.set_cons_zero, List.set_cons_succ]); all_goals skip)
    all_goals (refine htk 17 (v := ?_) (hy := fun w hSw => ?_) (h := ?_); rotate_left; (focus ((try dsimp only at hSw); go_simp; (try with_reducible rfl))); (try simp only [Act.put, List.setIfInBounds_toArray, List.set_cons_zero, List.set_cons_succ]); all_goals skip)
    iterate 4 ((focus (refine htk 18 (v := ?_) (hy := fun w hSw => ?_) (h := ?_); rotate_left; (focus ((try dsimp only at hSw); go_simp; (try with_reducible rfl))); (try simp only [Act.put, List.setIfInBounds_toArray, List.set_cons_zero, List.set_cons_succ]); all_goals skip)); rotate_left)
    iterate 3 ((focus (refine hsk 18 (h := ?_); (try simp only [Act.put, List.setIfInBounds_toArray, List.set_cons_zero, List.set_cons_succ]))); rotate_left)
    iterate 4 ((focus (refine htk 19 (v := ?_) (hy := fun w hSw => ?_) (h := ?_); rotate_left; (focus ((try dsimp only at hSw); go_simp; (try with_reducible rfl))); (try simp only [Act.put, List.setIfInBounds_toArray, List.set_cons_zero, List.set_cons_succ]); all_goals skip)); rotate_left)
    iterate 3 ((focus (refine hsk 19 (h := ?_); (try simp only [Act.put, List.setIfInBounds_toArray, List.set_cons_zero, List.set_cons_succ]))); rotate_left)
    iterate 4 ((focus (refine htk 20 (v := ?_) (hy := fun w hSw => ?_) (h := ?_); rotate_left; (focus ((try dsimp only at hSw); go_simp; (try with_reducible rfl))); (try simp only [Act.put, List.setIfInBounds_toArray, List.set_cons_zero, List.set_cons_succ]); all_goals skip)); rotate_left)
    iterate 3 ((focus (refine hsk 20 (h := ?_); (try simp only [Act.put, List.setIfInBounds_toArray, List.set_cons_zero, List.set_cons_succ]))); rotate_left)
    iterate 4 ((focus (refine htk 21 (v := ?_) (hy := fun w hSw => ?_) (h := ?_); rotate_left; (focus ((try dsimp only at hSw); go_simp; (try with_reducible rfl))); (try simp only [Act.put, List.setIfInBounds_toArray, List.set_cons_zero, List.set_cons_succ]); all_goals skip)); rotate_left)
    iterate 3 ((focus (refine hsk 21 (h := ?_); (try simp only [Act.put, List.setIfInBounds_toArray, List.set_cons_zero, List.set_cons_succ]))); rotate_left)
    iterate 4 ((focus (refine htk 22 (v := ?_) (hy := fun w hSw => ?_) (h := ?_); rotate_left; (focus ((try dsimp only at hSw); go_simp; (try with_reducible rfl))); (try simp only [Act.put, List.setIfInBounds_toArray, List.set_cons_zero, List.set_cons_succ]); all_goals skip)); rotate_left)
    iterate 3 ((focus (refine hsk 22 (h := ?_); (try simp only [Act.put, List.setIfInBounds_toArray, List.set_cons_zero, List.set_cons_succ]))); rotate_left)
    iterate 4 ((focus (refine htk 23 (v := ?_) (hy := fun w hSw => ?_) (h := ?_); rotate_left; (focus ((try dsimp only at hSw); go_simp; (try with_reducible rfl))); (try simp only [Act.put, List.setIfInBounds_toArray, List.set_cons_zero, List.set_cons_succ]); all_goals skip)); rotate_left)
    iterate 3 ((focus (refine hsk 23 (h := ?_); (try simp only [Act.put, List.setIfInBounds_toArray, List.set_cons_zero, List.set_cons_succ]))); rotate_left)
    iterate 4 ((focus (refine htk 24 (v := ?_) (hy := fun w hSw => ?_) (h := ?_); rotate_left; (focus ((try dsimp only at hSw); go_simp; (try with_reducible rfl))); (try simp only [Act.put, List.setIfInBounds_toArray, List.set_cons_zero, List.set_cons_succ]); all_goals skip)); rotate_left)
    iterate 3 ((focus (refine hsk 24 (h := ?_); (try simp only [Act.put, List.setIfInBounds_toArray, List.set_cons_zero, List.set_cons_succ]))); rotate_left)
    all_goals (refine htk 25 (v := ?_) (hy := fun w hSw => ?_) (h := ?_); rotate_left; (focus ((try dsimp only at hSw); go_simp; (try with_reducible rfl))); (try simp only [Act.put, List.setIfInBounds_toArray, List.set_cons_zero, List.set_cons_succ]); all_goals skip)
    all_goals (refine htk 26 (v := ?_) (hy := fun w hSw => ?_) (h := ?_); rotate_left; (focus ((try dsimp only at hSw); go_simp; (try with_reducible rfl))); (try simp only [Act.put, List.setIfInBounds_toArray, List.set_cons_zero, List.set_cons_succ]); all_goals skip)
    iterate 3 ((focus (refine htk 27 (v := ?_) (hy := fun w hSw => ?_) (h := ?_); rotate_left; (focus ((try dsimp only at hSw); go_simp; (try with_reducible rfl))); (try simp only [Act.put, List.setIfInBounds_toArray, List.set_cons_zero, List.set_cons_succ]); all_goals skip)); rotate_left)
    iterate 4 ((focus (refine hsk 27 (h := ?_); (try simp only [Act.put, List.setIfInBounds_toArray, List.set_cons_zero, List.set_cons_succ]))); rotate_left)
    iterate 3 ((focus (refine htk 28 (v := ?_) (hy := fun w hSw => ?_) (h := ?_); rotate_left; (focus ((try dsimp only at hSw); go_simp; (try with_reducible rfl))); (try simp only [Act.put, List.setIfInBounds_toArray, List.set_cons_zero, List.set_cons_succ]); all_goals skip)); rotate_left)
    iterate 4 ((focus (refine hsk 28 (h := ?_); (try simp only [Act.put, List.setIfInBounds_toArray, List.set_cons_zero, List.set_cons_succ]))); rotate_left)
    iterate 3 ((focus (refine htk 29 (v := ?_) (hy := fun w hSw => ?_) (h := ?_); rotate_left; (focus ((try dsimp only at hSw); go_simp; (try with_reducible rfl))); (try simp only [Act.put, List.setIfInBounds_toArray, List.set_cons_zero, List.set_cons_succ]); all_goals skip)); rotate_left)
    iterate 4 ((focus (refine hsk 29 (h := ?_); (try simp only [Act.put, List.setIfInBounds_toArray, List.set_cons_zero, List.set_cons_succ]))); rotate_left)
    iterate 2 ((focus (refine htk 30 (v := ?_) (hy := fun w hSw => ?_) (h := ?_); rotate_left; (focus ((try dsimp only at hSw); go_simp; (try with_reducible rfl))); (try simp only [Act.put, List.setIfInBounds_toArray, List.set_cons_zero, List.set_cons_succ]); all_goals skip)); rotate_left)
    iterate 5 ((focus (refine hsk 30 (h := ?_); (try simp only [Act.put, List.setIfInBounds_toArray, List.set_cons_zero, List.set_cons_succ]))); rotate_left)
    iterate 2 ((focus (refine htk 31 (v := ?_) (hy := fun w hSw => ?_) (h := ?_); rotate_left; (focus ((try dsimp only at hSw); go_simp; (try with_reducible rfl))); (try simp only [Act.put, List.setIfInBounds_toArray, List.set_cons_zero, List.set_cons_succ]); all_goals skip)); rotate_left)
    iterate 5 ((focus (refine hsk 31 (h := ?_); (try simp only [Act.put, List.setIfInBounds_toArray, List.set_cons_zero, List.set_cons_succ]))); rotate_left)
    iterate 2 ((focus (refine htk 32 (v := ?_) (hy := fun w hSw => ?_) (h := ?_); rotate_left; (focus ((try dsimp only at hSw); go_simp; (try with_reducible rfl))); (try simp only [Act.put, List.setIfInBounds_toArray, List.set_cons_zero, List.set_cons_succ]); all_goals skip)); rotate_left)
    iterate 5 ((focus (refine hsk 32 (h := ?_); (try simp only [Act.put, List.setIfInBounds_toArray, List.set_cons_zero, List.set_cons_succ]))); rotate_left)
    iterate 2 ((focus (refine htk 33 (v := ?_) (hy := fun w hSw => ?_) (h := ?_); rotate_left; (focus ((try dsimp only at hSw); go_simp; (try with_reducible rfl))); (try simp only [Act.put, List.setIfInBounds_toArray, List.set_cons_zero, List.set_cons_succ]); all_goals skip)); rotate_left)
    iterate 5 ((focus (refine hsk 33 (h := ?_); (try simp only [Act.put, List.setIfInBounds_toArray, List.set_cons_zero, List.set_cons_succ]))); rotate_left)
    iterate 2 ((focus (refine htk 34 (v := ?_) (hy := fun w hSw => ?_) (h := ?_); rotate_left; (focus ((try dsimp only at hSw); go_simp; (try with_reducible rfl))); (try simp only [Act.put, List.setIfInBounds_toArray, List.set_cons_zero, List.set_cons_succ]); all_goals skip)); rotate_left)
    iterate 5 ((focus (refine hsk 34 (h := ?_); (try simp only [Act.put, List.setIfInBounds_toArray, List.set_cons_zero, List.set_cons_succ]))); rotate_left)
    iterate 2 ((focus (refine htk 35 (v := ?_) (hy := fun w hSw => ?_) (h := ?_); rotate_left; (focus ((try dsimp only at hSw); go_simp; (try with_reducible rfl))); (try simp only [Act.put, List.setIfInBounds_toArray, List.set_cons_zero, List.set_cons_succ]); all_goals skip)); rotate_left)
    iterate 5 ((focus (refine hsk 35 (h := ?_); (try simp only [Act.put, List.setIfInBounds_toArray, List.set_cons_zero, List.set_cons_succ]))); rotate_left)
    iterate 2 ((focus (refine hon 36 (h := fun K hK => ?_); go_simp; go_at_call 30; refine (HBl.out _ (by assumption)).mono ?_; rintro e wB ⟨rfl, rfl⟩; go_wp2_with fail; refine hK.out _ _ ?_ (fun hHeld => ?_); (focus ((try dsimp only); (first | with_reducible exact hk0 | with_reducible exact HK.out _ (by assumption) | go_keep))); clear hK K; (try simp only [Act.put, List.setIfInBounds_toArray, List.set_cons_zero, List.set_cons_succ]))); rotate_left)
    iterate 5 ((focus (refine hon 36 (h := fun K hK => ?_); go_simp; refine hK.out _ _ ?_ (fun hHeld => ?_); (focus ((try dsimp only); (first | with_reducible exact hk0 | with_reducible exact HK.out _ (by assumption) | go_keep))); clear hK K; (try simp only [Act.put, List.setIfInBounds_toArray, List.set_cons_zero, List.set_cons_succ]))); rotate_left)
    iterate 2 ((focus (refine htk 37 (v := ?_) (hy := fun w hSw => ?_) (h := ?_); rotate_left; (focus ((try dsimp only at hSw); go_simp; (try with_reducible rfl))); (try simp only [Act.put, List.setIfInBounds_toArray, List.set_cons_zero, List.set_cons_succ]); all_goals skip)); rotate_left)
    iterate 5 ((focus (refine hon 37 (h := fun K hK => ?_); go_simp; refine hK.out _ _ ?_ (fun hHeld => ?_); (focus ((try dsimp only); (first | with_reducible exact hk0 | with_reducible exact HK.out _ (by assumption) | go_keep))); clear hK K; (try simp only [Act.put, List.setIfInBounds_toArray, List.set_cons_zero, List.set_cons_succ]))); rotate_left)
    iterate 3 ((focus (refine htk 38 (v := ?_) (hy := fun w hSw => ?_) (h := ?_); rotate_left; (focus ((try dsimp only at hSw); go_simp; (try with_reducible rfl))); (try simp only [Act.put, List.setIfInBounds_toArray, List.set_cons_zero, List.set_cons_succ]); all_goals skip)); rotate_left)
    iterate 4 ((focus (refine hsk 38 (h := ?_); (try simp only [Act.put, List.setIfInBounds_toArray, List.set_cons_zero, List.set_cons_succ]))); rotate_left)
    all_goals (refine htk 39 (v := ?_) (hy := fun w hSw => ?_) (h := ?_); rotate_left; (focus ((try dsimp only at hSw); go_simp; (try with_reducible rfl))); (try simp only [Act.put, List.setIfInBounds_toArray, List.set_cons_zero, List.set_cons_succ]); all_goals skip)
    all_goals refine wpAnyH_done (by kernel_rfl) ?_ _
    all_goals (refine NoPanic.normal ?_)
    all_goals have hbr2 := zAd hbA hbR2
    all_goals clear hbA hbR2 hbR hk0 HK HRt HBl
    all_goals go_wp2_with fail
    focus
     go_roundw
     case rel => exact ⟨k + 1, by go_num, by omega, hbr2⟩
     case measure => simp [intOf]; omega
    focus
     go_ret
     exact ⟨⟨_, rfl⟩, hbr2⟩
    focus
     go_roundw
     case rel => exact ⟨k + 1, by go_num, by omega, hbr2⟩
     case measure => simp [intOf]; omega
    all_goals
     go_ret
     exact ⟨⟨_, rfl⟩, hbr2⟩
  ·go_wp2_with fail
   go_ret
   exact ⟨⟨_, rfl⟩, hbr⟩
end Go.Proofs.YtaemlplcjjbamaaGreatDoor
