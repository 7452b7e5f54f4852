/- The walk of the statement's handle at any message, its list  -/
import Derived.Test.YtaemlplcjjbamaaGreatDoorBGHandle3
namespace Go.Proofs.YtaemlplcjjbamaaGreatDoor
open Go.Lib (hid)
set_option maxRecDepth 100000
set_option maxHeartbeats 8000000
open Go Go.RowKit
set_option linter.unusedVariables false
variable {R : World → Prop}
theorem zIi (wb c bk v k B np : Nat) (id bal kd gen basis fl tp rd pa po : Int) (mk pt : ByteArray) (la : Option Addr) (ll lc l6 : Nat) (sv av : Value) (xs : List Value) (S : CSt) (w : World)
  (hW : Blk w wb (zCY c bk id (np : Int) sv av) 43) (hC : zAb w c S) (hn : 1 ≤ S.n) (hb : S.ballot = bal) (hA : w.ownsRow B 57 5 av k xs) (hB : B ≤ w.heap.size) (hk : k ≤ 1000000) (hv : v < np) (hl6 : l6 = min ll 64) (hlc : ll ≤ lc)
  (hH : ∀ w1 av', Touch (zGH wb av) w w1 → Blk w1 wb (zCY c bk id (np : Int) sv av') 43 → w1.ownsRow B 57 5 av' (k + 1) (xs ++ [.int .i64 kd, .int .i64 (v : Int), .int .i64 gen, .int .i64 rd, .string mk]) → (∀ g, av'.ownBlock = some g → av.ownBlock = some g ∨ w.heap.size ≤ g) →
   Calls Tryz.prog 47 #[.pointer (some ⟨c, 0, none⟩), .agg #[.int .i64 kd, .int .i64 (v : Int), .int .i64 id, .int .i64 bal, .int .i64 gen, .int .i64 basis, .int .i64 fl, .int .i64 tp, .int .i64 rd, .string mk, .int .i64 pa, .int .i64 po, .string pt, .slice la l6 lc]] w1 fun e w' => e = .returned (.tuple #[]) ∧ R w') :
  Calls Tryz.prog 29 #[.pointer (some ⟨wb, 0, none⟩), .agg #[.int .i64 kd, .int .i64 (v : Int), .int .i64 id, .int .i64 bal, .int .i64 gen, .int .i64 basis, .int .i64 fl, .int .i64 tp, .int .i64 rd, .string mk, .int .i64 pa, .int .i64 po, .string pt, .slice la ll lc]] w fun e w' => e = .returned (.tuple #[]) ∧ R w' := by
 have hv0 : (0 : Int) ≤ (v : Int) := by omega
 have hv3 : (v : Int) < (np : Int) := by omega
 have eid : (id == id) = true := by simp
 have ebal : (bal == bal) = true := by simp
 have HW := hid hW
 have HC := hid hC
 have HA := hid hA
 have HH := hid hH
 have hwl := hW.lt
 have HB1 := hid ((Below.refl w.heap.size w).alloc (Nat.le_refl _) (.cells #[.int .i64 kd, .int .i64 (v : Int), .int .i64 id, .int .i64 bal, .int .i64 gen, .int .i64 basis, .int .i64 fl, .int .i64 tp, .int .i64 rd, .string mk, .int .i64 pa, .int .i64 po, .string pt, .slice la ll lc] 30))
 have HQ1 := hid (Blk.new w [.int .i64 kd, .int .i64 (v : Int), .int .i64 id, .int .i64 bal, .int .i64 gen, .int .i64 basis, .int .i64 fl, .int .i64 tp, .int .i64 rd, .string mk, .int .i64 pa, .int .i64 po, .string pt, .slice la ll lc] 30)
 have Hl6 := hid hl6
 clear hW hC hA hH hl6
 go_enter Tryz.func29, Tryz.ntmps29
 go_upto_region 1 with fail
 have b1 := HB1.out
 have q1 := HQ1.out
 clear HB1 HQ1
 generalize w.alloc (.cells #[.int .i64 kd, .int .i64 (v : Int), .int .i64 id, .int .i64 bal, .int .i64 gen, .int .i64 basis, .int .i64 fl, .int .i64 tp, .int .i64 rd, .string mk, .int .i64 pa, .int .i64 po, .string pt, .slice la ll lc] 30) = w1 at b1 q1 ⊢
 obtain ⟨q, hq⟩ : ∃ q, q = w.heap.size := ⟨_, rfl⟩
 rw [← hq] at q1 ⊢
 have Hq := hid hq
 clear hq
 have m13 : w1.cell? ⟨q, 13, none⟩ = some (.slice la ll lc) := q1.cell 13
 have f13 := q1.free 13
 have hql1 := q1.lt
 go_cut [7] (fun v wx => v = .bool (decide ((64 : Int) < (ll : Int))) ∧ w1 = wx)
 case first =>
  by_cases hl : (64 : Int) < (ll : Int)
  ·go_wp2_with fail
   go_meet
   exact ⟨by rw [decide_eq_true (show (64 : Int) < (ll : Int) by omega)], rfl⟩
  ·go_wp2_with fail
   go_meet
   exact ⟨by rw [decide_eq_false (show ¬ (64 : Int) < (ll : Int) by omega)], rfl⟩
 case rest =>
  obtain ⟨rfl, rfl⟩ := hcut
  go_upto_if 7 with (fail)
  go_cut [] (fun wx => Hid (Blk wx q [.int .i64 kd, .int .i64 (v : Int), .int .i64 id, .int .i64 bal, .int .i64 gen, .int .i64 basis, .int .i64 fl, .int .i64 tp, .int .i64 rd, .string mk, .int .i64 pa, .int .i64 po, .string pt, .slice la l6 lc] 30) ∧ Hid (Below w.heap.size w wx))
  case first =>
   by_cases hl : (64 : Int) < (ll : Int)
   ·have e6 : l6 = 64 := by have := Hl6.out; omega
    have hlc64 : 64 ≤ lc := by omega
    go_wp2_with fail
    go_meet
    exact ⟨hid (by rw [e6]; exact q1.set 13 _), hid (b1.setCell (p := ⟨q, 13, none⟩) (show w.heap.size ≤ q by have := Hq.out; omega) _)⟩
   ·have e6 : l6 = ll := by have := Hl6.out; omega
    go_wp2_with fail
    go_meet
    exact ⟨hid (by rw [e6]; exact q1), hid b1⟩
  case rest =>
   obtain ⟨HM2, HB2⟩ := hcut
   clear m13 f13 hql1 b1 q1
   generalize wc = w2 at HM2 HB2 ⊢
   have W2 := HW.out.below HB2.out
   have C2 := HC.out.below HB2.out
   have c0 : w2.cell? ⟨wb, 0, none⟩ = some (.pointer (some ⟨c, 0, none⟩)) := W2.cell 0
   have c2 : w2.cell? ⟨wb, 2, none⟩ = some (.int .i64 id) := W2.cell 2
   have c3 : w2.cell? ⟨wb, 3, none⟩ = some (.int .i64 (np : Int)) := W2.cell 3
   have m1 : w2.cell? ⟨q, 1, none⟩ = some (.int .i64 (v : Int)) := HM2.out.cell 1
   have m2 : w2.cell? ⟨q, 2, none⟩ = some (.int .i64 id) := HM2.out.cell 2
   have m3 : w2.cell? ⟨q, 3, none⟩ = some (.int .i64 bal) := HM2.out.cell 3
   have hwl2 := W2.lt
   have hql2 := HM2.out.lt
   have Hb0 := hid (fun n => zBP c S (w2.drewN n) (C2.drewN n) hn)
   rw [hb] at Hb0
   clear C2
   go_upto_region 3 with fail
   go_quiet ((go_at_call 30; first | exact zAf (Hb0.out _) | exact quiet_add_left (Hb0.out _)))
   go_upto_region 4 with fail
   have M3 := HM2.out.drewN nq
   have W3 := W2.drewN nq
   have C3 := (HC.out.below HB2.out).drewN nq
   have b3 := below_drewN HB2.out nq
   have A3 := zAc HA.out b3
   have z3 : q < (w2.drewN nq).heap.size := hql2
   generalize w2.drewN nq = w3 at M3 W3 C3 b3 A3 z3 ⊢
   have hqb : wb < q := by have := Hq.out; omega
   have hq := Hq.out
   have HQ := hid hq
   have HM3 := hid M3
   have HW3 := hid W3
   have HC3 := hid C3
   have HT3 := hid (Touch.of_below (S := zGH wb av) b3)
   have HA3 := hid A3
   have hBq : B ≤ w3.heap.size := by omega
   clear c0 c2 c3 Hb0 HW HC HA hq M3 W3 C3 b3 A3 m1 m2 m3 W2 HM2 HB2 hwl2 hql2
   have hown3 := HA3.out
   have d5 : w3.cell? ⟨wb, 5, none⟩ = some av := HW3.out.cell 5
   have m0 : w3.cell? ⟨q, 0, none⟩ = some (.int .i64 kd) := HM3.out.cell 0
   have m1 : w3.cell? ⟨q, 1, none⟩ = some (.int .i64 (v : Int)) := HM3.out.cell 1
   have m4 : w3.cell? ⟨q, 4, none⟩ = some (.int .i64 gen) := HM3.out.cell 4
   have m8 : w3.cell? ⟨q, 8, none⟩ = some (.int .i64 rd) := HM3.out.cell 8
   have m9 : w3.cell? ⟨q, 9, none⟩ = some (.string mk) := HM3.out.cell 9
   have hnw : av.ownBlock ≠ some wb := zAp hown3 HW3.out (by decide)
   have hnq : av.ownBlock ≠ some q := zAp hown3 HM3.out (by decide)
   have f5 := HW3.out.free 5
   have hwl3 := HW3.out.lt
   have hfa : ∀ o : Obj, (w3.alloc o).drew.frozen? ⟨wb, 5, none⟩ = false := fun o => (HW3.out.alloc o).drew.free 5
   have hfb : ∀ o : Obj, (w3.alloc o).frozen? ⟨wb, 5, none⟩ = false := fun o => (HW3.out.alloc o).free 5
   obtain ⟨i0, hi0, hz0, hz1, hz2⟩ := info_parts info_toldC
   go_cut [] (fun wx => ∃ av', Hid (Blk wx wb (zCY c bk id (np : Int) sv av') 43) ∧ Hid (Blk wx q [.int .i64 kd, .int .i64 (v : Int), .int .i64 id, .int .i64 bal, .int .i64 gen, .int .i64 basis, .int .i64 fl, .int .i64 tp, .int .i64 rd, .string mk, .int .i64 pa, .int .i64 po, .string pt, .slice la l6 lc] 30) ∧ Hid (wx.ownsRow B 57 5 av' (k + 1) (xs ++ [.int .i64 kd, .int .i64 (v : Int), .int .i64 gen, .int .i64 rd, .string mk])) ∧ (∀ g, av'.ownBlock = some g → av.ownBlock = some g ∨ w.heap.size ≤ g) ∧ Touch (zGH wb av) w wx)
   case first =>
    have KB := hid (show ∀ w', Blk w' q [.int .i64 kd, .int .i64 (v : Int), .int .i64 id, .int .i64 bal, .int .i64 gen, .int .i64 basis, .int .i64 fl, .int .i64 tp, .int .i64 rd, .string mk, .int .i64 pa, .int .i64 po, .string pt, .slice la l6 lc] 30 → (w'.cell? ⟨q, 0, none⟩ = some (.int .i64 kd) ∧ w'.cell? ⟨q, 1, none⟩ = some (.int .i64 (v : Int)) ∧ w'.cell? ⟨q, 4, none⟩ = some (.int .i64 gen) ∧ w'.cell? ⟨q, 8, none⟩ = some (.int .i64 rd) ∧ w'.cell? ⟨q, 9, none⟩ = some (.string mk)) from fun w' h => ⟨h.cell 0, h.cell 1, h.cell 4, h.cell 8, h.cell 9⟩)
    have hk0 := KB.out _ HM3.out.drew
    have d5' : w3.drew.cell? ⟨wb, 5, none⟩ = some av := d5
    have hqwb : q ≠ wb := by omega
    have hwl3' : wb < w3.drew.heap.size := hwl3
    have f5' : w3.drew.frozen? ⟨wb, 5, none⟩ = false := f5
    refine wp_region_noPanic ?_
    refine wp_region_held_drew (S := (fun w' => w'.cell? ⟨q, 0, none⟩ = some (.int .i64 kd) ∧ w'.cell? ⟨q, 1, none⟩ = some (.int .i64 (v : Int)) ∧ w'.cell? ⟨q, 4, none⟩ = some (.int .i64 gen) ∧ w'.cell? ⟨q, 8, none⟩ = some (.int .i64 rd) ∧ w'.cell? ⟨q, 9, none⟩ = some (.string mk))) (by kernel_rfl) ?_ (fun hHeld => ?_)
    ·((try dsimp only); (first | with_reducible exact hk0 | (refine KB.out _ ?_; with_reducible (first | assumption | exact (HM3.out.alloc _).drew | exact HM3.out.drew.alloc _ | exact M4 | exact M4.set_other (a := ⟨wb, 5, none⟩) hqwb _))))
    refine zAw (i := 0) (v := ?_) rfl (by kernel_rfl) (by kernel_rfl) (by kernel_rfl) (fun _ _ _ h => h) (by rfl) (fun w hSw => ?_) (by assumption) ?_
    rotate_left
    ·((try dsimp only at hSw); go_simp; (try with_reducible rfl))
    (try simp only [Act.put, List.setIfInBounds_toArray, List.set_cons_zero, List.set_cons_succ])
    refine zAw (i := 1) (v := ?_) rfl (by kernel_rfl) (by kernel_rfl) (by kernel_rfl) (fun _ _ _ h => h) (by rfl) (fun w hSw => ?_) (by assumption) ?_
    rotate_left
    ·((try dsimp only at hSw); go_simp; (try with_reducible rfl))
    (try simp only [Act.put, List.setIfInBounds_toArray, List.set_cons_zero, List.set_cons_succ])
    refine zAw (i := 2) (v := ?_) rfl (by kernel_rfl) (by kernel_rfl) (by kernel_rfl) (fun _ _ _ h => h) (by rfl) (fun w hSw => ?_) (by assumption) ?_
    rotate_left
    ·((try dsimp only at hSw); go_simp; (try with_reducible rfl))
    (try simp only [Act.put, List.setIfInBounds_toArray, List.set_cons_zero, List.set_cons_succ])
    refine zAw (i := 3) (v := ?_) rfl (by kernel_rfl) (by kernel_rfl) (by kernel_rfl) (fun _ _ _ h => h) (by rfl) (fun w hSw => ?_) (by assumption) ?_
    rotate_left
    ·((try dsimp only at hSw); go_simp; (try with_reducible rfl))
    (try simp only [Act.put, List.setIfInBounds_toArray, List.set_cons_zero, List.set_cons_succ])
    refine zAw (i := 5) (v := ?_) rfl (by kernel_rfl) (by kernel_rfl) (by kernel_rfl) (fun _ _ _ h => h) (by rfl) (fun w hSw => ?_) (by assumption) ?_
    rotate_left
    ·((try dsimp only at hSw); go_simp; (try with_reducible rfl))
    (try simp only [Act.put, List.setIfInBounds_toArray, List.set_cons_zero, List.set_cons_succ])
    refine zAw (i := 6) (v := ?_) rfl (by kernel_rfl) (by kernel_rfl) (by kernel_rfl) (fun _ _ _ h => h) (by rfl) (fun w hSw => ?_) (by assumption) ?_
    rotate_left
    ·((try dsimp only at hSw); go_simp; (try with_reducible rfl))
    (try simp only [Act.put, List.setIfInBounds_toArray, List.set_cons_zero, List.set_cons_succ])
    refine zAw (i := 7) (v := ?_) rfl (by kernel_rfl) (by kernel_rfl) (by kernel_rfl) (fun _ _ _ h => h) (by rfl) (fun w hSw => ?_) (by assumption) ?_
    rotate_left
    ·((try dsimp only at hSw); go_simp; (try with_reducible rfl))
    (try simp only [Act.put, List.setIfInBounds_toArray, List.set_cons_zero, List.set_cons_succ])
    refine zAw (i := 8) (v := ?_) rfl (by kernel_rfl) (by kernel_rfl) (by kernel_rfl) (fun _ _ _ h => h) (by rfl) (fun w hSw => ?_) (by assumption) ?_
    rotate_left
    ·((try dsimp only at hSw); go_simp; (try with_reducible rfl))
    (try simp only [Act.put, List.setIfInBounds_toArray, List.set_cons_zero, List.set_cons_succ])
    refine zAw (i := 9) (v := ?_) rfl (by kernel_rfl) (by kernel_rfl) (by kernel_rfl) (fun _ _ _ h => h) (by rfl) (fun w hSw => ?_) (by assumption) ?_
    rotate_left
    ·((try dsimp only at hSw); go_simp; (try with_reducible rfl))
    (try simp only [Act.put, List.setIfInBounds_toArray, List.set_cons_zero, List.set_cons_succ])
    refine zAw (i := 10) (v := ?_) rfl (by kernel_rfl) (by kernel_rfl) (by kernel_rfl) (fun _ _ _ h => h) (by rfl) (fun w hSw => ?_) (by assumption) ?_
    rotate_left
    ·((try dsimp only at hSw); go_simp; (try with_reducible rfl))
    (try simp only [Act.put, List.setIfInBounds_toArray, List.set_cons_zero, List.set_cons_succ])
    refine zAw (i := 11) (v := ?_) rfl (by kernel_rfl) (by kernel_rfl) (by kernel_rfl) (fun _ _ _ h => h) (by rfl) (fun w hSw => ?_) (by assumption) ?_
    rotate_left
    ·((try dsimp only at hSw); go_simp; (try with_reducible rfl))
    (try simp only [Act.put, List.setIfInBounds_toArray, List.set_cons_zero, List.set_cons_succ])
    refine zAw (i := 12) (v := ?_) rfl (by kernel_rfl) (by kernel_rfl) (by kernel_rfl) (fun _ _ _ h => h) (by rfl) (fun w hSw => ?_) (by assumption) ?_
    rotate_left
    ·((try dsimp only at hSw); go_simp; (try with_reducible rfl))
    (try simp only [Act.put, List.setIfInBounds_toArray, List.set_cons_zero, List.set_cons_succ])
    refine zAw (i := 13) (v := ?_) rfl (by kernel_rfl) (by kernel_rfl) (by kernel_rfl) (fun _ _ _ h => h) (by rfl) (fun w hSw => ?_) (by assumption) ?_
    rotate_left
    ·((try dsimp only at hSw); go_simp; (try with_reducible rfl))
    (try simp only [Act.put, List.setIfInBounds_toArray, List.set_cons_zero, List.set_cons_succ])
    refine zAw (i := 14) (v := ?_) rfl (by kernel_rfl) (by kernel_rfl) (by kernel_rfl) (fun _ _ _ h => h) (by rfl) (fun w hSw => ?_) (by assumption) ?_
    rotate_left
    ·((try dsimp only at hSw); go_simp; (try with_reducible rfl))
    (try simp only [Act.put, List.setIfInBounds_toArray, List.set_cons_zero, List.set_cons_succ])
    refine zAw (i := 15) (v := ?_) rfl (by kernel_rfl) (by kernel_rfl) (by kernel_rfl) (fun _ _ _ h => h) (by rfl) (fun w hSw => ?_) (by assumption) ?_
    rotate_left
    ·((try dsimp only at hSw); go_simp; (try with_reducible rfl))
    (try simp only [Act.put, List.setIfInBounds_toArray, List.set_cons_zero, List.set_cons_succ])
    refine wpAnyH_ready (rs := [4, 16]) (by kernel_rfl) (by simp) ?_
    refine zAn rfl (fun K hK => ?_) (zAn rfl (fun K hK => ?_) (AllReadyH.nil))
    focus
     go_simp
     refine hK.out _ _ ?_ (fun hHeld => ?_)
     ·((try dsimp only); (first | with_reducible exact hk0 | (refine KB.out _ ?_; with_reducible (first | assumption | exact (HM3.out.alloc _).drew | exact HM3.out.drew.alloc _ | exact M4 | exact M4.set_other (a := ⟨wb, 5, none⟩) hqwb _))))
     clear hK K
     (try simp only [Act.put, List.setIfInBounds_toArray, List.set_cons_zero, List.set_cons_succ])
     refine wpAnyH_ready (rs := [16]) (by kernel_rfl) (by simp) ?_
     refine zAn rfl (fun K hK => ?_) (AllReadyH.nil)
     go_simp
     refine hK.out _ _ ?_ (fun hHeld => ?_)
     ·((try dsimp only); (first | with_reducible exact hk0 | (refine KB.out _ ?_; with_reducible (first | assumption | exact (HM3.out.alloc _).drew | exact HM3.out.drew.alloc _ | exact M4 | exact M4.set_other (a := ⟨wb, 5, none⟩) hqwb _))))
     clear hK K
     (try simp only [Act.put, List.setIfInBounds_toArray, List.set_cons_zero, List.set_cons_succ])
     refine wpAnyH_ready (rs := [17]) (by kernel_rfl) (by simp) ?_
     refine zAn rfl (fun K hK => ?_) (AllReadyH.nil)
     ((first | (refine step_append_lies _ (by rfl) _ _ _ (by rfl) B 57 i0 _ 5 48 Tryz.underlying41 hi0 hz0 hz1 hz2 rfl (by omega) av k xs (by rfl) (by first | exact hown3.drew.alloc _ | exact (hown3.alloc _).drew) ⟨w3.heap.size, 0, none⟩ 1 1 [.int .i64 kd, .int .i64 (v : Int), .int .i64 gen, .int .i64 rd, .string mk] (by rfl) (by rfl) (by first | exact (World.news_of_block (cs := #[.int .i64 kd, .int .i64 (v : Int), .int .i64 gen, .int .i64 rd, .string mk]) (t := 57) (fr := (0, 0)) (heap_alloc_new w3.drew _)) | exact (World.news_of_block (cs := #[.int .i64 kd, .int .i64 (v : Int), .int .i64 gen, .int .i64 rd, .string mk]) (t := 57) (fr := (0, 0)) (heap_alloc_new w3 _))) (by simp [Value.oneCell']) (by omega) (by unfold maxLen; omega) (by omega) (by simp; omega) (w3.heap.size + 1) (by simp) ?_; intro gg cap w4 hown4 hgrow hat hlt; have hc4 := hgrow.cell_far ⟨wb, 5, none⟩ (by simp; omega) (Ne.symm hnw); have hf4 := hgrow.frozen_far ⟨wb, 5, none⟩ (by simp; omega) (Ne.symm hnw); have M4 : Blk w4 q [.int .i64 kd, .int .i64 (v : Int), .int .i64 id, .int .i64 bal, .int .i64 gen, .int .i64 basis, .int .i64 fl, .int .i64 tp, .int .i64 rd, .string mk, .int .i64 pa, .int .i64 po, .string pt, .slice la l6 lc] 30 := by (first | exact zAr (HM3.out.drew.alloc _) hgrow hnq | exact zAr (HM3.out.alloc _).drew hgrow hnq))))
     refine hK.out _ _ ?_ (fun hHeld => ?_)
     ·((try dsimp only); (first | with_reducible exact hk0 | (refine KB.out _ ?_; with_reducible (first | assumption | exact (HM3.out.alloc _).drew | exact HM3.out.drew.alloc _ | exact M4 | exact M4.set_other (a := ⟨wb, 5, none⟩) hqwb _))))
     clear hK K
     (try simp only [Act.put, List.setIfInBounds_toArray, List.set_cons_zero, List.set_cons_succ])
     refine zAw (i := 18) (v := ?_) rfl (by kernel_rfl) (by kernel_rfl) (by kernel_rfl) (fun _ _ _ h => h) (by rfl) (fun w hSw => ?_) (by assumption) ?_
     rotate_left
     ·((try dsimp only at hSw); go_simp; (try with_reducible rfl))
     (try simp only [Act.put, List.setIfInBounds_toArray, List.set_cons_zero, List.set_cons_succ])
     refine zAw (i := 19) (v := ?_) rfl (by kernel_rfl) (by kernel_rfl) (by kernel_rfl) (fun _ _ _ h => h) (by rfl) (fun w hSw => ?_) (by assumption) ?_
     rotate_left
     ·((try dsimp only at hSw); go_simp; (try with_reducible rfl))
     (try simp only [Act.put, List.setIfInBounds_toArray, List.set_cons_zero, List.set_cons_succ])
     refine wpAnyH_ready (rs := [20]) (by kernel_rfl) (by simp) ?_
     refine zAn rfl (fun K hK => ?_) (AllReadyH.nil)
     go_simp
     refine hK.out _ _ ?_ (fun hHeld => ?_)
     ·((try dsimp only); (first | with_reducible exact hk0 | (refine KB.out _ ?_; with_reducible (first | assumption | exact (HM3.out.alloc _).drew | exact HM3.out.drew.alloc _ | exact M4 | exact M4.set_other (a := ⟨wb, 5, none⟩) hqwb _))))
     clear hK K
     (try simp only [Act.put, List.setIfInBounds_toArray, List.set_cons_zero, List.set_cons_succ])
     refine wpAnyH_done (by kernel_rfl) ?_ _
    rotate_left 1
    focus
     go_simp
     refine hK.out _ _ ?_ (fun hHeld => ?_)
     ·((try dsimp only); (first | with_reducible exact hk0 | (refine KB.out _ ?_; with_reducible (first | assumption | exact (HM3.out.alloc _).drew | exact HM3.out.drew.alloc _ | exact M4 | exact M4.set_other (a := ⟨wb, 5, none⟩) hqwb _))))
     clear hK K
     (try simp only [Act.put, List.setIfInBounds_toArray, List.set_cons_zero, List.set_cons_succ])
     refine wpAnyH_ready (rs := [4]) (by kernel_rfl) (by simp) ?_
     refine zAn rfl (fun K hK => ?_) (AllReadyH.nil)
     go_simp
     refine hK.out _ _ ?_ (fun hHeld => ?_)
     ·((try dsimp only); (first | with_reducible exact hk0 | (refine KB.out _ ?_; with_reducible (first | assumption | exact (HM3.out.alloc _).drew | exact HM3.out.drew.alloc _ | exact M4 | exact M4.set_other (a := ⟨wb, 5, none⟩) hqwb _))))
     clear hK K
     (try simp only [Act.put, List.setIfInBounds_toArray, List.set_cons_zero, List.set_cons_succ])
     refine wpAnyH_ready (rs := [17]) (by kernel_rfl) (by simp) ?_
     refine zAn rfl (fun K hK => ?_) (AllReadyH.nil)
     ((first | (refine step_append_lies _ (by rfl) _ _ _ (by rfl) B 57 i0 _ 5 48 Tryz.underlying41 hi0 hz0 hz1 hz2 rfl (by omega) av k xs (by rfl) (by first | exact hown3.drew.alloc _ | exact (hown3.alloc _).drew) ⟨w3.heap.size, 0, none⟩ 1 1 [.int .i64 kd, .int .i64 (v : Int), .int .i64 gen, .int .i64 rd, .string mk] (by rfl) (by rfl) (by first | exact (World.news_of_block (cs := #[.int .i64 kd, .int .i64 (v : Int), .int .i64 gen, .int .i64 rd, .string mk]) (t := 57) (fr := (0, 0)) (heap_alloc_new w3.drew _)) | exact (World.news_of_block (cs := #[.int .i64 kd, .int .i64 (v : Int), .int .i64 gen, .int .i64 rd, .string mk]) (t := 57) (fr := (0, 0)) (heap_alloc_new w3 _))) (by simp [Value.oneCell']) (by omega) (by unfold maxLen; omega) (by omega) (by simp; omega) (w3.heap.size + 1) (by simp) ?_; intro gg cap w4 hown4 hgrow hat hlt; have hc4 := hgrow.cell_far ⟨wb, 5, none⟩ (by simp; omega) (Ne.symm hnw); have hf4 := hgrow.frozen_far ⟨wb, 5, none⟩ (by simp; omega) (Ne.symm hnw); have M4 : Blk w4 q [.int .i64 kd, .int .i64 (v : Int), .int .i64 id, .int .i64 bal, .int .i64 gen, .int .i64 basis, .int .i64 fl, .int .i64 tp, .int .i64 rd, .string mk, .int .i64 pa, .int .i64 po, .string pt, .slice la l6 lc] 30 := by (first | exact zAr (HM3.out.drew.alloc _) hgrow hnq | exact zAr (HM3.out.alloc _).drew hgrow hnq))))
     refine hK.out _ _ ?_ (fun hHeld => ?_)
     ·((try dsimp only); (first | with_reducible exact hk0 | (refine KB.out _ ?_; with_reducible (first | assumption | exact (HM3.out.alloc _).drew | exact HM3.out.drew.alloc _ | exact M4 | exact M4.set_other (a := ⟨wb, 5, none⟩) hqwb _))))
     clear hK K
     (try simp only [Act.put, List.setIfInBounds_toArray, List.set_cons_zero, List.set_cons_succ])
     refine zAw (i := 18) (v := ?_) rfl (by kernel_rfl) (by kernel_rfl) (by kernel_rfl) (fun _ _ _ h => h) (by rfl) (fun w hSw => ?_) (by assumption) ?_
     rotate_left
     ·((try dsimp only at hSw); go_simp; (try with_reducible rfl))
     (try simp only [Act.put, List.setIfInBounds_toArray, List.set_cons_zero, List.set_cons_succ])
     refine zAw (i := 19) (v := ?_) rfl (by kernel_rfl) (by kernel_rfl) (by kernel_rfl) (fun _ _ _ h => h) (by rfl) (fun w hSw => ?_) (by assumption) ?_
     rotate_left
     ·((try dsimp only at hSw); go_simp; (try with_reducible rfl))
     (try simp only [Act.put, List.setIfInBounds_toArray, List.set_cons_zero, List.set_cons_succ])
     refine wpAnyH_ready (rs := [20]) (by kernel_rfl) (by simp) ?_
     refine zAn rfl (fun K hK => ?_) (AllReadyH.nil)
     go_simp
     refine hK.out _ _ ?_ (fun hHeld => ?_)
     ·((try dsimp only); (first | with_reducible exact hk0 | (refine KB.out _ ?_; with_reducible (first | assumption | exact (HM3.out.alloc _).drew | exact HM3.out.drew.alloc _ | exact M4 | exact M4.set_other (a := ⟨wb, 5, none⟩) hqwb _))))
     clear hK K
     (try simp only [Act.put, List.setIfInBounds_toArray, List.set_cons_zero, List.set_cons_succ])
     refine wpAnyH_done (by kernel_rfl) ?_ _
    all_goals (refine NoPanic.normal ?_)
    all_goals go_wp2_with fail
    all_goals go_meet
    all_goals
     have hgc : gg ≠ wb := by
      rcases hat with e | e
      ·intro e2; exact hnw (by rw [e, e2])
      ·omega
     have q1 : Blk (w4.setCell ⟨wb, 5, none⟩ (.slice (some ⟨gg, 0, none⟩) (k + 1) cap)) wb (zCY c bk id (np : Int) sv (.slice (some ⟨gg, 0, none⟩) (k + 1) cap)) 43 := by
      first
      | exact (zAr (HW3.out.drew.alloc (.cells #[.int .i64 kd, .int .i64 (v : Int), .int .i64 gen, .int .i64 rd, .string mk] 57)) hgrow hnw).set 5 (.slice (some ⟨gg, 0, none⟩) (k + 1) cap)
      | exact (zAr (HW3.out.alloc (.cells #[.int .i64 kd, .int .i64 (v : Int), .int .i64 gen, .int .i64 rd, .string mk] 57)).drew hgrow hnw).set 5 (.slice (some ⟨gg, 0, none⟩) (k + 1) cap)
     refine ⟨_, q1, M4.set_other (a := ⟨wb, 5, none⟩) hqwb _, ?_, ?_, ?_⟩
     ·exact zAj hown4 ((Touch.refl (fun k => k = wb) w4).set (p := ⟨wb, 5, none⟩) (Or.inl rfl) _) (fun g hg e => hgc (by simp [Value.ownBlock] at hg; omega))
     ·intro g hg
      have hgg : gg = g := by simpa [Value.ownBlock] using hg
      subst hgg
      have := HT3.out.size
      rcases hat with e | e
      ·exact Or.inl e
      ·exact Or.inr (by omega)
     ·first
      | exact (zAm ((HT3.out.drew).alloc (.cells #[.int .i64 kd, .int .i64 (v : Int), .int .i64 gen, .int .i64 rd, .string mk] 57)) hgrow (fun g hg => Or.inl (Or.inr hg))).set (p := ⟨wb, 5, none⟩) (Or.inl (Or.inl rfl)) _
      | exact (zAm ((HT3.out.alloc (.cells #[.int .i64 kd, .int .i64 (v : Int), .int .i64 gen, .int .i64 rd, .string mk] 57)).drew) hgrow (fun g hg => Or.inl (Or.inr hg))).set (p := ⟨wb, 5, none⟩) (Or.inl (Or.inl rfl)) _
   case rest =>
    obtain ⟨av', HW5, HM5, HR5, hv5, hT5⟩ := hcut
    clear d5 m0 m1 m4 m8 m9 hown3 hnw hnq f5 hfa hfb HM3 HW3 HC3 HT3 HA3
    have HH5 := hid (HH.out (wc.drew) av' hT5.drew HW5.out.drew (zAc HR5.out (Below.refl _ _).drew) hv5)
    have hwb0 : wc.cell? ⟨wb, 0, none⟩ = some (.pointer (some ⟨c, 0, none⟩)) := HW5.out.cell 0
    have n0 : wc.cell? ⟨q, 0, none⟩ = some (.int .i64 kd) := HM5.out.cell 0
    have n1 : wc.cell? ⟨q, 1, none⟩ = some (.int .i64 (v : Int)) := HM5.out.cell 1
    have n2 : wc.cell? ⟨q, 2, none⟩ = some (.int .i64 id) := HM5.out.cell 2
    have n3 : wc.cell? ⟨q, 3, none⟩ = some (.int .i64 bal) := HM5.out.cell 3
    have n4 : wc.cell? ⟨q, 4, none⟩ = some (.int .i64 gen) := HM5.out.cell 4
    have n5 : wc.cell? ⟨q, 5, none⟩ = some (.int .i64 basis) := HM5.out.cell 5
    have n6 : wc.cell? ⟨q, 6, none⟩ = some (.int .i64 fl) := HM5.out.cell 6
    have n7 : wc.cell? ⟨q, 7, none⟩ = some (.int .i64 tp) := HM5.out.cell 7
    have n8 : wc.cell? ⟨q, 8, none⟩ = some (.int .i64 rd) := HM5.out.cell 8
    have n9 : wc.cell? ⟨q, 9, none⟩ = some (.string mk) := HM5.out.cell 9
    have n10 : wc.cell? ⟨q, 10, none⟩ = some (.int .i64 pa) := HM5.out.cell 10
    have n11 : wc.cell? ⟨q, 11, none⟩ = some (.int .i64 po) := HM5.out.cell 11
    have n12 : wc.cell? ⟨q, 12, none⟩ = some (.string pt) := HM5.out.cell 12
    have n13 : wc.cell? ⟨q, 13, none⟩ = some (.slice la l6 lc) := HM5.out.cell 13
    go_upto_region 5 with fail
    go_still_tail 5, (by kernel_rfl)
    change wpList _ _ _ _ _ wc.drew
    generalize wc.drew = w6 at HH5 ⊢
    clear n0 n1 n2 n3 n4 n5 n6 n7 n8 n9 n10 n11 n12 n13 hwb0 HW5 HM5 HR5 hv5 hT5 HH
    go_wp2_with fail
    refine HH5.out.mono ?_
    rintro e w7 ⟨rfl, hR⟩
    have HR7 := hid hR
    clear hR
    go_wp2_with fail
    go_end0
    exact ⟨rfl, HR7.out⟩
theorem zIQ (wb c bk k B np : Nat) (id bal kd fr to' bl gen basis fl tp rd pa po : Int) (mk pt : ByteArray) (la : Option Addr) (ll lc l6 : Nat) (sv av : Value) (xs : List Value) (S : CSt) (w : World)
  (hW : Blk w wb (zCY c bk id (np : Int) sv av) 43) (hC : zAb w c S) (hn : 1 ≤ S.n) (hb : S.ballot = bal) (hA : w.ownsRow B 57 5 av k xs) (hl6 : l6 = min ll 64) (hlc : ll ≤ lc)
  (hno : to' ≠ id ∨ fr < 0 ∨ (np : Int) ≤ fr ∨ bl ≠ bal)
  (hH : ∀ w1, Below w.heap.size w w1 → Calls Tryz.prog 47 #[.pointer (some ⟨c, 0, none⟩), .agg #[.int .i64 kd, .int .i64 fr, .int .i64 to', .int .i64 bl, .int .i64 gen, .int .i64 basis, .int .i64 fl, .int .i64 tp, .int .i64 rd, .string mk, .int .i64 pa, .int .i64 po, .string pt, .slice la l6 lc]] w1 fun e w' => e = .returned (.tuple #[]) ∧ R w') :
  Calls Tryz.prog 29 #[.pointer (some ⟨wb, 0, none⟩), .agg #[.int .i64 kd, .int .i64 fr, .int .i64 to', .int .i64 bl, .int .i64 gen, .int .i64 basis, .int .i64 fl, .int .i64 tp, .int .i64 rd, .string mk, .int .i64 pa, .int .i64 po, .string pt, .slice la ll lc]] w fun e w' => e = .returned (.tuple #[]) ∧ R w' := by
 have HW := hid hW
 have HC := hid hC
 have HA := hid hA
 have HH := hid hH
 have hwl := hW.lt
 have HB1 := hid ((Below.refl w.heap.size w).alloc (Nat.le_refl _) (.cells #[.int .i64 kd, .int .i64 fr, .int .i64 to', .int .i64 bl, .int .i64 gen, .int .i64 basis, .int .i64 fl, .int .i64 tp, .int .i64 rd, .string mk, .int .i64 pa, .int .i64 po, .string pt, .slice la ll lc] 30))
 have HQ1 := hid (Blk.new w [.int .i64 kd, .int .i64 fr, .int .i64 to', .int .i64 bl, .int .i64 gen, .int .i64 basis, .int .i64 fl, .int .i64 tp, .int .i64 rd, .string mk, .int .i64 pa, .int .i64 po, .string pt, .slice la ll lc] 30)
 have Hl6 := hid hl6
 clear hW hC hA hH hl6
 go_enter Tryz.func29, Tryz.ntmps29
 go_upto_region 1 with fail
 have b1 := HB1.out
 have q1 := HQ1.out
 clear HB1 HQ1
 generalize w.alloc (.cells #[.int .i64 kd, .int .i64 fr, .int .i64 to', .int .i64 bl, .int .i64 gen, .int .i64 basis, .int .i64 fl, .int .i64 tp, .int .i64 rd, .string mk, .int .i64 pa, .int .i64 po, .string pt, .slice la ll lc] 30) = w1 at b1 q1 ⊢
 obtain ⟨q, hq⟩ : ∃ q, q = w.heap.size := ⟨_, rfl⟩
 rw [← hq] at q1 ⊢
 have Hq := hid hq
 clear hq
 have m13 : w1.cell? ⟨q, 13, none⟩ = some (.slice la ll lc) := q1.cell 13
 have f13 := q1.free 13
 have hql1 := q1.lt
 go_cut [7] (fun v wx => v = .bool (decide ((64 : Int) < (ll : Int))) ∧ w1 = wx)
 case first =>
  by_cases hl : (64 : Int) < (ll : Int)
  ·go_wp2_with fail
   go_meet
   exact ⟨by rw [decide_eq_true (show (64 : Int) < (ll : Int) by omega)], rfl⟩
  ·go_wp2_with fail
   go_meet
   exact ⟨by rw [decide_eq_false (show ¬ (64 : Int) < (ll : Int) by omega)], rfl⟩
 case rest =>
  obtain ⟨rfl, rfl⟩ := hcut
  go_upto_if 7 with (fail)
  go_cut [] (fun wx => Hid (Blk wx q [.int .i64 kd, .int .i64 fr, .int .i64 to', .int .i64 bl, .int .i64 gen, .int .i64 basis, .int .i64 fl, .int .i64 tp, .int .i64 rd, .string mk, .int .i64 pa, .int .i64 po, .string pt, .slice la l6 lc] 30) ∧ Hid (Below w.heap.size w wx))
  case first =>
   by_cases hl : (64 : Int) < (ll : Int)
   ·have e6 : l6 = 64 := by have := Hl6.out; omega
    have hlc64 : 64 ≤ lc := by omega
    go_wp2_with fail
    go_meet
    exact ⟨hid (by rw [e6]; exact q1.set 13 _), hid (b1.setCell (p := ⟨q, 13, none⟩) (show w.heap.size ≤ q by have := Hq.out; omega) _)⟩
   ·have e6 : l6 = ll := by have := Hl6.out; omega
    go_wp2_with fail
    go_meet
    exact ⟨hid (by rw [e6]; exact q1), hid b1⟩
  case rest =>
   obtain ⟨HM2, HB2⟩ := hcut
   clear m13 f13 hql1 b1 q1
   generalize wc = w2 at HM2 HB2 ⊢
   have W2 := HW.out.below HB2.out
   have C2 := HC.out.below HB2.out
   have c0 : w2.cell? ⟨wb, 0, none⟩ = some (.pointer (some ⟨c, 0, none⟩)) := W2.cell 0
   have c2 : w2.cell? ⟨wb, 2, none⟩ = some (.int .i64 id) := W2.cell 2
   have c3 : w2.cell? ⟨wb, 3, none⟩ = some (.int .i64 (np : Int)) := W2.cell 3
   have m1 : w2.cell? ⟨q, 1, none⟩ = some (.int .i64 fr) := HM2.out.cell 1
   have m2 : w2.cell? ⟨q, 2, none⟩ = some (.int .i64 to') := HM2.out.cell 2
   have m3 : w2.cell? ⟨q, 3, none⟩ = some (.int .i64 bl) := HM2.out.cell 3
   have hwl2 := W2.lt
   have hql2 := HM2.out.lt
   have Hb0 := hid (fun n => zBP c S (w2.drewN n) (C2.drewN n) hn)
   rw [hb] at Hb0
   clear C2
   have hcs : (to' == id) = false ∨ ((to' == id) = true ∧ ¬ 0 ≤ fr) ∨ ((to' == id) = true ∧ 0 ≤ fr ∧ ¬ fr < (np : Int)) ∨ ((to' == id) = true ∧ 0 ≤ fr ∧ fr < (np : Int) ∧ (bl == bal) = false) := by
    by_cases h1 : to' = id
    ·have h1b : (to' == id) = true := by rw [h1]; simp
     by_cases h2 : 0 ≤ fr
     ·by_cases h3 : fr < (np : Int)
      ·refine Or.inr (Or.inr (Or.inr ⟨h1b, h2, h3, ?_⟩))
       rw [beq_eq_false_iff_ne]
       rcases hno with e | e | e | e
       ·exact absurd h1 e
       ·omega
       ·omega
       ·exact e
      ·exact Or.inr (Or.inr (Or.inl ⟨h1b, h2, h3⟩))
     ·exact Or.inr (Or.inl ⟨h1b, h2⟩)
    ·exact Or.inl (by rw [beq_eq_false_iff_ne]; exact h1)
   clear hno
   go_upto_region 3 with fail
   go_cut [42] (fun v wx => v = .bool false ∧ ∃ nq, wx = w2.drewN nq)
   case first =>
    rcases hcs with hcs | ⟨hcs, h2⟩ | ⟨hcs, h2, h3⟩ | ⟨hcs, h2, h3, h4⟩
    all_goals
     go_quiet ((go_at_call 30; first | exact zAf (Hb0.out _) | exact quiet_add_left (Hb0.out _)))
     go_wp2_with fail
     go_meet
     exact ⟨rfl, _, rfl⟩
   case rest =>
    obtain ⟨rfl, nq, rfl⟩ := hcut
    clear hcs
    have M3 := HM2.out.drewN nq
    have W3 := W2.drewN nq
    have C3 := (HC.out.below HB2.out).drewN nq
    have b3 := below_drewN HB2.out nq
    have A3 := zAc HA.out b3
    have z3 : q < (w2.drewN nq).heap.size := hql2
    generalize w2.drewN nq = w3 at M3 W3 C3 b3 A3 z3 ⊢
    have hqb : wb < q := by have := Hq.out; omega
    have HM3 := hid M3
    have HH5 := hid (HH.out (w3.drew) b3.drew)
    have c05 : w3.cell? ⟨wb, 0, none⟩ = some (.pointer (some ⟨c, 0, none⟩)) := W3.cell 0
    have n0 : w3.cell? ⟨q, 0, none⟩ = some (.int .i64 kd) := M3.cell 0
    have n1 : w3.cell? ⟨q, 1, none⟩ = some (.int .i64 fr) := M3.cell 1
    have n2 : w3.cell? ⟨q, 2, none⟩ = some (.int .i64 to') := M3.cell 2
    have n3 : w3.cell? ⟨q, 3, none⟩ = some (.int .i64 bl) := M3.cell 3
    have n4 : w3.cell? ⟨q, 4, none⟩ = some (.int .i64 gen) := M3.cell 4
    have n5 : w3.cell? ⟨q, 5, none⟩ = some (.int .i64 basis) := M3.cell 5
    have n6 : w3.cell? ⟨q, 6, none⟩ = some (.int .i64 fl) := M3.cell 6
    have n7 : w3.cell? ⟨q, 7, none⟩ = some (.int .i64 tp) := M3.cell 7
    have n8 : w3.cell? ⟨q, 8, none⟩ = some (.int .i64 rd) := M3.cell 8
    have n9 : w3.cell? ⟨q, 9, none⟩ = some (.string mk) := M3.cell 9
    have n10 : w3.cell? ⟨q, 10, none⟩ = some (.int .i64 pa) := M3.cell 10
    have n11 : w3.cell? ⟨q, 11, none⟩ = some (.int .i64 po) := M3.cell 11
    have n12 : w3.cell? ⟨q, 12, none⟩ = some (.string pt) := M3.cell 12
    have n13 : w3.cell? ⟨q, 13, none⟩ = some (.slice la l6 lc) := M3.cell 13
    have hwl3 := W3.lt
    clear HM2 HB2 W2 W3 C3 A3 M3 b3 HH c0 c2 c3 m1 m2 m3 Hb0 HW HC HA
    go_upto_region 5 with fail
    go_still_tail 5, (by kernel_rfl)
    change wpList _ _ _ _ _ w3.drew
    generalize w3.drew = w6 at HH5 ⊢
    clear n0 n1 n2 n3 n4 n5 n6 n7 n8 n9 n10 n11 n12 n13 c05 HM3
    go_wp2_with fail
    refine HH5.out.mono ?_
    rintro e w7 ⟨rfl, hR⟩
    have HR7 := hid hR
    clear hR
    go_wp2_with fail
    go_end0
    exact ⟨rfl, HR7.out⟩
end Go.Proofs.YtaemlplcjjbamaaGreatDoor
