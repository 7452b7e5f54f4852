/- The walk of the statement's handle at any message of the coordinator's own ballot (printed by wip/mkctold.py out of XTold): what it told is kept, then the coordinator takes it. Conditions: fewer than 10^6 are kept. -/
import Derived.Test.YtaemlplcjjbamaaGreatDoorBCAcc
import Derived.StillTailTactics
import Derived.Deep.RegionLaw
import Derived.Deep.DrawnRows
import Derived.Deep.AppendLies
import Derived.Deep.RegionHeld3
import Derived.Test.YtaemlplcjjbamaaGreatDoorBHeld
namespace Go.Proofs.YtaemlplcjjbamaaGreatDoor
open Go Go.RowKit
set_option linter.unusedVariables false
theorem info_toldC : (Tryz.prog.info? 57).map (fun i => (i.zero, i.size, i.bytes)) = some (some (.agg #[.int .i64 0, .int .i64 0, .int .i64 0, .int .i64 0, .string ByteArray.empty]), 5, 48) := by kernel_rfl
/-- the statement's struct: its coordinator, book, what was sent last and what was told -/
def worldC (c bk : Nat) (id n : Int) (sv av : Value) : List Value := [.pointer (some ⟨c, 0, none⟩), .pointer (some ⟨bk, 0, none⟩), .int .i64 id, .int .i64 n, sv, av, .int .i64 0]
/-- the blocks that keeping what was told may turn -/
def InToldC (wb : Nat) (av : Value) : Nat → Prop := fun j => j = wb ∨ av.ownBlock = some j
set_option maxRecDepth 100000 in
set_option maxHeartbeats 8000000 in
theorem wHandle_any {R : World → Prop} (wb c bk v k B np : Nat) (id bal kd gen basis fl tp rd pa po : Int) (mk pt : ByteArray) (la : Option Addr) (ll lc : Nat) (sv av : Value) (xs : List Value) (S : CSt) (w : World)
    (hW : Blk w wb (worldC c bk id (np : Int) sv av) 43) (hC : CoordAt w c S) (hn : 1 ≤ S.n) (hb : S.ballot = bal) (hA : w.ownsRow B 57 5 av k xs) (hB : B ≤ w.heap.size) (hk : k ≤ 1000000) (hv : v < np) (hll : ll ≤ 64)
    (hH : ∀ w1 av', Touch (InToldC wb av) w w1 → Blk w1 wb (worldC c bk id (np : Int) sv av') 43 → w1.ownsRow B 57 5 av' (k + 1) (xs ++ [.int .i64 kd, .int .i64 (v : Int), .int .i64 gen, .int .i64 rd, .string mk]) → (∀ g, av'.ownBlock = some g → av.ownBlock = some g ∨ w.heap.size ≤ g) →
      Calls Tryz.prog 47 #[.pointer (some ⟨c, 0, none⟩), .agg #[.int .i64 kd, .int .i64 (v : Int), .int .i64 id, .int .i64 bal, .int .i64 gen, .int .i64 basis, .int .i64 fl, .int .i64 tp, .int .i64 rd, .string mk, .int .i64 pa, .int .i64 po, .string pt, .slice la ll lc]] w1 fun e w' => e = .returned (.tuple #[]) ∧ R w') :
    Calls Tryz.prog 29 #[.pointer (some ⟨wb, 0, none⟩), .agg #[.int .i64 kd, .int .i64 (v : Int), .int .i64 id, .int .i64 bal, .int .i64 gen, .int .i64 basis, .int .i64 fl, .int .i64 tp, .int .i64 rd, .string mk, .int .i64 pa, .int .i64 po, .string pt, .slice la ll lc]] w fun e w' => e = .returned (.tuple #[]) ∧ R w' := by
  have hwl := hW.lt
  have c0 : w.cell? ⟨wb, 0, none⟩ = some (.pointer (some ⟨c, 0, none⟩)) := hW.cell 0
  have c2 : w.cell? ⟨wb, 2, none⟩ = some (.int .i64 id) := hW.cell 2
  have c3 : w.cell? ⟨wb, 3, none⟩ = some (.int .i64 (np : Int)) := hW.cell 3
  have Hb0 := Lib.hid (fun n => ballotOf_any c S ((w.alloc (.cells #[.int .i64 kd, .int .i64 (v : Int), .int .i64 id, .int .i64 bal, .int .i64 gen, .int .i64 basis, .int .i64 fl, .int .i64 tp, .int .i64 rd, .string mk, .int .i64 pa, .int .i64 po, .string pt, .slice la ll lc] 30)).drewN n) ((hC.alloc _).drewN n) hn)
  rw [hb] at Hb0
  have hv0 : (0 : Int) ≤ (v : Int) := by omega
  have hv3 : (v : Int) < (np : Int) := by omega
  have hl64 : ¬ (64 : Int) < (ll : Int) := by omega
  have eid : (id == id) = true := by simp
  have ebal : (bal == bal) = true := by simp
  have HW := Lib.hid hW
  have HC := Lib.hid hC
  have HA := Lib.hid hA
  have HH := Lib.hid hH
  clear hW hC hA hH hb hn
  go_enter Tryz.func29, Tryz.ntmps29
  go_wp2
  go_quiet ((go_at_call 30; first | exact quiet_left (Hb0.out _) | exact quiet_add_left (Hb0.out _)))
  go_upto_region 4 with fail
  have M3 := (Blk.new w [.int .i64 kd, .int .i64 (v : Int), .int .i64 id, .int .i64 bal, .int .i64 gen, .int .i64 basis, .int .i64 fl, .int .i64 tp, .int .i64 rd, .string mk, .int .i64 pa, .int .i64 po, .string pt, .slice la ll lc] 30).drewN nq
  have W3 := (HW.out.alloc (.cells #[.int .i64 kd, .int .i64 (v : Int), .int .i64 id, .int .i64 bal, .int .i64 gen, .int .i64 basis, .int .i64 fl, .int .i64 tp, .int .i64 rd, .string mk, .int .i64 pa, .int .i64 po, .string pt, .slice la ll lc] 30)).drewN nq
  have C3 := (HC.out.alloc (.cells #[.int .i64 kd, .int .i64 (v : Int), .int .i64 id, .int .i64 bal, .int .i64 gen, .int .i64 basis, .int .i64 fl, .int .i64 tp, .int .i64 rd, .string mk, .int .i64 pa, .int .i64 po, .string pt, .slice la ll lc] 30)).drewN nq
  have b3 := below_drewN ((Below.refl w.heap.size w).alloc (Nat.le_refl _) (.cells #[.int .i64 kd, .int .i64 (v : Int), .int .i64 id, .int .i64 bal, .int .i64 gen, .int .i64 basis, .int .i64 fl, .int .i64 tp, .int .i64 rd, .string mk, .int .i64 pa, .int .i64 po, .string pt, .slice la ll lc] 30)) nq
  have A3 := ownsRow_below HA.out b3
  have z3 : w.heap.size < ((w.alloc (.cells #[.int .i64 kd, .int .i64 (v : Int), .int .i64 id, .int .i64 bal, .int .i64 gen, .int .i64 basis, .int .i64 fl, .int .i64 tp, .int .i64 rd, .string mk, .int .i64 pa, .int .i64 po, .string pt, .slice la ll lc] 30)).drewN nq).heap.size := by show _ < (w.alloc (.cells #[.int .i64 kd, .int .i64 (v : Int), .int .i64 id, .int .i64 bal, .int .i64 gen, .int .i64 basis, .int .i64 fl, .int .i64 tp, .int .i64 rd, .string mk, .int .i64 pa, .int .i64 po, .string pt, .slice la ll lc] 30)).heap.size; simp
  generalize (w.alloc (.cells #[.int .i64 kd, .int .i64 (v : Int), .int .i64 id, .int .i64 bal, .int .i64 gen, .int .i64 basis, .int .i64 fl, .int .i64 tp, .int .i64 rd, .string mk, .int .i64 pa, .int .i64 po, .string pt, .slice la ll lc] 30)).drewN nq = w3 at M3 W3 C3 b3 A3 z3 ⊢
  obtain ⟨q, hq⟩ : ∃ q, q = w.heap.size := ⟨_, rfl⟩
  rw [← hq] at M3 z3 ⊢
  have hqb : wb < q := by omega
  have HQ := Lib.hid hq
  have HM3 := Lib.hid M3
  have HW3 := Lib.hid W3
  have HC3 := Lib.hid C3
  have HT3 := Lib.hid (Touch.of_below (S := InToldC wb av) b3)
  have HA3 := Lib.hid A3
  have hBq : B ≤ w3.heap.size := by omega
  clear c0 c2 c3 Hb0 HW HC HA hq M3 W3 C3 b3 A3
  have hown3 := HA3.out
  have d5 : w3.cell? ⟨wb, 5, none⟩ = some av := HW3.out.cell 5
  have m0 : w3.cell? ⟨q, 0, none⟩ = some (.int .i64 kd) := HM3.out.cell 0
  have m1 : w3.cell? ⟨q, 1, none⟩ = some (.int .i64 (v : Int)) := HM3.out.cell 1
  have m4 : w3.cell? ⟨q, 4, none⟩ = some (.int .i64 gen) := HM3.out.cell 4
  have m8 : w3.cell? ⟨q, 8, none⟩ = some (.int .i64 rd) := HM3.out.cell 8
  have m9 : w3.cell? ⟨q, 9, none⟩ = some (.string mk) := HM3.out.cell 9
  have hnw : av.ownBlock ≠ some wb := row_ne hown3 HW3.out (by decide)
  have hnq : av.ownBlock ≠ some q := row_ne hown3 HM3.out (by decide)
  have f5 := HW3.out.free 5
  have hwl3 := HW3.out.lt
  have hfa : ∀ o : Obj, (w3.alloc o).drew.frozen? ⟨wb, 5, none⟩ = false := fun o => (HW3.out.alloc o).drew.free 5
  have hfb : ∀ o : Obj, (w3.alloc o).frozen? ⟨wb, 5, none⟩ = false := fun o => (HW3.out.alloc o).free 5
  obtain ⟨i0, hi0, hz0, hz1, hz2⟩ := info_parts info_toldC
  go_cut [] (fun wx => ∃ av', Hid (Blk wx wb (worldC c bk id (np : Int) sv av') 43) ∧ Hid (Blk wx q [.int .i64 kd, .int .i64 (v : Int), .int .i64 id, .int .i64 bal, .int .i64 gen, .int .i64 basis, .int .i64 fl, .int .i64 tp, .int .i64 rd, .string mk, .int .i64 pa, .int .i64 po, .string pt, .slice la ll lc] 30) ∧ Hid (wx.ownsRow B 57 5 av' (k + 1) (xs ++ [.int .i64 kd, .int .i64 (v : Int), .int .i64 gen, .int .i64 rd, .string mk])) ∧ (∀ g, av'.ownBlock = some g → av.ownBlock = some g ∨ w.heap.size ≤ g) ∧ Touch (InToldC wb av) w wx)
  case first =>
    have KB := Lib.hid (show ∀ w', Blk w' q [.int .i64 kd, .int .i64 (v : Int), .int .i64 id, .int .i64 bal, .int .i64 gen, .int .i64 basis, .int .i64 fl, .int .i64 tp, .int .i64 rd, .string mk, .int .i64 pa, .int .i64 po, .string pt, .slice la ll lc] 30 → (w'.cell? ⟨q, 0, none⟩ = some (.int .i64 kd) ∧ w'.cell? ⟨q, 1, none⟩ = some (.int .i64 (v : Int)) ∧ w'.cell? ⟨q, 4, none⟩ = some (.int .i64 gen) ∧ w'.cell? ⟨q, 8, none⟩ = some (.int .i64 rd) ∧ w'.cell? ⟨q, 9, none⟩ = some (.string mk)) from fun w' h => ⟨h.cell 0, h.cell 1, h.cell 4, h.cell 8, h.cell 9⟩)
    have hk0 := KB.out _ HM3.out.drew
    have d5' : w3.drew.cell? ⟨wb, 5, none⟩ = some av := d5
    have hqwb : q ≠ wb := by omega
    have hwl3' : wb < w3.drew.heap.size := hwl3
    have f5' : w3.drew.frozen? ⟨wb, 5, none⟩ = false := f5
    refine wp_region_noPanic ?_
    refine wp_region_held_drew (S := (fun w' => w'.cell? ⟨q, 0, none⟩ = some (.int .i64 kd) ∧ w'.cell? ⟨q, 1, none⟩ = some (.int .i64 (v : Int)) ∧ w'.cell? ⟨q, 4, none⟩ = some (.int .i64 gen) ∧ w'.cell? ⟨q, 8, none⟩ = some (.int .i64 rd) ∧ w'.cell? ⟨q, 9, none⟩ = some (.string mk))) (by kernel_rfl) ?_ (fun hHeld => ?_)
    · ((try dsimp only); (first | with_reducible exact hk0 | (refine KB.out _ ?_; with_reducible (first | assumption | exact (HM3.out.alloc _).drew | exact HM3.out.drew.alloc _ | exact M4 | exact M4.set_other (a := ⟨wb, 5, none⟩) hqwb _))))
    refine held_take (i := 0) (v := ?_) rfl (by kernel_rfl) (by kernel_rfl) (by kernel_rfl) (fun _ _ _ h => h) (by rfl) (fun w hSw => ?_) (by assumption) ?_
    rotate_left
    · ((try dsimp only at hSw); go_simp; (try with_reducible rfl))
    (try simp only [Act.put, List.setIfInBounds_toArray, List.set_cons_zero, List.set_cons_succ])
    refine held_take (i := 1) (v := ?_) rfl (by kernel_rfl) (by kernel_rfl) (by kernel_rfl) (fun _ _ _ h => h) (by rfl) (fun w hSw => ?_) (by assumption) ?_
    rotate_left
    · ((try dsimp only at hSw); go_simp; (try with_reducible rfl))
    (try simp only [Act.put, List.setIfInBounds_toArray, List.set_cons_zero, List.set_cons_succ])
    refine held_take (i := 2) (v := ?_) rfl (by kernel_rfl) (by kernel_rfl) (by kernel_rfl) (fun _ _ _ h => h) (by rfl) (fun w hSw => ?_) (by assumption) ?_
    rotate_left
    · ((try dsimp only at hSw); go_simp; (try with_reducible rfl))
    (try simp only [Act.put, List.setIfInBounds_toArray, List.set_cons_zero, List.set_cons_succ])
    refine held_take (i := 3) (v := ?_) rfl (by kernel_rfl) (by kernel_rfl) (by kernel_rfl) (fun _ _ _ h => h) (by rfl) (fun w hSw => ?_) (by assumption) ?_
    rotate_left
    · ((try dsimp only at hSw); go_simp; (try with_reducible rfl))
    (try simp only [Act.put, List.setIfInBounds_toArray, List.set_cons_zero, List.set_cons_succ])
    refine held_take (i := 5) (v := ?_) rfl (by kernel_rfl) (by kernel_rfl) (by kernel_rfl) (fun _ _ _ h => h) (by rfl) (fun w hSw => ?_) (by assumption) ?_
    rotate_left
    · ((try dsimp only at hSw); go_simp; (try with_reducible rfl))
    (try simp only [Act.put, List.setIfInBounds_toArray, List.set_cons_zero, List.set_cons_succ])
    refine held_take (i := 6) (v := ?_) rfl (by kernel_rfl) (by kernel_rfl) (by kernel_rfl) (fun _ _ _ h => h) (by rfl) (fun w hSw => ?_) (by assumption) ?_
    rotate_left
    · ((try dsimp only at hSw); go_simp; (try with_reducible rfl))
    (try simp only [Act.put, List.setIfInBounds_toArray, List.set_cons_zero, List.set_cons_succ])
    refine held_take (i := 7) (v := ?_) rfl (by kernel_rfl) (by kernel_rfl) (by kernel_rfl) (fun _ _ _ h => h) (by rfl) (fun w hSw => ?_) (by assumption) ?_
    rotate_left
    · ((try dsimp only at hSw); go_simp; (try with_reducible rfl))
    (try simp only [Act.put, List.setIfInBounds_toArray, List.set_cons_zero, List.set_cons_succ])
    refine held_take (i := 8) (v := ?_) rfl (by kernel_rfl) (by kernel_rfl) (by kernel_rfl) (fun _ _ _ h => h) (by rfl) (fun w hSw => ?_) (by assumption) ?_
    rotate_left
    · ((try dsimp only at hSw); go_simp; (try with_reducible rfl))
    (try simp only [Act.put, List.setIfInBounds_toArray, List.set_cons_zero, List.set_cons_succ])
    refine held_take (i := 9) (v := ?_) rfl (by kernel_rfl) (by kernel_rfl) (by kernel_rfl) (fun _ _ _ h => h) (by rfl) (fun w hSw => ?_) (by assumption) ?_
    rotate_left
    · ((try dsimp only at hSw); go_simp; (try with_reducible rfl))
    (try simp only [Act.put, List.setIfInBounds_toArray, List.set_cons_zero, List.set_cons_succ])
    refine held_take (i := 10) (v := ?_) rfl (by kernel_rfl) (by kernel_rfl) (by kernel_rfl) (fun _ _ _ h => h) (by rfl) (fun w hSw => ?_) (by assumption) ?_
    rotate_left
    · ((try dsimp only at hSw); go_simp; (try with_reducible rfl))
    (try simp only [Act.put, List.setIfInBounds_toArray, List.set_cons_zero, List.set_cons_succ])
    refine held_take (i := 11) (v := ?_) rfl (by kernel_rfl) (by kernel_rfl) (by kernel_rfl) (fun _ _ _ h => h) (by rfl) (fun w hSw => ?_) (by assumption) ?_
    rotate_left
    · ((try dsimp only at hSw); go_simp; (try with_reducible rfl))
    (try simp only [Act.put, List.setIfInBounds_toArray, List.set_cons_zero, List.set_cons_succ])
    refine held_take (i := 12) (v := ?_) rfl (by kernel_rfl) (by kernel_rfl) (by kernel_rfl) (fun _ _ _ h => h) (by rfl) (fun w hSw => ?_) (by assumption) ?_
    rotate_left
    · ((try dsimp only at hSw); go_simp; (try with_reducible rfl))
    (try simp only [Act.put, List.setIfInBounds_toArray, List.set_cons_zero, List.set_cons_succ])
    refine held_take (i := 13) (v := ?_) rfl (by kernel_rfl) (by kernel_rfl) (by kernel_rfl) (fun _ _ _ h => h) (by rfl) (fun w hSw => ?_) (by assumption) ?_
    rotate_left
    · ((try dsimp only at hSw); go_simp; (try with_reducible rfl))
    (try simp only [Act.put, List.setIfInBounds_toArray, List.set_cons_zero, List.set_cons_succ])
    refine held_take (i := 14) (v := ?_) rfl (by kernel_rfl) (by kernel_rfl) (by kernel_rfl) (fun _ _ _ h => h) (by rfl) (fun w hSw => ?_) (by assumption) ?_
    rotate_left
    · ((try dsimp only at hSw); go_simp; (try with_reducible rfl))
    (try simp only [Act.put, List.setIfInBounds_toArray, List.set_cons_zero, List.set_cons_succ])
    refine held_take (i := 15) (v := ?_) rfl (by kernel_rfl) (by kernel_rfl) (by kernel_rfl) (fun _ _ _ h => h) (by rfl) (fun w hSw => ?_) (by assumption) ?_
    rotate_left
    · ((try dsimp only at hSw); go_simp; (try with_reducible rfl))
    (try simp only [Act.put, List.setIfInBounds_toArray, List.set_cons_zero, List.set_cons_succ])
    refine wpAnyH_ready (rs := [4, 16]) (by kernel_rfl) (by simp) ?_
    refine held_cons rfl (fun K hK => ?_) (held_cons rfl (fun K hK => ?_) (AllReadyH.nil))
    focus
      go_simp
      refine hK.out _ _ ?_ (fun hHeld => ?_)
      · ((try dsimp only); (first | with_reducible exact hk0 | (refine KB.out _ ?_; with_reducible (first | assumption | exact (HM3.out.alloc _).drew | exact HM3.out.drew.alloc _ | exact M4 | exact M4.set_other (a := ⟨wb, 5, none⟩) hqwb _))))
      clear hK K
      (try simp only [Act.put, List.setIfInBounds_toArray, List.set_cons_zero, List.set_cons_succ])
      refine wpAnyH_ready (rs := [16]) (by kernel_rfl) (by simp) ?_
      refine held_cons rfl (fun K hK => ?_) (AllReadyH.nil)
      go_simp
      refine hK.out _ _ ?_ (fun hHeld => ?_)
      · ((try dsimp only); (first | with_reducible exact hk0 | (refine KB.out _ ?_; with_reducible (first | assumption | exact (HM3.out.alloc _).drew | exact HM3.out.drew.alloc _ | exact M4 | exact M4.set_other (a := ⟨wb, 5, none⟩) hqwb _))))
      clear hK K
      (try simp only [Act.put, List.setIfInBounds_toArray, List.set_cons_zero, List.set_cons_succ])
      refine wpAnyH_ready (rs := [17]) (by kernel_rfl) (by simp) ?_
      refine held_cons rfl (fun K hK => ?_) (AllReadyH.nil)
      ((first | (refine step_append_lies _ (by rfl) _ _ _ (by rfl) B 57 i0 _ 5 48 Tryz.underlying41 hi0 hz0 hz1 hz2 rfl (by omega) av k xs (by rfl) (by first | exact hown3.drew.alloc _ | exact (hown3.alloc _).drew) ⟨w3.heap.size, 0, none⟩ 1 1 [.int .i64 kd, .int .i64 (v : Int), .int .i64 gen, .int .i64 rd, .string mk] (by rfl) (by rfl) (by first | exact (World.news_of_block (cs := #[.int .i64 kd, .int .i64 (v : Int), .int .i64 gen, .int .i64 rd, .string mk]) (t := 57) (fr := (0, 0)) (heap_alloc_new w3.drew _)) | exact (World.news_of_block (cs := #[.int .i64 kd, .int .i64 (v : Int), .int .i64 gen, .int .i64 rd, .string mk]) (t := 57) (fr := (0, 0)) (heap_alloc_new w3 _))) (by simp [Value.oneCell']) (by omega) (by unfold maxLen; omega) (by omega) (by simp; omega) (w3.heap.size + 1) (by simp) ?_; intro gg cap w4 hown4 hgrow hat hlt; have hc4 := hgrow.cell_far ⟨wb, 5, none⟩ (by simp; omega) (Ne.symm hnw); have hf4 := hgrow.frozen_far ⟨wb, 5, none⟩ (by simp; omega) (Ne.symm hnw); have M4 : Blk w4 q [.int .i64 kd, .int .i64 (v : Int), .int .i64 id, .int .i64 bal, .int .i64 gen, .int .i64 basis, .int .i64 fl, .int .i64 tp, .int .i64 rd, .string mk, .int .i64 pa, .int .i64 po, .string pt, .slice la ll lc] 30 := by (first | exact blk_grown (HM3.out.drew.alloc _) hgrow hnq | exact blk_grown (HM3.out.alloc _).drew hgrow hnq))))
      refine hK.out _ _ ?_ (fun hHeld => ?_)
      · ((try dsimp only); (first | with_reducible exact hk0 | (refine KB.out _ ?_; with_reducible (first | assumption | exact (HM3.out.alloc _).drew | exact HM3.out.drew.alloc _ | exact M4 | exact M4.set_other (a := ⟨wb, 5, none⟩) hqwb _))))
      clear hK K
      (try simp only [Act.put, List.setIfInBounds_toArray, List.set_cons_zero, List.set_cons_succ])
      refine held_take (i := 18) (v := ?_) rfl (by kernel_rfl) (by kernel_rfl) (by kernel_rfl) (fun _ _ _ h => h) (by rfl) (fun w hSw => ?_) (by assumption) ?_
      rotate_left
      · ((try dsimp only at hSw); go_simp; (try with_reducible rfl))
      (try simp only [Act.put, List.setIfInBounds_toArray, List.set_cons_zero, List.set_cons_succ])
      refine held_take (i := 19) (v := ?_) rfl (by kernel_rfl) (by kernel_rfl) (by kernel_rfl) (fun _ _ _ h => h) (by rfl) (fun w hSw => ?_) (by assumption) ?_
      rotate_left
      · ((try dsimp only at hSw); go_simp; (try with_reducible rfl))
      (try simp only [Act.put, List.setIfInBounds_toArray, List.set_cons_zero, List.set_cons_succ])
      refine wpAnyH_ready (rs := [20]) (by kernel_rfl) (by simp) ?_
      refine held_cons rfl (fun K hK => ?_) (AllReadyH.nil)
      go_simp
      refine hK.out _ _ ?_ (fun hHeld => ?_)
      · ((try dsimp only); (first | with_reducible exact hk0 | (refine KB.out _ ?_; with_reducible (first | assumption | exact (HM3.out.alloc _).drew | exact HM3.out.drew.alloc _ | exact M4 | exact M4.set_other (a := ⟨wb, 5, none⟩) hqwb _))))
      clear hK K
      (try simp only [Act.put, List.setIfInBounds_toArray, List.set_cons_zero, List.set_cons_succ])
      refine wpAnyH_done (by kernel_rfl) ?_ _
    rotate_left 1
    focus
      go_simp
      refine hK.out _ _ ?_ (fun hHeld => ?_)
      · ((try dsimp only); (first | with_reducible exact hk0 | (refine KB.out _ ?_; with_reducible (first | assumption | exact (HM3.out.alloc _).drew | exact HM3.out.drew.alloc _ | exact M4 | exact M4.set_other (a := ⟨wb, 5, none⟩) hqwb _))))
      clear hK K
      (try simp only [Act.put, List.setIfInBounds_toArray, List.set_cons_zero, List.set_cons_succ])
      refine wpAnyH_ready (rs := [4]) (by kernel_rfl) (by simp) ?_
      refine held_cons rfl (fun K hK => ?_) (AllReadyH.nil)
      go_simp
      refine hK.out _ _ ?_ (fun hHeld => ?_)
      · ((try dsimp only); (first | with_reducible exact hk0 | (refine KB.out _ ?_; with_reducible (first | assumption | exact (HM3.out.alloc _).drew | exact HM3.out.drew.alloc _ | exact M4 | exact M4.set_other (a := ⟨wb, 5, none⟩) hqwb _))))
      clear hK K
      (try simp only [Act.put, List.setIfInBounds_toArray, List.set_cons_zero, List.set_cons_succ])
      refine wpAnyH_ready (rs := [17]) (by kernel_rfl) (by simp) ?_
      refine held_cons rfl (fun K hK => ?_) (AllReadyH.nil)
      ((first | (refine step_append_lies _ (by rfl) _ _ _ (by rfl) B 57 i0 _ 5 48 Tryz.underlying41 hi0 hz0 hz1 hz2 rfl (by omega) av k xs (by rfl) (by first | exact hown3.drew.alloc _ | exact (hown3.alloc _).drew) ⟨w3.heap.size, 0, none⟩ 1 1 [.int .i64 kd, .int .i64 (v : Int), .int .i64 gen, .int .i64 rd, .string mk] (by rfl) (by rfl) (by first | exact (World.news_of_block (cs := #[.int .i64 kd, .int .i64 (v : Int), .int .i64 gen, .int .i64 rd, .string mk]) (t := 57) (fr := (0, 0)) (heap_alloc_new w3.drew _)) | exact (World.news_of_block (cs := #[.int .i64 kd, .int .i64 (v : Int), .int .i64 gen, .int .i64 rd, .string mk]) (t := 57) (fr := (0, 0)) (heap_alloc_new w3 _))) (by simp [Value.oneCell']) (by omega) (by unfold maxLen; omega) (by omega) (by simp; omega) (w3.heap.size + 1) (by simp) ?_; intro gg cap w4 hown4 hgrow hat hlt; have hc4 := hgrow.cell_far ⟨wb, 5, none⟩ (by simp; omega) (Ne.symm hnw); have hf4 := hgrow.frozen_far ⟨wb, 5, none⟩ (by simp; omega) (Ne.symm hnw); have M4 : Blk w4 q [.int .i64 kd, .int .i64 (v : Int), .int .i64 id, .int .i64 bal, .int .i64 gen, .int .i64 basis, .int .i64 fl, .int .i64 tp, .int .i64 rd, .string mk, .int .i64 pa, .int .i64 po, .string pt, .slice la ll lc] 30 := by (first | exact blk_grown (HM3.out.drew.alloc _) hgrow hnq | exact blk_grown (HM3.out.alloc _).drew hgrow hnq))))
      refine hK.out _ _ ?_ (fun hHeld => ?_)
      · ((try dsimp only); (first | with_reducible exact hk0 | (refine KB.out _ ?_; with_reducible (first | assumption | exact (HM3.out.alloc _).drew | exact HM3.out.drew.alloc _ | exact M4 | exact M4.set_other (a := ⟨wb, 5, none⟩) hqwb _))))
      clear hK K
      (try simp only [Act.put, List.setIfInBounds_toArray, List.set_cons_zero, List.set_cons_succ])
      refine held_take (i := 18) (v := ?_) rfl (by kernel_rfl) (by kernel_rfl) (by kernel_rfl) (fun _ _ _ h => h) (by rfl) (fun w hSw => ?_) (by assumption) ?_
      rotate_left
      · ((try dsimp only at hSw); go_simp; (try with_reducible rfl))
      (try simp only [Act.put, List.setIfInBounds_toArray, List.set_cons_zero, List.set_cons_succ])
      refine held_take (i := 19) (v := ?_) rfl (by kernel_rfl) (by kernel_rfl) (by kernel_rfl) (fun _ _ _ h => h) (by rfl) (fun w hSw => ?_) (by assumption) ?_
      rotate_left
      · ((try dsimp only at hSw); go_simp; (try with_reducible rfl))
      (try simp only [Act.put, List.setIfInBounds_toArray, List.set_cons_zero, List.set_cons_succ])
      refine wpAnyH_ready (rs := [20]) (by kernel_rfl) (by simp) ?_
      refine held_cons rfl (fun K hK => ?_) (AllReadyH.nil)
      go_simp
      refine hK.out _ _ ?_ (fun hHeld => ?_)
      · ((try dsimp only); (first | with_reducible exact hk0 | (refine KB.out _ ?_; with_reducible (first | assumption | exact (HM3.out.alloc _).drew | exact HM3.out.drew.alloc _ | exact M4 | exact M4.set_other (a := ⟨wb, 5, none⟩) hqwb _))))
      clear hK K
      (try simp only [Act.put, List.setIfInBounds_toArray, List.set_cons_zero, List.set_cons_succ])
      refine wpAnyH_done (by kernel_rfl) ?_ _
    all_goals (refine NoPanic.normal ?_)
    all_goals go_wp2_with fail
    all_goals go_meet
    all_goals
      have hgc : gg ≠ wb := by
        rcases hat with e | e
        · intro e2; exact hnw (by rw [e, e2])
        · omega
      have q1 : Blk (w4.setCell ⟨wb, 5, none⟩ (.slice (some ⟨gg, 0, none⟩) (k + 1) cap)) wb (worldC c bk id (np : Int) sv (.slice (some ⟨gg, 0, none⟩) (k + 1) cap)) 43 := by
        first
        | exact (blk_grown (HW3.out.drew.alloc (.cells #[.int .i64 kd, .int .i64 (v : Int), .int .i64 gen, .int .i64 rd, .string mk] 57)) hgrow hnw).set 5 (.slice (some ⟨gg, 0, none⟩) (k + 1) cap)
        | exact (blk_grown (HW3.out.alloc (.cells #[.int .i64 kd, .int .i64 (v : Int), .int .i64 gen, .int .i64 rd, .string mk] 57)).drew hgrow hnw).set 5 (.slice (some ⟨gg, 0, none⟩) (k + 1) cap)
      refine ⟨_, q1, M4.set_other (a := ⟨wb, 5, none⟩) hqwb _, ?_, ?_, ?_⟩
      · exact row_touch hown4 ((Touch.refl (fun k => k = wb) w4).set (p := ⟨wb, 5, none⟩) (Or.inl rfl) _) (fun g hg e => hgc (by simp [Value.ownBlock] at hg; omega))
      · intro g hg
        have hgg : gg = g := by simpa [Value.ownBlock] using hg
        subst hgg
        have := HT3.out.size
        rcases hat with e | e
        · exact Or.inl e
        · exact Or.inr (by omega)
      · first
        | exact (touch_grown ((HT3.out.drew).alloc (.cells #[.int .i64 kd, .int .i64 (v : Int), .int .i64 gen, .int .i64 rd, .string mk] 57)) hgrow (fun g hg => Or.inl (Or.inr hg))).set (p := ⟨wb, 5, none⟩) (Or.inl (Or.inl rfl)) _
        | exact (touch_grown ((HT3.out.alloc (.cells #[.int .i64 kd, .int .i64 (v : Int), .int .i64 gen, .int .i64 rd, .string mk] 57)).drew) hgrow (fun g hg => Or.inl (Or.inr hg))).set (p := ⟨wb, 5, none⟩) (Or.inl (Or.inl rfl)) _
  case rest =>
    obtain ⟨av', HW5, HM5, HR5, hv5, hT5⟩ := hcut
    clear d5 m0 m1 m4 m8 m9 hown3 hnw hnq f5 hfa hfb HM3 HW3 HC3 HT3 HA3
    have HH5 := Lib.hid (HH.out (wc.drew) av' hT5.drew HW5.out.drew (ownsRow_below HR5.out (Below.refl _ _).drew) hv5)
    have hwb0 : wc.cell? ⟨wb, 0, none⟩ = some (.pointer (some ⟨c, 0, none⟩)) := HW5.out.cell 0
    have n0 : wc.cell? ⟨q, 0, none⟩ = some (.int .i64 kd) := HM5.out.cell 0
    have n1 : wc.cell? ⟨q, 1, none⟩ = some (.int .i64 (v : Int)) := HM5.out.cell 1
    have n2 : wc.cell? ⟨q, 2, none⟩ = some (.int .i64 id) := HM5.out.cell 2
    have n3 : wc.cell? ⟨q, 3, none⟩ = some (.int .i64 bal) := HM5.out.cell 3
    have n4 : wc.cell? ⟨q, 4, none⟩ = some (.int .i64 gen) := HM5.out.cell 4
    have n5 : wc.cell? ⟨q, 5, none⟩ = some (.int .i64 basis) := HM5.out.cell 5
    have n6 : wc.cell? ⟨q, 6, none⟩ = some (.int .i64 fl) := HM5.out.cell 6
    have n7 : wc.cell? ⟨q, 7, none⟩ = some (.int .i64 tp) := HM5.out.cell 7
    have n8 : wc.cell? ⟨q, 8, none⟩ = some (.int .i64 rd) := HM5.out.cell 8
    have n9 : wc.cell? ⟨q, 9, none⟩ = some (.string mk) := HM5.out.cell 9
    have n10 : wc.cell? ⟨q, 10, none⟩ = some (.int .i64 pa) := HM5.out.cell 10
    have n11 : wc.cell? ⟨q, 11, none⟩ = some (.int .i64 po) := HM5.out.cell 11
    have n12 : wc.cell? ⟨q, 12, none⟩ = some (.string pt) := HM5.out.cell 12
    have n13 : wc.cell? ⟨q, 13, none⟩ = some (.slice la ll lc) := HM5.out.cell 13
    go_upto_region 5 with fail
    go_still_tail 5, (by kernel_rfl)
    change wpList _ _ _ _ _ wc.drew
    generalize wc.drew = w6 at HH5 ⊢
    clear n0 n1 n2 n3 n4 n5 n6 n7 n8 n9 n10 n11 n12 n13 hwb0 HW5 HM5 HR5 hv5 hT5 HH
    go_wp2_with fail
    refine HH5.out.mono ?_
    rintro e w7 ⟨rfl, hR⟩
    have HR7 := Lib.hid hR
    clear hR
    go_wp2_with fail
    go_end0
    exact ⟨rfl, HR7.out⟩
end Go.Proofs.YtaemlplcjjbamaaGreatDoor
