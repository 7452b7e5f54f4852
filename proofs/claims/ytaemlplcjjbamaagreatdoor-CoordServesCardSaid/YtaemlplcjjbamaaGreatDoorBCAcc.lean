/- The walks of a coordinator's won and accepted, a client waiting. Condition: fewer than 10^6 generations are chosen. The walk of a coordinator's accepted. Condition: what is accepted is what is being proposed, or nothing is. -/
import Derived.Test.YtaemlplcjjbamaaGreatDoorBAsk
import Derived.Test.YtaemlplcjjbamaaGreatDoorBBasis
import Derived.Test.YtaemlplcjjbamaaGreatDoorBPRow
import Derived.StillTailTactics
import Derived.Deep.RegionLaw
import Derived.Deep.DrawnRows
import Derived.Deep.AppendLies
import Derived.Deep.RegionHeld3
namespace Go.Proofs.YtaemlplcjjbamaaGreatDoor
open Go Go.RowKit
set_option linter.unusedVariables false
attribute [local go_sem ↓] Go.wp_at_zero Go.wp_at_succ
theorem info_en : (Tryz.prog.info? 102).map (fun i => (i.zero, i.size, i.bytes)) = some (some (.agg #[.int .i64 0, .int .i64 0, .string ⟨#[]⟩]), 3, 32) := by kernel_rfl
theorem CoordAt.setJob {w : World} {b : Nat} {c : CSt} (h : CoordAt w b c) (v : Value) : CoordAt (w.setCell ⟨b, 84, none⟩ v) b { c with job := v } := h.setFt 0 v _ rfl rfl rfl
def WonSays (cv : Value) (b B : Nat) (c : CSt) (l : List Ent) (gen : Int) (mk : ByteArray) (w : World) (e : Ending) (w' : World) : Prop :=
  ∃ v' a, e = .returned (.tuple #[]) ∧ CoordAt w' b (CSt.ended { c with top := gen + 1, chosen := v', job := .pointer none } (.pointer (some ⟨a, 0, none⟩))) ∧ w'.ownsRow B 102 3 v' (l.length + 1) (entsVals (l ++ [⟨gen, 0, mk⟩])) ∧
    answerAt w' a 0 gen c.floor ∧ w.heap.size ≤ a ∧ Touch (fun k => k = b ∨ cv.ownBlock = some k) w w'
set_option maxRecDepth 100000 in
set_option maxHeartbeats 4000000 in
theorem cwon_any (b B j kc : Nat) (c : CSt) (l : List Ent) (gen bal : Int) (mk img : ByteArray) (ta tf : Nat) (w : World) (h : CoordAt w b c) (hj : c.job = .pointer (some ⟨j, 0, none⟩)) (hJ : Blk w j (jobVals gen bal mk img ta tf true false) 104) (hcl : c.call = .pointer (some ⟨kc, 0, none⟩))
    (hr : w.ownsRow B 102 3 c.chosen l.length (entsVals l)) (hB : B ≤ w.heap.size) (hl : l.length ≤ 1000000) (hg : 0 ≤ gen ∧ gen ≤ 1000000) :
    Calls Tryz.prog 108 #[.pointer (some ⟨b, 0, none⟩)] w (WonSays c.chosen b B c l gen mk w) := by
  have hbl := h.1.lt
  obtain ⟨ia, ic, hi⟩ := row_shape hr
  have Hi := Lib.hid hi
  rw [hi] at hr
  rw [hi]
  have c84 : w.cell? ⟨b, 84, none⟩ = some (.pointer (some ⟨j, 0, none⟩)) := by have := h.ft 0; rw [← hj]; exact this
  have j0 : w.cell? ⟨j, 0, none⟩ = some (.int .i64 gen) := hJ.cell 0
  have j1 : w.cell? ⟨j, 1, none⟩ = some (.int .i64 bal) := hJ.cell 1
  have j2 : w.cell? ⟨j, 2, none⟩ = some (.string mk) := hJ.cell 2
  have hjb : j ≠ b := hJ.ne h.1 (by decide)
  have hjl := hJ.lt
  have Hrl := Lib.hid (fun g (hg : (Value.slice ia l.length ic).ownBlock = some g) => (row_lt hr hg).2)
  have hsn := entsVals_snoc l ⟨gen, 0, mk⟩
  have Hsn := Lib.hid hsn
  have E1 := Lib.hid (Blk.new w [.int .i64 gen, .int .i64 bal, .string mk] 102)
  have B1 := Lib.hid ((Below.refl w.heap.size w).alloc (Nat.le_refl _) (.cells #[.int .i64 gen, .int .i64 bal, .string mk] 102))
  have C1 := Lib.hid (h.alloc (.cells #[.int .i64 gen, .int .i64 bal, .string mk] 102))
  have R1 := Lib.hid (hr.alloc (.cells #[.int .i64 gen, .int .i64 bal, .string mk] 102))
  have J1 := Lib.hid (hJ.alloc (.cells #[.int .i64 gen, .int .i64 bal, .string mk] 102))
  obtain ⟨m, hm⟩ : ∃ m, m = l.length := ⟨_, rfl⟩
  rw [← hm] at R1 Hi Hrl ⊢
  have Hm := Lib.hid hm
  have Hcl := Lib.hid hcl
  have Hj := Lib.hid hj
  have hg1 := hg.1
  have hg2 := hg.2
  clear h hj hJ hcl hr hi hsn hg hm
  go_enter Tryz.func108, Tryz.ntmps108
  go_upto_region 1 with fail
  have b1 := B1.out
  have e1 := E1.out
  have C1' := C1.out
  have R1' := R1.out
  have J1' := J1.out
  clear B1 E1 C1 R1 J1 c84 j0 j1 j2
  generalize w.alloc (.cells #[.int .i64 gen, .int .i64 bal, .string mk] 102) = w0 at b1 e1 C1' R1' J1' ⊢
  obtain ⟨q, hq⟩ : ∃ q, q = w.heap.size := ⟨_, rfl⟩
  rw [← hq] at e1 ⊢
  have hqb : b < q := by omega
  have hjq : j < q := by omega
  have HQ := Lib.hid hq
  have q0 : w0.cell? ⟨q, 0, none⟩ = some (.int .i64 gen) := e1.cell 0
  have d6 : w0.cell? ⟨b, 6, none⟩ = some (.int .i64 c.top) := C1'.hd 6 (by omega)
  have f6 := C1'.1.free 6
  have C2 := C1'.setTop (gen + 1)
  have T2 : Touch (fun k => k = b) w0 (w0.setCell ⟨b, 6, none⟩ (.int .i64 (gen + 1))) := touchOne_set (Touch.refl _ _) _
  have hnb : (Value.slice ia m ic).ownBlock ≠ some b := row_ne R1' C1'.1 (by decide)
  have R2 := row_touch R1' T2 (fun g hg e => hnb (by rw [hg, e]))
  have Q2 := e1.set_other (a := ⟨b, 6, none⟩) (by show q ≠ b; omega) (.int .i64 (gen + 1))
  have J2 := J1'.set_other (a := ⟨b, 6, none⟩) (by show j ≠ b; omega) (.int .i64 (gen + 1))
  have TT2 := (Touch.of_below (S := fun k => k = b) b1).trans T2
  have HC2 := Lib.hid C2
  have HR2 := Lib.hid R2
  have HQ2 := Lib.hid Q2
  have HJ2 := Lib.hid J2
  have HT2 := Lib.hid TT2
  clear b1 e1 C1' R1' J1' C2 T2 R2 Q2 J2 TT2 hq
  go_wp2_with fail
  generalize w0.setCell ⟨b, 6, none⟩ (.int .i64 (gen + 1)) = w3 at HC2 HR2 HQ2 HJ2 HT2 ⊢
  clear d6 f6 q0
  have hown3 := HR2.out
  have HAt3 := HC2
  have d7 : w3.cell? ⟨b, 7, none⟩ = some (.slice ia m ic) := by rw [← Hi.out]; exact HAt3.out.hd 7 (by omega)
  have q0 : w3.cell? ⟨q, 0, none⟩ = some (.int .i64 gen) := HQ2.out.cell 0
  have q2 : w3.cell? ⟨q, 2, none⟩ = some (.string mk) := HQ2.out.cell 2
  have hnc : (Value.slice ia m ic).ownBlock ≠ some b := row_ne hown3 HAt3.out.1 (by decide)
  have hnj : (Value.slice ia m ic).ownBlock ≠ some j := row_ne hown3 HJ2.out (by decide)
  have hnq : (Value.slice ia m ic).ownBlock ≠ some q := fun e => by have := Hrl.out q e; have := HQ.out; omega
  have f7 := HAt3.out.1.free 7
  have hfa : ∀ o : Obj, (w3.alloc o).drew.frozen? ⟨b, 7, none⟩ = false := fun o => (HAt3.out.1.alloc o).drew.free 7
  have hfb : ∀ o : Obj, (w3.alloc o).frozen? ⟨b, 7, none⟩ = false := fun o => (HAt3.out.1.alloc o).free 7
  have hbl3 := HAt3.out.1.lt
  have hql3 := HQ2.out.lt
  have hjl3 := HJ2.out.lt
  obtain ⟨i0, hi0, hz0, hz1, hz2⟩ := info_parts info_en
  have hbase3 : B ≤ w3.heap.size := Nat.le_trans hB HT2.out.size
  have hm6 : m ≤ 1000000 := by have := Hm.out; omega
  go_cut [] (fun wx => ∃ v', Hid (CoordAt wx b { c with top := gen + 1, chosen := v' }) ∧ Hid (wx.ownsRow B 102 3 v' (m + 1) (entsVals l ++ [.int .i64 gen, .int .i64 0, .string mk])) ∧ Hid (Blk wx q [.int .i64 gen, .int .i64 bal, .string mk] 102) ∧ Hid (Blk wx j (jobVals gen bal mk img ta tf true false) 104) ∧ Hid (Touch (fun k => k = b ∨ (Value.slice ia m ic).ownBlock = some k) w wx))
  case first =>
    go_region_law
        ((refine step_append_lies _ (by rfl) _ _ _ (by rfl) B 102 i0 _ 3 32 Tryz.underlying28 hi0 hz0 hz1 hz2 rfl (by omega) (.slice ia m ic) m (entsVals l) (by rfl) ((hown3.alloc _).drew) ⟨w3.heap.size, 0, none⟩ 1 1 [.int .i64 gen, .int .i64 0, .string mk] (by rfl) (by rfl) (World.news_of_block (cs := #[.int .i64 gen, .int .i64 0, .string mk]) (t := 102) (fr := (0, 0)) (heap_alloc_new w3 _)) (by simp [Value.oneCell']) (by omega) (by unfold maxLen; omega) (by omega) (by simp; omega) (w3.heap.size + 1) (by simp) ?_; intro gg cap w4 hown4 hgrow hat hlt; have hc4 := hgrow.cell_far ⟨b, 7, none⟩ (by simp; omega) (Ne.symm hnc); have hf4 := hgrow.frozen_far ⟨b, 7, none⟩ (by simp; omega) (Ne.symm hnc)))
    all_goals go_wp2_with fail
    all_goals go_meet
    all_goals
      have hgc : gg ≠ b := by
        rcases hat with e | e
        · intro e2; exact hnc (by rw [e, e2])
        · omega
      have q1 := (((HAt3.out.alloc (.cells #[.int .i64 gen, .int .i64 0, .string mk] 102)).drew).grown hgrow hnc).setChosen (.slice (some ⟨gg, 0, none⟩) (m + 1) cap)
      have q3 := (blk_grown ((HQ2.out.alloc (.cells #[.int .i64 gen, .int .i64 0, .string mk] 102)).drew) hgrow hnq).set_other (a := ⟨b, 7, none⟩) (by show q ≠ b; omega) (.slice (some ⟨gg, 0, none⟩) (m + 1) cap)
      have q4 := (blk_grown ((HJ2.out.alloc (.cells #[.int .i64 gen, .int .i64 0, .string mk] 102)).drew) hgrow hnj).set_other (a := ⟨b, 7, none⟩) (by show j ≠ b; omega) (.slice (some ⟨gg, 0, none⟩) (m + 1) cap)
      refine ⟨_, Lib.hid q1, Lib.hid ?_, Lib.hid q3, Lib.hid q4, Lib.hid ?_⟩
      · exact row_touch hown4 ((Touch.refl (fun k => k = b) w4).set (p := ⟨b, 7, none⟩) (Or.inl rfl) _) (fun g hg e => hgc (by simp [Value.ownBlock] at hg; omega))
      · exact (touch_grown (((HT2.out.mono (fun k _ e => Or.inl e)).alloc (.cells #[.int .i64 gen, .int .i64 0, .string mk] 102)).drew) hgrow (fun g hg => Or.inl (Or.inr hg))).set (p := ⟨b, 7, none⟩) (Or.inl (Or.inl rfl)) _
  case rest =>
    obtain ⟨v', HC5, HR5, HQ5, HJ5, HT5⟩ := hcut
    clear d7 q0 q2 hown3 hnc hnj hnq f7 hfa hfb HAt3 HC2 HR2 HQ2 HJ2 HT2
    have c84 : wc.cell? ⟨b, 84, none⟩ = some (.pointer (some ⟨j, 0, none⟩)) := by rw [← Hj.out]; exact HC5.out.ft 0
    have k6 : wc.cell? ⟨j, 6, none⟩ = some (.bool true) := HJ5.out.cell 6
    have f84 := HC5.out.1.free 84
    have hl5 := HC5.out.1.lt
    have C6 := HC5.out.setJob (.pointer none)
    have T6 : Touch (fun k => k = b) wc (wc.setCell ⟨b, 84, none⟩ (.pointer none)) := touchOne_set (Touch.refl _ _) _
    have hn5 : v'.ownBlock ≠ some b := row_ne HR5.out HC5.out.1 (by decide)
    have R6 := row_touch HR5.out T6 (fun g hg e => hn5 (by rw [hg, e]))
    have Q6 := HQ5.out.set_other (a := ⟨b, 84, none⟩) (by show q ≠ b; omega) (.pointer none)
    have TT6 := HT5.out.trans (T6.mono (fun k _ e => Or.inl e))
    have HC6 := Lib.hid C6
    have HR6 := Lib.hid R6
    have HQ6 := Lib.hid Q6
    have HT6 := Lib.hid TT6
    clear C6 T6 hn5 R6 Q6 TT6 HC5 HR5 HQ5 HJ5 HT5
    go_wp2_with fail
    generalize wc.setCell ⟨b, 84, none⟩ (.pointer none) = w6 at HC6 HR6 HQ6 HT6 ⊢
    clear c84 k6 f84 hl5
    have HEnd := Lib.hid (fun w' (hb : Below w6.heap.size w6 w') => end_call b kc { c with top := gen + 1, chosen := v', job := .pointer none } 0 gen c.floor none none 0 0 0 0 w' (HC6.out.below hb) Hcl.out rfl)
    have HK := Lib.hid (fun w' (hb : Below w6.heap.size w6 w') => (And.intro (show w'.cell? ⟨q, 0, none⟩ = some (.int .i64 gen) from (HQ6.out.below hb).cell 0) (show w'.cell? ⟨b, 5, none⟩ = some (.int .i64 c.floor) from (HC6.out.below hb).hd 5 (by omega))))
    have hk0 := HK.out w6.drew (Below.refl _ _).drew
    have hqb2 : q ≠ b := by omega
    go_region_held3 (fun w' => w'.cell? ⟨q, 0, none⟩ = some (.int .i64 gen) ∧ w'.cell? ⟨b, 5, none⟩ = some (.int .i64 c.floor))
      (first | with_reducible exact hk0 | with_reducible exact hk7 | go_keep)
      ((go_at_call 21; refine (HEnd.out _ (Below.refl _ _).drew).mono ?_; rintro x w7 ⟨rfl, a, ha, hA, hC, hT⟩; have hk7 : w7.cell? ⟨q, 0, none⟩ = some (.int .i64 gen) ∧ w7.cell? ⟨b, 5, none⟩ = some (.int .i64 c.floor) := ⟨(HQ6.out.drew.touch hT hqb2).cell 0, hC.hd 5 (by omega)⟩))
    have HA := Lib.hid hA
    have HC7 := Lib.hid hC
    have HT7 := Lib.hid ((HT6.out.drew).trans (hT.mono (fun k _ e => Or.inl e)))
    have hn6 : v'.ownBlock ≠ some b := row_ne HR6.out HC6.out.1 (by decide)
    have HR7 := Lib.hid (row_touch (ownsRow_below HR6.out (Below.refl _ _).drew) hT (fun g hg e => hn6 (by rw [hg, e])))
    have hsz := HT6.out.size
    have ha2 : w.heap.size ≤ a := Nat.le_trans hsz ha
    clear hA hC hT hk7 hn6 HEnd HK HC6 HR6 HQ6 HT6
    go_wp2_with fail
    go_end0
    refine ⟨v', a, rfl, HC7.out, ?_, HA.out, ha2, HT7.out⟩
    rw [← Hm.out, Hsn.out]
    exact HR7.out
end Go.Proofs.YtaemlplcjjbamaaGreatDoor
namespace Go.Proofs.YtaemlplcjjbamaaGreatDoor
open Go Go.RowKit
set_option linter.unusedVariables false
set_option maxRecDepth 100000 in
set_option maxHeartbeats 4000000 in
theorem accepted_none (b : Nat) (c : CSt) (kind v to' bal gen basis fl tp rd pa po : Int) (mk pt : ByteArray) (ls : Value) (w : World) (h : CoordAt w b c) (hj : c.job = .pointer none) :
    Calls Tryz.prog 86 #[.pointer (some ⟨b, 0, none⟩), .agg #[.int .i64 kind, .int .i64 v, .int .i64 to', .int .i64 bal, .int .i64 gen, .int .i64 basis, .int .i64 fl, .int .i64 tp, .int .i64 rd, .string mk, .int .i64 pa, .int .i64 po, .string pt, ls]] w fun e w' => e = .returned (.tuple #[]) ∧ Below w.heap.size w w' := by
  have hbl := h.1.lt
  have c84 : w.cell? ⟨b, 84, none⟩ = some (.pointer none) := by have := h.ft 0; rw [← hj]; exact this
  clear h hj
  go_enter Tryz.func86, Tryz.ntmps86
  go_wp2
  go_quiet (fail)
  go_wp2
  refine bodyPost_ret (results_none rfl _ _ _) rfl ?_
  exact ⟨rfl, below_drewN ((Below.refl _ _).alloc (Nat.le_refl _) _) _⟩
def AccSays (cv : Value) (b B j n : Nat) (c : CSt) (l : List Ent) (gen bal : Int) (mk img : ByteArray) (ta tf : Nat) (m : List Bool) (v : Int) (w : World) (e : Ending) (w' : World) : Prop :=
  e = .returned (.tuple #[]) ∧
    (wonT (addTo m v n) n = false → CoordAt w' b c ∧ TallyAt w' ta n (addTo m v n) ∧ Blk w' j (jobVals gen bal mk img ta tf true false) 104 ∧ Touch (fun k => k = ta) w w') ∧
    (wonT (addTo m v n) n = true → ∃ v' a, CoordAt w' b (CSt.ended { c with top := gen + 1, chosen := v', job := .pointer none } (.pointer (some ⟨a, 0, none⟩))) ∧ w'.ownsRow B 102 3 v' (l.length + 1) (entsVals (l ++ [⟨gen, 0, mk⟩])) ∧
      answerAt w' a 0 gen c.floor ∧ w.heap.size ≤ a ∧ Touch (fun k => k = b ∨ k = ta ∨ cv.ownBlock = some k) w w')
set_option maxRecDepth 100000 in
set_option maxHeartbeats 4000000 in
theorem accepted_any (b B j kc n : Nat) (c : CSt) (l : List Ent) (gen bal bal2 : Int) (mk img : ByteArray) (ta tf : Nat) (m : List Bool) (kind v to' basis fl tp rd pa po : Int) (pt : ByteArray) (ls : Value) (w : World) (h : CoordAt w b c) (hj : c.job = .pointer (some ⟨j, 0, none⟩)) (hJ : Blk w j (jobVals gen bal mk img ta tf true false) 104) (hT : TallyAt w ta n m) (hcl : c.call = .pointer (some ⟨kc, 0, none⟩))
    (hr : w.ownsRow B 102 3 c.chosen l.length (entsVals l)) (hB : B ≤ w.heap.size) (hl : l.length ≤ 1000000) (hg : 0 ≤ gen ∧ gen ≤ 1000000) :
    Calls Tryz.prog 86 #[.pointer (some ⟨b, 0, none⟩), .agg #[.int .i64 kind, .int .i64 v, .int .i64 to', .int .i64 bal2, .int .i64 gen, .int .i64 basis, .int .i64 fl, .int .i64 tp, .int .i64 rd, .string mk, .int .i64 pa, .int .i64 po, .string pt, ls]] w (AccSays c.chosen b B j n c l gen bal mk img ta tf m v w) := by
  have hbl := h.1.lt
  have H0 := Lib.hid h
  have Hj := Lib.hid hj
  have HJ0 := Lib.hid hJ
  have HT0 := Lib.hid hT
  have Hcl := Lib.hid hcl
  have HR0 := Lib.hid hr
  have Hg := Lib.hid hg
  have hjt : j ≠ ta := hJ.ne hT.1 (by decide)
  have hbt : b ≠ ta := h.1.ne hT.1 (by decide)
  have hjb : j ≠ b := hJ.ne h.1 (by decide)
  have hjl := hJ.lt
  have htl := hT.1.lt
  obtain ⟨m', hm'⟩ : ∃ m', m' = addTo m v n := ⟨_, rfl⟩
  have Hm' := Lib.hid hm'
  have c84 : w.cell? ⟨b, 84, none⟩ = some (.pointer (some ⟨j, 0, none⟩)) := by have := h.ft 0; rw [← hj]; exact this
  have j0 : w.cell? ⟨j, 0, none⟩ = some (.int .i64 gen) := hJ.cell 0
  have j2 : w.cell? ⟨j, 2, none⟩ = some (.string mk) := hJ.cell 2
  have eg : (gen != gen) = false := by simp
  have em : (mk.toList != mk.toList) = false := by simp
  have B1 := Lib.hid ((Below.refl w.heap.size w).alloc (Nat.le_refl _) (.cells #[.int .i64 kind, .int .i64 v, .int .i64 to', .int .i64 bal2, .int .i64 gen, .int .i64 basis, .int .i64 fl, .int .i64 tp, .int .i64 rd, .string mk, .int .i64 pa, .int .i64 po, .string pt, ls] 30))
  have Q1 := Lib.hid (Blk.new w [.int .i64 kind, .int .i64 v, .int .i64 to', .int .i64 bal2, .int .i64 gen, .int .i64 basis, .int .i64 fl, .int .i64 tp, .int .i64 rd, .string mk, .int .i64 pa, .int .i64 po, .string pt, ls] 30)
  clear h hj hJ hT hcl hr hg hm'
  go_enter Tryz.func86, Tryz.ntmps86
  go_wp2
  go_quiet (fail)
  go_wp2_with fail
  have b1 := below_drewN B1.out nq
  have q1 := Q1.out.drewN nq
  generalize (w.alloc (.cells #[.int .i64 kind, .int .i64 v, .int .i64 to', .int .i64 bal2, .int .i64 gen, .int .i64 basis, .int .i64 fl, .int .i64 tp, .int .i64 rd, .string mk, .int .i64 pa, .int .i64 po, .string pt, ls] 30)).drewN nq = w1 at b1 q1 ⊢
  obtain ⟨q, hq⟩ : ∃ q, q = w.heap.size := ⟨_, rfl⟩
  rw [← hq] at q1 ⊢
  have hqt : q ≠ ta := by omega
  have HC1 := Lib.hid (H0.out.below b1)
  have HJ1 := Lib.hid (HJ0.out.below b1)
  have HT1 := Lib.hid (tallyAt_below HT0.out b1)
  have HR1 := Lib.hid (ownsRow_below HR0.out b1)
  have HQ1 := Lib.hid q1
  have HB1 := Lib.hid b1
  clear b1 q1 B1 Q1 H0 HJ0 HT0 HR0 c84 j0 j2 hq
  have HK := Lib.hid (fun w' (hb : Below w1.heap.size w1 w') => (And.intro (show w'.cell? ⟨b, 84, none⟩ = some (.pointer (some ⟨j, 0, none⟩)) by rw [← Hj.out]; exact (HC1.out.below hb).ft 0) (And.intro (show w'.cell? ⟨j, 4, none⟩ = some (.pointer (some ⟨ta, 0, none⟩)) from (HJ1.out.below hb).cell 4) (show w'.cell? ⟨q, 1, none⟩ = some (.int .i64 v) from (HQ1.out.below hb).cell 1))))
  have hk0 := HK.out w1.drew (Below.refl _ _).drew
  have HAd := Lib.hid (add_any ta n m v w1.drew HT1.out)
  rw [← Hm'.out] at HAd
  go_region_held3 (fun w' => w'.cell? ⟨b, 84, none⟩ = some (.pointer (some ⟨j, 0, none⟩)) ∧ w'.cell? ⟨j, 4, none⟩ = some (.pointer (some ⟨ta, 0, none⟩)) ∧ w'.cell? ⟨q, 1, none⟩ = some (.int .i64 v))
    (first | with_reducible exact hk0 | with_reducible exact hk2 | go_keep)
    ((go_at_call 83; refine HAd.out.mono ?_; rintro e w2 ⟨rfl, hT2, ht2⟩; have hk2 : w2.cell? ⟨b, 84, none⟩ = some (.pointer (some ⟨j, 0, none⟩)) ∧ w2.cell? ⟨j, 4, none⟩ = some (.pointer (some ⟨ta, 0, none⟩)) ∧ w2.cell? ⟨q, 1, none⟩ = some (.int .i64 v) := ⟨by rw [← Hj.out]; exact CoordAt.ft ⟨HC1.out.drew.1.touch ht2 hbt, HC1.out.2⟩ 0, (HJ1.out.drew.touch ht2 hjt).cell 4, (HQ1.out.drew.touch ht2 hqt).cell 1⟩))
  have C2 : CoordAt w2 b c := ⟨HC1.out.drew.1.touch ht2 hbt, HC1.out.2⟩
  have J2 := HJ1.out.drew.touch ht2 hjt
  have hnt := Lib.hid (fun g (hg : c.chosen.ownBlock = some g) (e : g = ta) => row_ne HR1.out HT1.out.1 (by decide) (by rw [hg, e]))
  have R2 := row_touch (ownsRow_below HR1.out (Below.refl _ _).drew) ht2 hnt.out
  have T2 := (Touch.of_below (S := fun k => k = ta) HB1.out).drew.trans ht2
  have HC2 := Lib.hid C2
  have HJ2 := Lib.hid J2
  have HR2 := Lib.hid R2
  have HT2 := Lib.hid hT2
  have HX2 := Lib.hid T2
  have c84 := hk2.1
  have j4 := hk2.2.1
  clear C2 J2 R2 T2 hT2 ht2 hk2 hk0 HK HAd HC1 HJ1 HT1 HR1 HQ1 HB1
  have HW := Lib.hid (won_any ta n m' w2 HT2.out)
  obtain ⟨wb, hwb⟩ : ∃ wb, wb = wonT m' n := ⟨_, rfl⟩
  rw [← hwb] at HW
  have Hwb := Lib.hid hwb
  clear hwb
  go_wp2_with fail
  refine HW.out.mono ?_
  clear HW
  rintro e w3 ⟨rfl, k, rfl⟩
  have HbD := Lib.hid (below_drewN (Below.refl w2.heap.size w2) k)
  cases wb with
  | false =>
    go_wp2_with fail
    go_end0
    refine ⟨rfl, fun _ => ⟨HC2.out.drewN k, by rw [← Hm'.out]; exact HT2.out.drewN k, HJ2.out.drewN k, HX2.out.drewN k⟩, fun h => ?_⟩
    rw [← Hm'.out, ← Hwb.out] at h
    cases h
  | true =>
    have hsz := HX2.out.size
    have HWn := Lib.hid (cwon_any b B j kc c l gen bal mk img ta tf (w2.drewN k) (HC2.out.drewN k) Hj.out (HJ2.out.drewN k) Hcl.out (ownsRow_below HR2.out HbD.out) (Nat.le_trans hB hsz) hl Hg.out)
    clear c84 j4 HJ2 HR2 HT2
    go_wp2_with fail
    refine HWn.out.mono ?_
    rintro e w4 ⟨v', a, rfl, hC, hR, hA, ha, hT⟩
    have HF := Lib.hid (And.intro hC (And.intro hR (And.intro hA (And.intro ha hT))))
    clear hC hR hA ha hT HWn
    go_wp2_with fail
    go_end0
    refine ⟨rfl, fun h => ?_, fun _ => ⟨v', a, HF.out.1, HF.out.2.1, HF.out.2.2.1, Nat.le_trans hsz HF.out.2.2.2.1, ?_⟩⟩
    · rw [← Hm'.out, ← Hwb.out] at h
      cases h
    · refine ((HX2.out.drewN k).mono (fun k _ e => Or.inr (Or.inl e))).trans (HF.out.2.2.2.2.mono (fun k _ e => ?_))
      rcases e with e | e
      · exact Or.inl e
      · exact Or.inr (Or.inr e)
end Go.Proofs.YtaemlplcjjbamaaGreatDoor
