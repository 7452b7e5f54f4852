/- The walk of PlanTallies: whom any tally has, and whether it is won. No condition. -/
import Derived.Test.YtcbanjejojgncaaPlanMeets
namespace Go.Proofs.Ytcbanjejojgncaa
open Go.RowKit

theorem info_bool : (Try.prog.info? 4).map (fun i => (i.zero, i.size, i.bytes)) = some (some (.bool false), 1, 1) := by kernel_rfl

/-- nobody is in it whose place is not below the number -/
def Tidy (m : List Bool) (o : Nat) : Prop := ∀ i, m.getD i false = true → i < o
theorem tidy_add {m : List Bool} {o : Nat} (x : Int) (h : Tidy m o) : Tidy (addTo m x o) o := by
  unfold addTo
  split
  · next hx =>
    intro i hi
    unfold isOne at hx
    simp at hx
    by_cases e : i = x.toNat
    · omega
    · rw [List.getD, List.getElem?_set_ne (fun h => e h.symm)] at hi
      exact h i hi
  · exact h
theorem add_same {m : List Bool} {o : Nat} {x : Int} (hx : isOne x o = true) (h : m.getD x.toNat false = true) : addTo m x o = m := by
  unfold addTo
  rw [if_pos hx]
  apply List.ext_getElem?
  intro i
  by_cases e : i = x.toNat
  · subst e
    rw [List.getD] at h
    rcases hq : m[x.toNat]? with _ | v
    · rw [hq] at h; cases h
    · rw [hq] at h
      have hl : x.toNat < m.length := (List.getElem?_eq_some_iff.1 hq).1
      rw [List.getElem?_set_self hl]
      exact congrArg some (Eq.symm h)
  · rw [List.getElem?_set_ne (fun h => e h.symm)]
theorem add_none {m : List Bool} {o : Nat} {x : Int} (hx : isOne x o = false) : addTo m x o = m := by
  unfold addTo; rw [if_neg (by simp [hx])]
theorem add_has {m : List Bool} {o : Nat} {x : Int} (hm : m.length = 9) (ho : o ≤ 9) : (decide (0 ≤ x) && decide (x < (o : Int)) && (addTo m x o).getD x.toNat false) = isOne x o := by
  have e : (decide (0 ≤ x) && decide (x < (o : Int))) = isOne x o := rfl
  rw [e]
  cases h : isOne x o
  · rfl
  · rw [Bool.true_and]
    unfold addTo
    rw [if_pos h]
    unfold isOne at h
    simp at h
    rw [List.getD, List.getElem?_set_self (by omega)]
    rfl
theorem cntTo_set (m : List Bool) (o j k : Nat) (hj : j < o) (hm : j < m.length) (hv : m.getD j false = false) : cntTo (m.set j true) o k = cntTo m o k + if j < k then 1 else 0 := by
  induction k with
  | zero => simp [cntTo]
  | succ k ih =>
    rw [cntTo_snoc, cntTo_snoc, ih, Int.toNat_natCast]
    by_cases e : j = k
    · subst e
      rw [hv]
      have : (m.set j true).getD j false = true := by rw [List.getD, List.getElem?_set_self hm]; rfl
      rw [this]
      simp [hj]
    · have : (m.set j true).getD k false = m.getD k false := by rw [List.getD, List.getD, List.getElem?_set_ne e]
      rw [this]
      by_cases h1 : j < k
      · rw [if_pos h1, if_pos (show j < k + 1 by omega)]; omega
      · rw [if_neg h1, if_neg (show ¬ j < k + 1 by omega)]; omega
theorem cnt_add {m : List Bool} {o : Nat} {x : Int} (hm : m.length = 9) (ho : o ≤ 9) (hx : isOne x o = true) (h : m.getD x.toNat false = false) : cnt (addTo m x o) o = cnt m o + 1 := by
  unfold addTo cnt
  rw [if_pos hx]
  unfold isOne at hx
  simp at hx
  rw [cntTo_set m o x.toNat 9 (by omega) (by omega) h, if_pos (by omega)]

theorem zero_getD (i : Nat) : (List.replicate 9 false).getD i false = false := by
  rw [List.getD, List.getElem?_replicate]; split <;> rfl
theorem cnt_zero (o : Nat) : cnt (List.replicate 9 false) o = 0 := by
  unfold cnt cntTo
  rw [List.countP_eq_zero]
  intro i _
  rw [zero_getD]
  simp
theorem tidy_zero (o : Nat) : Tidy (List.replicate 9 false) o := by
  intro i hi
  rw [zero_getD] at hi
  cases hi

set_option maxRecDepth 100000 in
set_option maxHeartbeats 4000000 in
theorem planTallies_walk (n : Int) (a : Option Addr) (len cap : Nat) (zs : List Int) (w : World) (_hn : (Lit.int .i64 n).wf = true) (h : IsInts .i64 w a len cap zs) :
    Calls Try.prog 8 #[.int .i64 n, .slice a len cap] w fun e w' => e = .returned (.bool true) ∧ Below w.heap.size w w' := by
  obtain ⟨hat, hlen, hwf, hmax, hcap, hcm⟩ := isInts_at h
  unfold maxLen at hmax hcm
  have Hat := Lib.hid hat
  have Hlen := Lib.hid hlen
  have Hwf := Lib.hid hwf
  clear h hat hlen hwf
  have hmk : ∀ W : World, (Instr.makeSlice 37 (.int .i64 9) (.int .i64 9)).run Try.prog W = .ok (.slice (some ⟨W.heap.size, 0, none⟩) 9 9) (W.alloc (.cells (Array.replicate 9 (.bool false)) 4)) :=
    fun W => run_make_one 37 4 (.bool false) 1 Try.underlying37 info_bool rfl 9 (by omega) (by omega) W
  have hcl := clip_le n
  go_enter Try.func8, Try.ntmps8
  go_wp2_with fail
  refine (newTally_any n w).mono ?_
  rintro e w1 ⟨b1, rfl, hb1, ht1, hw1⟩
  have hlt1 := ht1.1.lt
  have HT1 := Lib.hid ht1
  clear ht1
  obtain ⟨o, ho⟩ : ∃ o, o = clip n := ⟨_, rfl⟩
  rw [← ho] at HT1 hcl
  go_upto_if 16 with (fail)
  go_cut [6] (fun s wx => ∃ x : Int, s = .int .i64 x ∧ x = max n 0 ∧ w1 = wx)
  case first =>
    by_cases h : n < 0
    · go_wp2
      go_meet
      exact ⟨0, rfl, by omega, rfl⟩
    · go_wp2
      go_meet
      exact ⟨n, rfl, by omega, rfl⟩
  case rest =>
    obtain ⟨x, rfl, hx, rfl⟩ := hcut
    go_upto_if 18 with (fail)
    go_cut [6] (fun s wx => s = .int .i64 (o : Int) ∧ w1 = wx)
    case first =>
      have hox : (o : Int) = if 9 < x then 9 else x := by rw [ho, hx]; unfold clip; split <;> split <;> omega
      by_cases h : 9 < x
      · rw [if_pos h] at hox
        go_wp2
        go_meet
        exact ⟨val_int (by omega), rfl⟩
      · rw [if_neg h] at hox
        go_wp2
        go_meet
        exact ⟨val_int (by omega), rfl⟩
    case rest =>
      obtain ⟨rfl, rfl⟩ := hcut
      clear hx ho
      have HB := Lib.hid (Blk.new w1 (List.replicate 9 (.bool false)) 4)
      have hw2 := (hw1).alloc (hw1.size) (.cells (List.replicate 9 (.bool false)).toArray 4)
      have HT2 := Lib.hid (TallyAt.below HT1.out ((Below.refl w1.heap.size w1).alloc (Nat.le_refl _) (.cells (List.replicate 9 (.bool false)).toArray 4)))
      rw [List.toArray_replicate] at HB hw2 HT2
      clear HT1
      go_wp2
      generalize w1.alloc (.cells (Array.replicate 9 (.bool false)) 4) = w2 at HB hw2 HT2 ⊢
      obtain ⟨bh, hbh⟩ : ∃ bh, bh = w1.heap.size := ⟨_, rfl⟩
      rw [← hbh] at HB ⊢
      have hne : b1 ≠ bh := by omega
      have hbw : w.heap.size ≤ bh := by rw [hbh]; exact hw1.size
      clear hbh hmk
      go_loopw [8, 9] (fun c i wr => ∃ (k : Nat) (m : List Bool), c = .int .i64 (cnt m o : Int) ∧ i = .int .i64 k ∧ k ≤ len ∧ k ≤ 60 ∧ Hid (TallyAt wr b1 o m) ∧ Hid (Blk wr bh (m.map Value.bool) 4) ∧ Hid (Tidy m o) ∧ Below w.heap.size w wr) (fun _ i _ => 60 - (intOf i).toNat)
      case atStart => exact ⟨0, List.replicate 9 false, val_int (by rw [cnt_zero]; rfl), rfl, Nat.zero_le _, Nat.zero_le _, HT2, HB, Lib.hid (tidy_zero o), hw2⟩
      case round =>
        obtain ⟨k, m, rfl, rfl, hk, hk2, HT, HM, HD, hb⟩ := hrel
        by_cases hlt : k < len ∧ k < 60
        · obtain ⟨hlt1, hlt2⟩ := hlt
          have hki : k < (zs.take len).length := by rw [Hlen.out]; exact hlt1
          obtain ⟨bb, off, rfl, hcw⟩ := intsAt_cell Hat.out k hki
          generalize (zs.take len)[k]'hki = x at hcw
          clear hki
          have hbb : bb < w.heap.size := World.block_lt_of_cell? w _ hcw
          have hc := (hb.cell (p := ⟨bb, off + k, none⟩) hbb).trans hcw
          by_cases hI : 0 ≤ x ∧ x < (o : Int)
          · have hI' : isOne x o = true := by unfold isOne; simp; exact hI
            obtain ⟨hI0, hI1⟩ := hI
            obtain ⟨y, rfl⟩ := Int.eq_ofNat_of_zero_le hI0
            have hy : y < o := by omega
            clear hI0 hI1
            go_wp2_with fail
            refine (add_any b1 o m (y : Int) _ HT.out).mono ?_
            rintro e w3 ⟨rfl, ht3, hto⟩
            rw [hI']
            have HT3 := Lib.hid ht3
            have HM3 := Lib.hid (HM.out.touch hto (fun e => hne e.symm))
            have hb3 := below_touch hb hto hb1
            have hc3 := (hb3.cell (p := ⟨bb, off + k, none⟩) hbb).trans hcw
            have hy9 : y < 9 := by omega
            have hcb : w3.cell? ⟨bh, y, none⟩ = some (.bool (m.getD y false)) := by
              rw [HM3.out.cell, List.getElem?_map, List.getD, List.getElem?_eq_getElem (by have := HT.out.2.1; omega)]; rfl
            clear ht3 hto hc
            go_wp2_with fail
            refine (has_any b1 o (addTo m (y : Int) o) (y : Int) _ HT3.out).mono ?_
            rintro e wx ⟨rfl, rfl⟩
            rw [add_has HT.out.2.1 HT.out.2.2, hI']
            have hfb := HM3.out.free y
            have hcn : cnt m o ≤ 9 := cntTo_le m o 9
            cases hv : m.getD y false
            · rw [hv] at hcb
              have hcnt := cnt_add HT.out.2.1 HT.out.2.2 hI' (show m.getD (y : Int).toNat false = false from hv)
              have Hcnt := Lib.hid hcnt
              clear hcnt hv
              go_wp2_with fail
              obtain ⟨wn, hwn⟩ : ∃ wn : World, wn = w3.setCell ⟨bh, y, none⟩ (.bool true) := ⟨_, rfl⟩
              have HTn := Lib.hid (show TallyAt wn b1 o (addTo m (y : Int) o) by rw [hwn]; exact ⟨HT3.out.1.set_other hne _, HT3.out.2⟩)
              have HMn := Lib.hid (show Blk wn bh ((addTo m (y : Int) o).map Value.bool) 4 by rw [hwn]; rw [show addTo m (y : Int) o = m.set y true by unfold addTo; rw [if_pos hI']; rfl, List.map_set]; exact HM3.out.set y _)
              have HDn := Lib.hid (show Tidy (addTo m (y : Int) o) o from tidy_add _ HD.out)
              have hbn : Below w.heap.size w wn := by rw [hwn]; exact hb3.trans (((Touch.refl (fun k => k = bh) w3).set (p := ⟨bh, y, none⟩) (Or.inl rfl) _).below hb3.size (fun k hk e => by omega))
              rw [← hwn]
              clear hwn
              refine (count_any b1 o (addTo m (y : Int) o) _ HTn.out).mono ?_
              rintro e wx ⟨rfl, rfl⟩
              rw [Hcnt.out]
              go_wp2_with fail
              refine (won_any b1 o (addTo m (y : Int) o) _ HTn.out).mono ?_
              rintro e wx ⟨rfl, q, rfl⟩
              have HTq := Lib.hid (HTn.out.drewN q)
              have HMq := Lib.hid (HMn.out.drewN q)
              have hbq := below_drewN hbn q
              generalize wn.drewN q = wq at HTq HMq hbq
              have hop : 0 < o := by omega
              cases hw : wonT (addTo m (y : Int) o) o
              · have hww : ¬ (o < 2 * (cnt m o + 1)) := by intro hx; unfold wonT at hw; simp at hw; have := Hcnt.out; omega
                clear hw
                go_wp2_with fail
                all_goals first
                  | (exfalso; rename_i hq; simp at hq; omega)
                  | (go_round
                     case rel => exact ⟨k + 1, addTo m (y : Int) o, val_int (by rw [Hcnt.out]; simp), by go_num, by omega, by omega, HTq, HMq, HDn, hbq⟩
                     case measure => simp [intOf]; omega)
              · have hww : o < 2 * (cnt m o + 1) := by unfold wonT at hw; simp at hw; have := Hcnt.out; omega
                clear hw
                go_wp2_with fail
                all_goals first
                  | (exfalso; rename_i hq; simp at hq; omega)
                  | (go_round
                     case rel => exact ⟨k + 1, addTo m (y : Int) o, val_int (by rw [Hcnt.out]; simp), by go_num, by omega, by omega, HTq, HMq, HDn, hbq⟩
                     case measure => simp [intOf]; omega)
            · rw [hv] at hcb
              have hm' := add_same hI' (show m.getD (y : Int).toNat false = true from hv)
              rw [hm'] at HT3
              clear hv hm'
              go_wp2_with fail
              obtain ⟨wn, hwn⟩ : ∃ wn : World, wn = w3 := ⟨_, rfl⟩
              have HTn := Lib.hid (show TallyAt wn b1 o m by rw [hwn]; exact HT3.out)
              have HMn := Lib.hid (show Blk wn bh (m.map Value.bool) 4 by rw [hwn]; exact HM3.out)
              have HDn := Lib.hid (show Tidy m o from HD.out)
              have hbn : Below w.heap.size w wn := by rw [hwn]; exact hb3
              rw [← hwn]
              clear hwn
              refine (count_any b1 o (m) _ HTn.out).mono ?_
              rintro e wx ⟨rfl, rfl⟩
              
              go_wp2_with fail
              refine (won_any b1 o (m) _ HTn.out).mono ?_
              rintro e wx ⟨rfl, q, rfl⟩
              have HTq := Lib.hid (HTn.out.drewN q)
              have HMq := Lib.hid (HMn.out.drewN q)
              have hbq := below_drewN hbn q
              generalize wn.drewN q = wq at HTq HMq hbq
              have hop : 0 < o := by omega
              cases hw : wonT (m) o
              · have hww : ¬ (o < 2 * (cnt m o)) := by intro hx; unfold wonT at hw; simp at hw; skip; omega
                clear hw
                go_wp2_with fail
                all_goals first
                  | (exfalso; rename_i hq; simp at hq; omega)
                  | (go_round
                     case rel => exact ⟨k + 1, m, val_int (by rfl), by go_num, by omega, by omega, HTq, HMq, HDn, hbq⟩
                     case measure => simp [intOf]; omega)
              · have hww : o < 2 * (cnt m o) := by unfold wonT at hw; simp at hw; skip; omega
                clear hw
                go_wp2_with fail
                all_goals first
                  | (exfalso; rename_i hq; simp at hq; omega)
                  | (go_round
                     case rel => exact ⟨k + 1, m, val_int (by rfl), by go_num, by omega, by omega, HTq, HMq, HDn, hbq⟩
                     case measure => simp [intOf]; omega)
          · by_cases h0 : 0 ≤ x
            · have h1 : ¬ x < (o : Int) := fun hx => hI ⟨h0, hx⟩
              have hI' : isOne x o = false := by unfold isOne; simp; omega
              have hm' := add_none (m := m) hI'
              clear hI
              go_wp2_with fail
              refine (add_any b1 o m x _ HT.out).mono ?_
              rintro e w3 ⟨rfl, ht3, hto⟩
              rw [hI']
              have HTn := Lib.hid (show TallyAt w3 b1 o m by rw [← hm']; exact ht3)
              have HMn := Lib.hid (HM.out.touch hto (fun e => hne e.symm))
              have hbn := below_touch hb hto hb1
              have hc3 := (hbn.cell (p := ⟨bb, off + k, none⟩) hbb).trans hcw
              have hcn : cnt m o ≤ 9 := cntTo_le m o 9
              have hah := add_has (x := x) HT.out.2.1 HT.out.2.2
              rw [hm', hI'] at hah
              clear ht3 hto hc hm'
              go_wp2_with fail
              refine (has_any b1 o m x _ HTn.out).mono ?_
              rintro e wx ⟨rfl, rfl⟩
              rw [hah]
              clear hah
              go_wp2_with fail
              refine (count_any b1 o m _ HTn.out).mono ?_
              rintro e wx ⟨rfl, rfl⟩
              go_wp2_with fail
              refine (won_any b1 o m _ HTn.out).mono ?_
              rintro e wx ⟨rfl, q, rfl⟩
              have HTq := Lib.hid (HTn.out.drewN q)
              have HMq := Lib.hid (HMn.out.drewN q)
              have hbq := below_drewN hbn q
              generalize w3.drewN q = wq at HTq HMq hbq
              have e1 : wonT m o = (decide (0 < o) && decide (o < 2 * cnt m o)) := rfl
              cases hw : wonT m o
              · have hww : 0 < o → ¬ (o < 2 * cnt m o) := by intro h0 hx; rw [hw] at e1; simp at e1; omega
                clear hw e1
                go_wp2_with fail
                all_goals first
                  | (exfalso; rename_i hq; simp at hq; omega)
                  | (go_round
                     case rel => exact ⟨k + 1, m, val_int (by rfl), by go_num, by omega, by omega, HTq, HMq, HD, hbq⟩
                     case measure => simp [intOf]; omega)
              · have hww : 0 < o ∧ o < 2 * cnt m o := by rw [hw] at e1; simp at e1; omega
                obtain ⟨hw1', hw2'⟩ := hww
                clear hw e1
                go_wp2_with fail
                all_goals first
                  | (exfalso; rename_i hq; simp at hq; omega)
                  | (go_round
                     case rel => exact ⟨k + 1, m, val_int (by rfl), by go_num, by omega, by omega, HTq, HMq, HD, hbq⟩
                     case measure => simp [intOf]; omega)
            ·
              have hI' : isOne x o = false := by unfold isOne; simp; omega
              have hm' := add_none (m := m) hI'
              clear hI
              go_wp2_with fail
              refine (add_any b1 o m x _ HT.out).mono ?_
              rintro e w3 ⟨rfl, ht3, hto⟩
              rw [hI']
              have HTn := Lib.hid (show TallyAt w3 b1 o m by rw [← hm']; exact ht3)
              have HMn := Lib.hid (HM.out.touch hto (fun e => hne e.symm))
              have hbn := below_touch hb hto hb1
              have hc3 := (hbn.cell (p := ⟨bb, off + k, none⟩) hbb).trans hcw
              have hcn : cnt m o ≤ 9 := cntTo_le m o 9
              have hah := add_has (x := x) HT.out.2.1 HT.out.2.2
              rw [hm', hI'] at hah
              clear ht3 hto hc hm'
              go_wp2_with fail
              refine (has_any b1 o m x _ HTn.out).mono ?_
              rintro e wx ⟨rfl, rfl⟩
              rw [hah]
              clear hah
              go_wp2_with fail
              refine (count_any b1 o m _ HTn.out).mono ?_
              rintro e wx ⟨rfl, rfl⟩
              go_wp2_with fail
              refine (won_any b1 o m _ HTn.out).mono ?_
              rintro e wx ⟨rfl, q, rfl⟩
              have HTq := Lib.hid (HTn.out.drewN q)
              have HMq := Lib.hid (HMn.out.drewN q)
              have hbq := below_drewN hbn q
              generalize w3.drewN q = wq at HTq HMq hbq
              have e1 : wonT m o = (decide (0 < o) && decide (o < 2 * cnt m o)) := rfl
              cases hw : wonT m o
              · have hww : 0 < o → ¬ (o < 2 * cnt m o) := by intro h0 hx; rw [hw] at e1; simp at e1; omega
                clear hw e1
                go_wp2_with fail
                all_goals first
                  | (exfalso; rename_i hq; simp at hq; omega)
                  | (go_round
                     case rel => exact ⟨k + 1, m, val_int (by rfl), by go_num, by omega, by omega, HTq, HMq, HD, hbq⟩
                     case measure => simp [intOf]; omega)
              · have hww : 0 < o ∧ o < 2 * cnt m o := by rw [hw] at e1; simp at e1; omega
                obtain ⟨hw1', hw2'⟩ := hww
                clear hw e1
                go_wp2_with fail
                all_goals first
                  | (exfalso; rename_i hq; simp at hq; omega)
                  | (go_round
                     case rel => exact ⟨k + 1, m, val_int (by rfl), by go_num, by omega, by omega, HTq, HMq, HD, hbq⟩
                     case measure => simp [intOf]; omega)
        · have hd : (decide (k < len) && decide (k < 60)) = false := by simp; omega
          have hd2 : k < len → 60 ≤ k := by omega
          clear hlt
          obtain ⟨wo, rfl⟩ : ∃ wo : World, wo = wr := ⟨_, rfl⟩
          go_wp2
          all_goals (
            go_loop [11] (fun i => ∃ j : Nat, j ≤ 12 ∧ i = .int .i64 ((j : Int) - 1)) (fun i => (11 - intOf i).toNat)
            case atStart => exact ⟨0, Nat.zero_le _, rfl⟩
            case round =>
              obtain ⟨j, hj, rfl⟩ := hrel
              by_cases hlt : j < 12
              · by_cases hj0 : j = 0
                · subst hj0
                  have hh := has_any b1 o m (((0 : Nat) : Int) - 1) wo HT.out
                  have e1 : (decide (0 ≤ ((0 : Nat) : Int) - 1) && decide (((0 : Nat) : Int) - 1 < (o : Int)) && m.getD (((0 : Nat) : Int) - 1).toNat false) = false := rfl
                  rw [e1] at hh
                  clear e1
                  go_wp2_with fail
                  refine hh.mono ?_
                  rintro e wx ⟨rfl, rfl⟩
                  go_wp2_with fail
                  go_round
                  case rel => exact ⟨1, by omega, rfl⟩
                  case measure => simp [intOf]
                · obtain ⟨y, rfl⟩ : ∃ y, j = y + 1 := ⟨j - 1, by omega⟩
                  have ey : (((y + 1 : Nat) : Int) - 1) = (y : Int) := by omega
                  rw [ey]
                  by_cases hy9 : y < 9
                  · have hcb : wo.cell? ⟨bh, y, none⟩ = some (.bool (m.getD y false)) := by
                      rw [HM.out.cell, List.getElem?_map, List.getD, List.getElem?_eq_getElem (by have := HT.out.2.1; omega)]; rfl
                    have hh := has_any b1 o m (y : Int) wo HT.out
                    have e1 : (decide (0 ≤ (y : Int)) && decide ((y : Int) < (o : Int)) && m.getD (y : Int).toNat false) = m.getD y false := by
                      have hD := HD.out y
                      rw [Int.toNat_natCast]
                      cases hv : m.getD y false
                      · simp
                      · have := hD hv
                        simp
                        exact this
                    rw [e1] at hh
                    clear e1
                    generalize m.getD y false = v at hh hcb
                    go_wp2_with fail
                    refine hh.mono ?_
                    rintro e wx ⟨rfl, rfl⟩
                    go_wp2_with fail
                    go_round
                    case rel => exact ⟨y + 2, by omega, by go_num⟩
                    case measure => simp [intOf]; omega
                  · have hh := has_any b1 o m (y : Int) wo HT.out
                    have e1 : (decide (0 ≤ (y : Int)) && decide ((y : Int) < (o : Int)) && m.getD (y : Int).toNat false) = false := by
                      have : decide ((y : Int) < (o : Int)) = false := by simp; omega
                      rw [this]
                      simp
                    rw [e1] at hh
                    clear e1
                    go_wp2_with fail
                    refine hh.mono ?_
                    rintro e wx ⟨rfl, rfl⟩
                    go_wp2_with fail
                    go_round
                    case rel => exact ⟨y + 2, by omega, by go_num⟩
                    case measure => simp [intOf]; omega
              · obtain rfl : j = 12 := by omega
                go_wp2_with fail
                refine (awake_any _).mono ?_
                rintro e w5 ⟨rfl, hb6⟩
                go_wp2_with fail
                go_ret
                exact ⟨rfl, below_step hb hb6⟩)
end Go.Proofs.Ytcbanjejojgncaa
