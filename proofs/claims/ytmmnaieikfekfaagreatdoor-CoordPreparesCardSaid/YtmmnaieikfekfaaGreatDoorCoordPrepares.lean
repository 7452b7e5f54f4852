/- The walk of CoordPrepares: a coordinator asks each vault for its promise until it has it, and leads just when a majority has promised. No condition. -/
import Derived.Test.YtmmnaieikfekfaaGreatDoorHandle
import Derived.Test.YtmmnaieikfekfaaGreatDoorFresh
namespace Go.Proofs.YtmmnaieikfekfaaGreatDoor
open Go.RowKit

theorem cntTo_past (m : List Bool) (o k : Nat) (h : o ≤ k) : cntTo m o k = cntTo m o o := by
  induction k with
  | zero => have : o = 0 := by omega
            subst this; rfl
  | succ k ih =>
    by_cases e : o = k + 1
    · rw [e]
    · rw [cntTo_snoc, ih (by omega)]
      have : decide ((k : Int) < (o : Int)) = false := by simp; omega
      rw [this]; simp
theorem lack_cnt (m : List Bool) (o k : Nat) (h : k ≤ o) : (lackers m k).length + cntTo m o k = k := by
  induction k with
  | zero => simp [lackers, cntTo]
  | succ k ih =>
    have ih := ih (by omega)
    rw [lackers_snoc, cntTo_snoc, List.length_append, Int.toNat_natCast]
    have e : (decide ((0 : Int) ≤ (k : Int)) && decide ((k : Int) < (o : Int)) && m.getD k false) = m.getD k false := by simp; omega
    rw [e]
    cases m.getD k false <;> simp <;> omega
theorem lack_len (m : List Bool) (n : Nat) (h : n ≤ 9) : (lackers m n).length + cnt m n = n := by
  have := lack_cnt m n n (Nat.le_refl _)
  have h2 := cntTo_past m n 9 h
  unfold cnt
  omega
theorem lack_mem (m : List Bool) (n k : Nat) (hk : k < (lackers m n).length) : (lackers m n)[k] < n ∧ m.getD (lackers m n)[k] false = false := by
  have hx : ∀ x, x ∈ lackers m n → x < n ∧ m.getD x false = false := by
    intro x hx
    unfold lackers at hx
    rw [List.mem_filter, List.mem_range] at hx
    refine ⟨hx.1, ?_⟩
    have h2 := hx.2
    cases h : m.getD x false
    · rfl
    · rw [h] at h2; cases h2
  exact hx _ (List.getElem_mem hk)
theorem wonT_iff (m : List Bool) (n : Nat) (h : 1 ≤ n) : wonT m n = decide ((n : Int) < 2 * (cnt m n : Int)) := by
  unfold wonT
  rw [Bool.eq_iff_iff]
  simp
  omega

theorem not_inPrep {w0 w : World} {c t : Nat} {S : CSt} {n : Nat} {m : List Bool} {ps : List Prom} {qs : List Peer} (h : Prep w0 w c t S n m ps qs) {b : Nat} {cs : List Value} {T : TypeId} (hb : Blk w b cs T)
    (h1 : T ≠ 91) (h2 : T ≠ 114) (h3 : T ≠ 136) : ¬ InPrep c t S b := by
  intro hi
  rcases hi with e | e | e
  · exact hb.ne h.at_.1 h1 e
  · exact hb.ne h.tally.1 h2 e
  · obtain ⟨cs', hr, _⟩ := h.row
    exact row_ne hr hb (Ne.symm h3) e

set_option maxRecDepth 100000 in
set_option maxHeartbeats 8000000 in
theorem coordPrepares_walk (id n : Int) (a2 : Option Addr) (len2 cap2 : Nat) (z2 : List Int) (w : World) (_hwi : (Lit.int .i64 id).wf = true) (_hwn : (Lit.int .i64 n).wf = true) (h2 : IsInts .i64 w a2 len2 cap2 z2) :
    Calls Tryz.prog 6 #[.int .i64 id, .int .i64 n, .slice a2 len2 cap2] w fun e w' => e = .returned (.bool true) ∧ Below w.heap.size w w' := by
  obtain ⟨hat2, hlen2, _, hmax2, _, _⟩ := isInts_at h2
  unfold maxLen at hmax2
  have Hat2 := Lib.hid hat2
  have Hlen2 := Lib.hid hlen2
  clear h2 hat2 hlen2
  by_cases hok : NewOk id n 7
  · have hn1 := hok.2.1
    have hn9 := hok.2.2
    obtain ⟨N, rfl⟩ := Int.eq_ofNat_of_zero_le (show 0 ≤ n by omega)
    have Hok := Lib.hid hok
    have hmk := fun W => run_make_one (P := Tryz.prog) 55 4 (.bool false) 1 Tryz.underlying55 info_bool rfl N (by omega) (by omega) W
    clear hok
    go_enter Tryz.func6, Tryz.ntmps6
    go_wp2_with fail
    refine (fresh_ok id (N : Int) 7 _ Hok.out).mono ?_
    rintro e w1 ⟨wb, bk, mp, c, t, rfl, hW, hbk, hmp, hc, ht, hwb0, hc0, ht0, hb1⟩
    go_wp2
    have hb2 := hb1.alloc hb1.size (.cells (Array.replicate N (.bool false)) 4)
    have hW2 := hW.alloc (.cells (Array.replicate N (.bool false)) 4)
    have hc2 : CoordAt (w1.alloc (.cells (Array.replicate N (.bool false)) 4)) c _ := hc.alloc _
    have ht2 : TallyAt (w1.alloc (.cells (Array.replicate N (.bool false)) 4)) t N (List.replicate 9 false) := ⟨ht.1.alloc _, ht.2⟩
    have hh2 : Blk (w1.alloc (.cells (Array.replicate N (.bool false)) 4)) w1.heap.size (((List.replicate 9 false).take N).map Value.bool) 4 := by
      have h := Blk.new w1 (List.replicate N (.bool false)) 4
      rw [List.take_replicate, show min N 9 = N by omega, List.map_replicate]
      rw [← List.toArray_replicate]
      exact h
    have hgh0 : w.heap.size ≤ w1.heap.size := hb1.size
    obtain ⟨gh, hgh⟩ : ∃ gh, gh = w1.heap.size := ⟨_, rfl⟩
    rw [← hgh] at hh2 hgh0 ⊢
    generalize w1.alloc (.cells (Array.replicate N (.bool false)) 4) = w2 at hb2 hW2 hc2 ht2 hh2 ⊢
    have hP : Prep w w2 c t (newCoord id N 7 (.pointer (some ⟨bk, 0, none⟩)) (.pointer (some ⟨t, 0, none⟩))) N (List.replicate 9 false) [] (List.replicate 9 noPeer) :=
      ⟨hc2, rfl, by omega, by omega, rfl, ht2, ⟨[], World.ownsRow_nil _ _ _ _, rfl⟩, rfl, rfl, hb2, hc0, ht0⟩
    have HP := Lib.hid hP
    have HW2 := Lib.hid hW2
    have HH2 := Lib.hid hh2
    have hcz : cnt (List.replicate 9 false) N = 0 := cnt_zero N
    have hw0 : wonT (List.replicate 9 false) N = false := by unfold wonT; rw [hcz]; simp
    have Hcz := Lib.hid hcz.symm
    have Hw0 := Lib.hid hw0
    clear hgh hW hc ht hb1 hbk hmp hW2 hc2 ht2 hh2 hP hcz hw0 hmk
    go_loopw [9, 10] (fun cn i wr => ∃ (k x : Nat) (m : List Bool) (S : CSt) (ps : List Prom) (qs : List Peer), i = .int .i64 k ∧ k ≤ len2 ∧ k ≤ 60 ∧ cn = .int .i64 x ∧ x ≤ 9 ∧ Hid (x = cnt m N) ∧ Hid (wonT m N = false) ∧ Hid (Prep w wr c t S N m ps qs) ∧ ps.length ≤ k ∧ Hid (∀ p ∈ ps, p.top = 0 ∧ p.list = []) ∧ Hid (S.phase = 1 ∧ S.id = id ∧ S.call = .pointer none) ∧ Hid (Blk wr wb (worldVals c bk id N) 49) ∧ Hid (Blk wr gh ((m.take N).map Value.bool) 4)) (fun _ i _ => 60 - (intOf i).toNat)
    case atStart => exact ⟨0, 0, _, _, [], _, rfl, by omega, by omega, rfl, by omega, Hcz, Hw0, HP, by simp, Lib.hid (fun p hp => by cases hp), Lib.hid ⟨rfl, rfl, rfl⟩, HW2, HH2⟩
    case round =>
      obtain ⟨k, x, m, S, ps, qs, rfl, hk, hk60, rfl, hx9, Hx, Hnw, HP, hpl, Hall, HS, HW, HH⟩ := hrel
      clear HW2 HH2 Hcz Hw0
      have hbw := HP.out.below
      by_cases hlt : k < len2 ∧ k < 60
      · obtain ⟨hlt1, hlt2⟩ := hlt
        have hki : k < (z2.take len2).length := by rw [Hlen2.out]; exact hlt1
        obtain ⟨bb, off, rfl, hcx⟩ : ∃ b off, a2 = some ⟨b, off, none⟩ ∧ wr.cell? ⟨b, off + k, none⟩ = some (.int .i64 (z2.take len2)[k]) := by
          obtain ⟨b, off, e, hb, hc⟩ := (intsAt_below Hat2.out hbw).resolve_left (by intro h; rw [h] at hki; simp at hki)
          exact ⟨b, off, e, hc k hki⟩
        generalize (z2.take len2)[k]'hki = z at hcx
        have hwb : wr.cell? ⟨wb, 0, none⟩ = some (.pointer (some ⟨c, 0, none⟩)) := HW.out.cell 0
        clear hki
        have hz3 : (0 ≤ z ∧ z < (N : Int)) ∨ (0 ≤ z ∧ (N : Int) ≤ z) ∨ z < 0 := by omega
        rcases hz3 with ⟨hy1, hy2⟩ | ⟨hy1, hy2⟩ | hy1
        all_goals
          go_upto_if 42 with (fail)
          go_cut [9] (fun cn wx => ∃ (x' : Nat) (m' : List Bool), cn = .int .i64 x' ∧ x' ≤ 9 ∧ Hid (x' = cnt m' N) ∧ Hid (Blk wx wb (worldVals c bk id N) 49) ∧ Hid (Blk wx gh ((m'.take N).map Value.bool) 4) ∧ Below w.heap.size w wx ∧
            ((Hid (wonT m' N = false) ∧ ∃ S ps qs, Hid (Prep w wx c t S N m' ps qs) ∧ ps.length ≤ k + 1 ∧ Hid (∀ p ∈ ps, p.top = 0 ∧ p.list = []) ∧ Hid (S.phase = 1 ∧ S.id = id ∧ S.call = .pointer none)) ∨ (Hid (wonT m' N = true) ∧ ∃ S, Hid (CoordAt wx c S) ∧ Hid (S.n = (N : Int) ∧ S.phase = 2))))
          case first =>
            by_cases hz : 0 ≤ z ∧ z < (N : Int)
            · first | (exfalso; omega) | skip
              all_goals (
                obtain ⟨v, rfl⟩ := Int.eq_ofNat_of_zero_le hz.1
                have hvN : v < N := by omega
                clear hz
                go_wp2_with fail
                go_still_tail 12, (by kernel_rfl)
                still_call ((ballotOf_any c S wr.drew (HP.out.at_.drew) (by have := HP.out.n_; have := HP.out.n1; omega)).mono fun _ _ h => ⟨h.1, h.2.symm⟩)
                repeat still_step
                refine wpStill_nil ?_
                change wpList _ _ _ _ _ wr.drew
                have HP3 := Lib.hid (HP.out.below' (Below.refl _ _).drew)
                have HW3 := Lib.hid HW.out.drew
                have HH3 := Lib.hid HH.out.drew
                generalize wr.drew = w3 at HP3 HW3 HH3 ⊢
                clear HP HW HH hwb hcx
                have hh := handle_empty w c t S N m ps qs v k w3 HP3.out hvN HS.out.1 Hnw.out (by omega) hpl Hall.out
                rw [HS.out.2.1] at hh
                have HHC := Lib.hid hh
                clear hh
                go_wp2_with fail
                refine HHC.out.mono ?_
                rintro e w4 ⟨rfl, ht4, hno, hyes⟩
                clear HHC
                have HB4 := Lib.hid (HP3.out.below.trans (ht4.below HP3.out.below.size (by
                  obtain ⟨cs', hr, _⟩ := HP3.out.row
                  exact inPrep_base HP3.out.c0 HP3.out.t0 hr)))
                have hW4 := HW3.out.touch ht4 (not_inPrep HP3.out HW3.out (by decide) (by decide) (by decide))
                have hH4 := HH3.out.touch ht4 (not_inPrep HP3.out HH3.out (by decide) (by decide) (by decide))
                have hcell : w4.cell? ⟨gh, v, none⟩ = some (.bool (m.getD v false)) := by
                  rw [hH4.cell, List.getElem?_map, List.getElem?_take_of_lt hvN, List.getD, List.getElem?_eq_getElem (by have := HP3.out.tally.2.1; omega)]
                  rfl
                have hfree := hH4.free v
                have hone : isOne (v : Int) N = true := by unfold isOne; simp; omega
                have hml : m.length = 9 := HP3.out.tally.2.1
                have HW4 := Lib.hid hW4
                have HH4 := Lib.hid hH4
                have Hno := Lib.hid hno
                have Hyes := Lib.hid hyes
                have hghl := hH4.lt
                have hwgh : gh ≠ wb := hH4.ne hW4 (by decide)
                have hcgh : w4.heap.size = w4.heap.size := rfl
                cases hm : m.getD v false with
                | true =>
                  rw [hm] at hcell
                  have hsame := Lib.hid (add_same (o := N) (x := (v : Int)) hone (by simpa using hm))
                  clear hm hone hno hyes hW4 hH4 ht4
                  go_wp2_with fail
                  go_meet
                  refine ⟨x, m, rfl, hx9, Hx, HW4, HH4, HB4.out, ?_⟩
                  cases hw : wonT m N with
                  | true => rw [Hnw.out] at hw; cases hw
                  | false =>
                    obtain ⟨S', ps', qs', a1, a2, a3, a4, a5, _, a6⟩ := Hno.out (by rw [hsame.out]; exact hw)
                    rw [hsame.out] at a1
                    exact Or.inl ⟨rfl, S', ps', qs', a1, a2, a3, ⟨a4, a5.trans HS.out.2.1, a6.trans HS.out.2.2⟩⟩
                | false =>
                  rw [hm] at hcell
                  have hcnt := cnt_add (x := (v : Int)) hml (by omega) hone (by simpa using hm)
                  have Hcnt := Lib.hid hcnt
                  have hx8 : x + 1 ≤ 9 := by have := Hx.out; have := cntTo_le (addTo m v N) N 9; have : cnt (addTo m v N) N = cntTo (addTo m v N) N 9 := rfl; omega
                  have hadd := Lib.hid (show addTo m (v : Int) N = m.set v true by unfold addTo; rw [if_pos hone, Int.toNat_natCast])
                  have hset := HH4.out.set v (.bool true)
                  have hset2 := Lib.hid (show Blk (w4.setCell ⟨gh, v, none⟩ (.bool true)) gh (((addTo m v N).take N).map Value.bool) 4 by
                    rw [hadd.out, List.take_set, List.map_set]
                    exact hset)
                  have hW5 := Lib.hid (HW4.out.set_other (a := ⟨gh, v, none⟩) (Ne.symm hwgh) (.bool true))
                  have HT5 := Lib.hid ((Touch.refl (fun k => k = gh) w4).set (p := ⟨gh, v, none⟩) (Or.inl rfl) (.bool true))
                  have HB5 := Lib.hid (HB4.out.setCell (p := ⟨gh, v, none⟩) hgh0 (.bool true))
                  clear hm hone hno hyes hW4 hH4 ht4 hcnt hset
                  go_wp2_with fail
                  go_meet
                  refine ⟨x + 1, addTo m v N, by go_num, hx8, Lib.hid (by rw [Hcnt.out, ← Hx.out]), hW5, hset2, HB5.out, ?_⟩
                  cases hw : wonT (addTo m v N) N with
                  | true =>
                    obtain ⟨S', a1, a2, a3⟩ := Hyes.out hw
                    exact Or.inr ⟨rfl, S', ⟨a1.1.touch HT5.out (Ne.symm (HH4.out.ne a1.1 (by decide))), a1.2⟩, ⟨a2, a3⟩⟩
                  | false =>
                    obtain ⟨S', ps', qs', a1, a2, a3, a4, a5, _, a6⟩ := Hno.out hw
                    have hg := not_inPrep a1 HH4.out (by decide) (by decide) (by decide)
                    have a1' : Prep w (w4.setCell ⟨gh, v, none⟩ (.bool true)) c t S' N (addTo m v N) ps' qs' := by
                      obtain ⟨cs', hr, hpr⟩ := a1.row
                      exact ⟨⟨a1.at_.1.touch HT5.out (fun e => hg (Or.inl e.symm)), a1.at_.2⟩, a1.n_, a1.n1, a1.n9, a1.promised, ⟨a1.tally.1.touch HT5.out (fun e => hg (Or.inr (Or.inl e.symm))), a1.tally.2⟩,
                        ⟨cs', row_touch hr HT5.out (fun g hg2 e => hg (Or.inr (Or.inr (by rw [hg2, e])))), hpr⟩, a1.peers, a1.qs9, HB5.out, a1.c0, a1.t0⟩
                    exact Or.inl ⟨rfl, S', ps', qs', a1', a2, a3, ⟨a4, a5.trans HS.out.2.1, a6.trans HS.out.2.2⟩⟩)
            · first | (exfalso; omega) | skip
              all_goals go_wp2_with fail
              all_goals go_meet
              all_goals exact ⟨x, m, rfl, hx9, Hx, HW, HH, hbw, Or.inl ⟨Hnw, S, ps, qs, HP, by omega, Hall, HS⟩⟩
          case rest =>
            obtain ⟨x', m', rfl, hx', Hx', HW', HH', HB', hcase⟩ := hcut
            clear HP HW HH hbw hcx hwb Hx Hnw Hall HS
            have hwb : wc.cell? ⟨wb, 0, none⟩ = some (.pointer (some ⟨c, 0, none⟩)) := HW'.out.cell 0
            rcases hcase with ⟨Hnw, S, ps, qs, HP, hpl', Hall, HS⟩ | ⟨Hyw, S, HC, HS⟩
            · have hn1' : 1 ≤ S.n := by have := HP.out.n_; have := HP.out.n1; omega
              have hd : decide ((N : Int) < 2 * (x' : Int)) = false := by
                have h := Hnw.out
                rw [wonT_iff m' N (by omega), ← Hx'.out] at h
                exact h
              have hd2 : ¬ (N : Int) < 2 * (x' : Int) := by simpa using hd
              have hl1 := leads_any c S _ HP.out.at_ hn1'
              rw [show (S.phase == 2) = false by rw [HS.out.1]; rfl] at hl1
              have HL1 := Lib.hid hl1
              clear hl1
              go_wp2_with fail
              refine HL1.out.mono ?_
              rintro e wx ⟨rfl, rfl⟩
              go_wp2_with fail
              refine HL1.out.mono ?_
              rintro e wx ⟨rfl, rfl⟩
              clear HL1
              go_wp2_with fail
              refine (noCall_tick c t S m' N _ HP.out.at_ HP.out.n_ (by omega) (by omega) HP.out.promised HP.out.tally HS.out.1 HS.out.2.2).mono ?_
              rintro e w5 ⟨vl, rfl, hown5, hb5⟩
              have HP5 := Lib.hid (HP.out.below' hb5)
              have HW5 := Lib.hid (HW'.out.below hb5)
              have HH5 := Lib.hid (HH'.out.below hb5)
              have hll := lack_len m' N (by omega)
              rw [← Hx'.out] at hll
              have Hlm := Lib.hid (lack_mem m' N)
              have hm9 : m'.length = 9 := HP.out.tally.2.1
              generalize lackers m' N = l at hown5 hll Hlm ⊢
              obtain ⟨ad, cap, rfl⟩ := row_shape hown5
              have Hown5 := Lib.hid hown5
              have hne : ((l.length : Int) != (N : Int) - (x' : Int)) = false := by rw [bne_eq_false_iff_eq]; omega
              have hlN : l.length ≤ 9 := by omega
              clear hown5 HP HW' HH' HB' hwb hd hd2
              go_wp2_with fail
              go_loop [13] (fun i => ∃ j : Nat, i = .int .i64 j ∧ j ≤ l.length) (fun i => l.length - (intOf i).toNat)
              case atStart => exact ⟨0, rfl, Nat.zero_le _⟩
              case round =>
                obtain ⟨j, rfl, hj⟩ := hrel
                by_cases hjl : j < l.length
                · obtain ⟨g, cap', hv, _, hgl, _, _, hcell⟩ := row_some Hown5.out (by omega)
                  injection hv with hv1 _ hv2
                  subst hv1; subst hv2
                  obtain ⟨hlm1, hlm2⟩ := Hlm.out j hjl
                  have d0 : w5.cell? ⟨g, j * 14, none⟩ = some (.int .i64 1) := by
                    rw [hcell (j * 14) (by omega)]; exact askVals_at _ l j hjl 0 (by omega)
                  have d2 : w5.cell? ⟨g, j * 14 + 2, none⟩ = some (.int .i64 ((l[j] : Nat) : Int)) := by
                    rw [hcell (j * 14 + 2) (by omega)]; exact askVals_at _ l j hjl 2 (by omega)
                  have dh : w5.cell? ⟨gh, l[j], none⟩ = some (.bool false) := by
                    rw [HH5.out.cell, List.getElem?_map, List.getElem?_take_of_lt hlm1, List.getElem?_eq_getElem (by omega)]
                    rw [List.getD, List.getElem?_eq_getElem (by omega)] at hlm2
                    exact congrArg (fun b => some (Value.bool b)) hlm2
                  generalize l[j]'hjl = y at hlm1 hlm2 d2 dh
                  clear hcell
                  go_wp2
                  go_round
                  case rel => exact ⟨j + 1, by go_num, by omega⟩
                  case measure => simp [intOf]; omega
                · go_wp2_with fail
                  go_roundw
                  case rel => exact ⟨k + 1, x', m', S, ps, qs, by go_num, by omega, by omega, rfl, hx', Hx', Hnw, HP5, by omega, Hall, HS, HW5, HH5⟩
                  case measure => simp [intOf]; omega
            · have hn1' : 1 ≤ S.n := by have := HS.out.1; omega
              have hd : decide ((N : Int) < 2 * (x' : Int)) = true := by
                have h := Hyw.out
                rw [wonT_iff m' N (by omega), ← Hx'.out] at h
                exact h
              have hd2 : (N : Int) < 2 * (x' : Int) := by simpa using hd
              have hl1 := leads_any c S _ HC.out hn1'
              rw [show (S.phase == 2) = true by rw [HS.out.2]; rfl] at hl1
              have HL1 := Lib.hid hl1
              clear hl1
              go_wp2_with fail
              refine HL1.out.mono ?_
              rintro e wx ⟨rfl, rfl⟩
              go_wp2_with fail
              refine HL1.out.mono ?_
              rintro e wx ⟨rfl, rfl⟩
              go_wp2_with fail
              refine (awake_any _).mono ?_
              rintro e w6 ⟨rfl, hb6⟩
              go_wp2_with fail
              go_ret
              exact ⟨rfl, below_step HB' hb6⟩
      · have hcase : k < len2 ∧ 60 ≤ k ∨ len2 ≤ k := by omega
        rcases hcase with ⟨hx1, hx2⟩ | hx1
        all_goals
          go_wp2_with fail
          refine (awake_any _).mono ?_
          rintro e w6 ⟨rfl, hb6⟩
          go_wp2_with fail
          go_ret
          exact ⟨rfl, below_step hbw hb6⟩
  · have Hok := Lib.hid hok
    clear hok
    go_enter Tryz.func6, Tryz.ntmps6
    go_wp2_with fail
    refine (fresh_no id n 7 _ Hok.out).mono ?_
    rintro e w1 ⟨rfl, hb1⟩
    go_wp2_with fail
    refine (awake_any _).mono ?_
    rintro e w2 ⟨rfl, hb2⟩
    go_wp2_with fail
    go_ret
    exact ⟨rfl, below_step hb1 hb2⟩
end Go.Proofs.YtmmnaieikfekfaaGreatDoor
