/- The walk of press.Open. Condition: the text's size. -/
import Derived.Test.YtogobhpnlndcaaaGreatWrap
import Derived.Test.YtogobhpnlndcaaaGreatReadEnd
import Derived.Laws.BytesArg
import Derived.Maps.OwnSet
namespace Go.Proofs.YtogobhpnlndcaaaGreat
open Go Go.RowKit
set_option linter.unusedVariables false

/-- what is no row of bytes stays -/
def KeepU (w w' : World) : Prop := ∀ k cs T, T ≠ 5 → Blk w k cs T → Blk w' k cs T
theorem KeepU.refl (w : World) : KeepU w w := fun _ _ _ _ h => h
theorem KeepU.trans {w1 w2 w3 : World} (h : KeepU w1 w2) (h' : KeepU w2 w3) : KeepU w1 w3 := fun k cs T h2 h3 => h' k cs T h2 (h k cs T h2 h3)
theorem KeepU.of_below {w w' : World} (h : Below w.heap.size w w') : KeepU w w' := fun _ _ _ _ hb => hb.below h
theorem KeepU.grown {w w' : World} {base n : Nat} {v : Value} {xs : List Value} (hg : w.grownBy w' v.ownBlock) (hown : w.ownsRow base 5 1 v n xs) : KeepU w w' := fun k cs T h2 h3 => blk_grown h3 hg (row_ne hown h3 (Ne.symm h2))
theorem copied_snoc (back : Nat) : ∀ (n : Nat) (b : List UInt8), copied b back (n + 1) = copied b back n ++ [(copied b back n).getD ((copied b back n).length - back) 0]
  | 0, b => rfl
  | n + 1, b => by
    show copied (b ++ [b.getD (b.length - back) 0]) back (n + 1) = _
    rw [copied_snoc back n]
    rfl
set_option maxRecDepth 100000 in
set_option maxHeartbeats 2000000 in
theorem copied_any (v : Value) (b : List UInt8) (back n base : Nat) (w : World) (hown : w.ownsRow base 5 1 v b.length (u8s b)) (h1 : 1 ≤ back) (h2 : back ≤ b.length) (hb : b.length + n ≤ 1099511627776) (hbase : base ≤ w.heap.size) :
    Calls Tryz.prog 44 #[v, .int .i64 (back : Int), .int .i64 (n : Int)] w fun e w' => ∃ v', e = .returned v' ∧ w'.ownsRow base 5 1 v' (copied b back n).length (u8s (copied b back n)) ∧ Below base w w' ∧ KeepU w w' := by
  have Hown := Lib.hid hown
  clear hown
  go_enter Tryz.func44, Tryz.ntmps44
  go_wp2
  go_loopw [0, 8] (fun sv kv wr => ∃ k : Nat, kv = .int .i64 (k : Int) ∧ k ≤ n ∧ Hid (wr.ownsRow base 5 1 sv (copied b back k).length (u8s (copied b back k))) ∧ Hid (Below base w wr) ∧ Hid (KeepU w wr)) (fun _ kv _ => n - (intOf kv).toNat)
  case atStart => exact ⟨0, rfl, Nat.zero_le _, Hown, Lib.hid (Below.refl _ _), Lib.hid (KeepU.refl _)⟩
  case round =>
    obtain ⟨k, rfl, hk, HO, HB, HK⟩ := hrel
    clear Hown
    by_cases hlt : k < n
    · have hlen := copied_length k b back
      have hsn := copied_snoc back k b
      obtain ⟨C, hC⟩ : ∃ C, C = copied b back k := ⟨_, rfl⟩
      rw [← hC] at HO hlen hsn
      have Hsn := Lib.hid hsn
      clear hsn hC
      have hC0 : 0 < C.length := by omega
      obtain ⟨g, cap, rfl, hgb, hgl, hcl, hcm, hcells⟩ := row_some HO.out hC0
      obtain ⟨p, hp⟩ : ∃ p, p = C.length - back := ⟨_, rfl⟩
      have hpi : IntKind.i64.wrap ((C.length : Int) - (back : Int)) = (p : Int) := by rw [IntKind.wrap_i64]; omega
      have hpl : p < C.length := by omega
      have hcp := hcells p (by omega)
      have hup : (u8s C)[p]? = some (.int .u8 (((C.getD p 0).toNat : Nat) : Int)) := by
        unfold u8s
        rw [List.getElem?_map, List.getD_eq_getElem?_getD, List.getElem?_eq_getElem hpl]
        rfl
      rw [hup] at hcp
      rw [← hp] at Hsn
      obtain ⟨x, hx⟩ : ∃ x, x = C.getD p 0 := ⟨_, rfl⟩
      rw [← hx] at hcp Hsn
      have hbs := HB.out.size
      have hCb : C.length ≤ 1099511627775 := by omega
      have hbC : back ≤ C.length := by omega
      clear hup hp hx hcells hlen
      go_wp2_with (at_builtin; refine append_own1 rfl _ _ 79 rfl base 5 1 1 Tryz.underlying79 _ info_u8 rfl (by decide) _ _ _ rfl HO.out _ rfl [.int .u8 ((x.toNat : Nat) : Int)] rfl rfl (by simp [Value.oneCell']) ?c1 ?c2 ?c3 ?_)
      case c1 => unfold maxLen; omega
      case c2 => omega
      case c3 => omega
      intro v' w3 hown3 hg3
      have HO3 := Lib.hid (show w3.ownsRow base 5 1 v' (copied b back (k + 1)).length (u8s (copied b back (k + 1))) by
        rw [Hsn.out, u8s_snoc, List.length_append]; exact hown3)
      have hba : Below base wr (wr.alloc (.cells #[.int .u8 ((x.toNat : Nat) : Int)] 5)) := (Below.refl _ _).alloc (by omega) _
      have HB3 := Lib.hid (HB.out.trans (hba.grown hg3 (by simp; omega) (fun k hk => (HO.out.lt k hk).1)))
      have HK3 := Lib.hid ((HK.out.trans (KeepU.of_below ((Below.refl _ _).alloc (Nat.le_refl _) (.cells #[.int .u8 ((x.toNat : Nat) : Int)] 5)))).trans (KeepU.grown hg3 (HO.out.alloc _)))
      clear hown3 hg3 hba HO HB HK
      go_wp2
      go_roundw
      case rel => exact ⟨k + 1, by go_num, by omega, HO3, HB3, HK3⟩
      case measure => simp [intOf]; omega
    · have hkn : k = n := by omega
      subst hkn
      obtain ⟨ad, cap, rfl⟩ := row_shape HO.out
      go_wp2
      go_ret
      exact ⟨_, rfl, HO.out, HB.out, HK.out⟩
theorem wrong_any (b : Nat) (S : List UInt8) (R : Rr) (w : World) (h : RdAt w b S R) :
    Calls Tryz.prog 43 #[.pointer (some ⟨b, 0, none⟩)] w fun e w' => e = .returned (.int .i64 (wrongE R)) ∧ w = w' := by
  have HE := Lib.hid (rdErr_any b S R w h)
  clear h
  by_cases he : R.e = 0
  · have HW := Lib.hid (show wrongE R = 5 by unfold wrongE; rw [if_pos he])
    have h0 : (R.e != 0) = false := by rw [he]; rfl
    clear he
    go_enter Tryz.func43, Tryz.ntmps43
    go_wp2_with fail
    refine HE.out.mono ?_
    rintro e w' ⟨rfl, rfl⟩
    go_wp2_with fail
    go_ret
    rw [HW.out]
    exact ⟨rfl, rfl⟩
  · have HW := Lib.hid (show wrongE R = R.e by unfold wrongE; rw [if_neg he])
    have h0 : (R.e != 0) = true := by rw [bne_iff_ne]; exact he
    clear he
    go_enter Tryz.func43, Tryz.ntmps43
    go_wp2_with fail
    refine HE.out.mono ?_
    rintro e w' ⟨rfl, rfl⟩
    go_wp2_with fail
    go_ret
    rw [HW.out]
    exact ⟨rfl, rfl⟩
theorem and_one (n : Nat) (h : n < 4611686018427387904) : bits .and .i64 (n : Int) 1 = ((n % 2 : Nat) : Int) := by
  have := i64_and_nat n 1 (by omega) (by omega)
  rw [Nat.and_one_is_mod] at this
  exact this
def rdE (b : Nat) (w : World) : Nat := match w.cell? ⟨b, 2, none⟩ with | some (.int _ e) => if e = 0 then 1 else 0 | _ => 0
theorem RdAt.eAt {w : World} {b : Nat} {S : List UInt8} {R : Rr} (h : RdAt w b S R) : rdE b w = if R.e = 0 then 1 else 0 := by
  unfold rdE; rw [h.cells.2.2]
def sliceLen : Value → Nat | .slice _ n _ => n | _ => 0
theorem RdAt.keepU {w w' : World} {b : Nat} {S : List UInt8} {R : Rr} (h : RdAt w b S R) (hk : KeepU w w') : RdAt w' b S R := ⟨hk _ _ _ (by decide) h.blk, h.le, h.rest⟩
theorem count_le (R : Rr) (most : Nat) : (R.count most).2.e = 0 → (R.count most).1 ≤ most := by
  unfold Rr.count
  intro h
  by_cases hc : R.num.2.e = 0 ∧ most < R.num.1
  · rw [if_pos hc] at h ⊢; exact Nat.zero_le _
  · rw [if_neg hc] at h ⊢
    exact Nat.le_of_not_lt (fun hl => hc ⟨h, hl⟩)
theorem count_len (R : Rr) (most : Nat) : (R.count most).2.l.length ≤ R.l.length := by
  have := R.num_le
  unfold Rr.count
  by_cases hc : R.num.2.e = 0 ∧ most < R.num.1
  · rw [if_pos hc]; exact this
  · rw [if_neg hc]; exact this
theorem count_size (R : Rr) (most : Nat) : (R.count most).1 < 4611686018427387904 := by
  have := R.num_lt
  unfold Rr.count
  by_cases hc : R.num.2.e = 0 ∧ most < R.num.1
  · rw [if_pos hc]; exact (by decide : (0 : Nat) < 4611686018427387904)
  · rw [if_neg hc]; exact this
theorem rnum_err : ∀ (l : List UInt8) (i acc : Nat), (rnum l i acc).2.e ≠ 0 → (rnum l i acc).1 = 0
  | [], i, acc, _ => rfl
  | c :: r, i, acc, h => by
    unfold rnum at h ⊢
    by_cases h1 : (i = 8 ∧ 63 < c.toNat) ∨ (0 < i ∧ c.toNat = 0)
    · rw [if_pos h1]
    · rw [if_neg h1] at h ⊢
      by_cases hl : c.toNat < 128
      · rw [if_pos hl] at h; exact absurd rfl h
      · rw [if_neg hl] at h ⊢
        exact rnum_err r (i + 1) _ h
theorem Rr.num_err (R : Rr) (h : R.num.2.e ≠ 0) : R.num.1 = 0 := by
  unfold Rr.num at h ⊢
  by_cases h0 : R.e = 0
  · rw [if_pos h0] at h ⊢; exact rnum_err _ _ _ h
  · rw [if_neg h0]
theorem raw_facts (R : Rr) (n : Nat) (h : R.e = 0) : (R.raw n).1.length ≤ n ∧ ((R.raw n).2.e = 0 → (R.raw n).1.length = n ∧ (R.raw n).2.l.length ≤ R.l.length) := by
  unfold Rr.raw
  rw [if_pos h]
  by_cases hl : R.l.length < n
  · rw [if_pos hl]
    exact ⟨Nat.zero_le _, fun h => absurd (show (3 : Int) = 0 from h) (by decide)⟩
  · rw [if_neg hl]
    refine ⟨by rw [List.length_take]; omega, fun _ => ⟨by rw [List.length_take]; omega, by rw [List.length_drop]; omega⟩⟩
theorem conv_any {w : World} {base : Nat} {v : Value} {l : List UInt8} (h : w.ownsRow base 5 1 v l.length (u8s l)) : (convert 79 9 v).run Tryz.prog w = .ok (.string (ba l)) w := by
  rcases Nat.eq_zero_or_pos l.length with h0 | h0
  · obtain rfl := List.eq_nil_of_length_eq_zero h0
    rcases h.2 with ⟨rfl, _⟩ | ⟨g, cap, cur, rfl, _⟩
    · exact run_convert_bytes_nil w 79 5 Tryz.underlying79 Tryz.underlying5 0 0 9 Tryz.underlying9
    · exact run_convert_bytes_back w 79 9 5 ⟨g, 0, none⟩ cap [] Tryz.underlying79 Tryz.underlying5 Tryz.underlying9 (fun j hj => absurd hj (Nat.not_lt_zero _))
  · exact conv_u8s h h0
theorem strCells_ba (t : List UInt8) : Lib.strCells (ba t) = u8s t := rfl
theorem own_rd {w w' : World} {b base n : Nat} {S : List UInt8} {R : Rr} {v : Value} {xs : List Value} (h : w.ownsRow base 5 1 v n xs) (hr : RdAt w b S R) (ht : Touch (fun k => k = b) w w') : w'.ownsRow base 5 1 v n xs :=
  row_touch h ht (fun g hg e => row_ne h hr.blk (by decide) (by rw [hg, e]))
set_option maxRecDepth 100000 in
set_option maxHeartbeats 8000000 in
theorem loose_any (S : List UInt8) (w : World) (hS : S.length ≤ 1099511627776) :
    Calls Tryz.prog 18 #[.string (ba S)] w fun e w' => e = .returned (.tuple #[.string (ba (loose S).1), .int .i64 (loose S).2]) ∧ Below w.heap.size w w' := by
  obtain ⟨i0, hi, hz0, hz1, hz2⟩ := info_parts info_u8
  have HI0 := Lib.hid (And.intro hi (And.intro hz0 (And.intro hz1 hz2)))
  clear hi hz0 hz1 hz2
  go_enter Tryz.func18, Tryz.ntmps18
  go_wp2_with fail
  refine (codeRead_any S w).mono ?_
  rintro e w1 ⟨rb, rfl, hrb, hR1, hb1⟩
  have HR1 := Lib.hid hR1
  have Hb1 := Lib.hid hb1
  clear hR1 hb1
  go_wp2_with fail
  refine (rdCount_any rb S ⟨S, 0⟩ 1048576 w1 HR1.out hS).mono ?_
  rintro e w2 ⟨rfl, hR2, hT2⟩
  have HR2 := Lib.hid hR2
  have Hb2 := Lib.hid (Hb1.out.trans (hT2.below Hb1.out.size (fun k hk e => by omega)))
  have hle := count_le ⟨S, 0⟩ 1048576
  have hcl := count_len ⟨S, 0⟩ 1048576
  have hcs := count_size ⟨S, 0⟩ 1048576
  have HL := Lib.hid (show looseGo (S.length + 2) ((Rr.mk S 0).count 1048576).1 [] ((Rr.mk S 0).count 1048576).2 = loose S from rfl)
  obtain ⟨c, hc⟩ : ∃ c, c = (Rr.mk S 0).count 1048576 := ⟨_, rfl⟩
  rw [← hc] at HR2 hle hcl hcs HL ⊢
  clear hR2 hT2 HR1 Hb1 hc
  obtain ⟨size, R0⟩ := c
  simp only at hle hcl hcs
  have Hcl := Lib.hid hcl
  have Hle := Lib.hid hle
  clear hcl hle
  go_wp2_with fail
  go_loopw [6] (fun bv wr => ∃ (bl : List UInt8) (R : Rr) (fu : Nat), Hid (wr.ownsRow w.heap.size 5 1 bv bl.length (u8s bl)) ∧ Hid (RdAt wr rb S R) ∧ Hid (Below w.heap.size w wr) ∧ Hid (looseGo fu size bl R = loose S) ∧ Hid (R.e = 0 → R.l.length + 2 ≤ fu ∧ size ≤ 1048576) ∧ 1 ≤ fu ∧ bl.length ≤ size) (fun bv wr => size - sliceLen bv + rdE rb wr)
  case atStart => exact ⟨[], R0, S.length + 2, Lib.hid (World.ownsRow_nil _ _ _ _), HR2, Hb2, HL, Lib.hid (fun h => ⟨by have := Hcl.out; omega, Hle.out h⟩), by omega, Nat.zero_le _⟩
  case round =>
    obtain ⟨bl, R, fu, HO, HR, HB, HE, HI, hfu, hbl⟩ := hrel
    clear HR2 Hb2 HL Hcl Hle
    obtain ⟨ad, cap, rfl⟩ := row_shape HO.out
    have Hm := Lib.hid HR.out.eAt
    have HEr := Lib.hid (rdErr_any rb S R wr HR.out)
    obtain ⟨fu, rfl⟩ : ∃ k, fu = k + 1 := ⟨fu - 1, by omega⟩
    by_cases he : R.e = 0
    · by_cases hlt : bl.length < size
      · obtain ⟨hf2, hs20⟩ := HI.out he
        have He := Lib.hid he
        have HE1 := Lib.hid ((looseGo_succ fu size bl R).symm.trans HE.out)
        clear HE
        have HN := Lib.hid (rdNum_any rb S R wr HR.out hS)
        have hnl := R.num_lt
        have Hlen := Lib.hid R.num_len
        obtain ⟨rn, hrn⟩ : ∃ rn, rn = R.num := ⟨_, rfl⟩
        have Her := Lib.hid R.num_err
        rw [← hrn] at HN HE1 hnl Hlen Her
        obtain ⟨n, R1⟩ := rn
        simp only at hnl
        have h0 : (R.e == 0) = true := by rw [he]; rfl
        clear he hrn
        go_wp2_with fail
        refine HEr.out.mono ?_
        rintro e w3 ⟨rfl, rfl⟩
        go_wp2_with fail
        refine HN.out.mono ?_
        rintro e w3 ⟨rfl, hR3, hT3⟩
        have HR3 := Lib.hid hR3
        have HO3 := Lib.hid (own_rd HO.out HR.out hT3)
        have HB3 := Lib.hid (HB.out.trans (hT3.below HB.out.size (fun k hk e => by omega)))
        clear hR3 hT3 HN HO HR HB HEr
        have HE2 := Lib.hid (show (if n % 2 = 0 then
          if n = 0 ∨ size - bl.length < n / 2 then ([], wrongE R1)
          else looseGo fu size (bl ++ (R1.raw (n / 2)).1) (R1.raw (n / 2)).2
        else
          if R1.num.2.e = 0 then
            if bl.length < R1.num.1 + 1 ∨ 4096 < R1.num.1 + 1 ∨ 255 < n / 2 ∨ size - bl.length < n / 2 + 4 then ([], 5)
            else looseGo fu size (copied bl (R1.num.1 + 1) (n / 2 + 4)) R1.num.2
          else looseGo fu size bl R1.num.2) = loose S by have h := HE1.out; rw [if_pos ⟨He.out, hlt⟩] at h; exact h)
        clear HE1
        obtain ⟨h2, hh2⟩ : ∃ h2, h2 = n / 2 := ⟨_, rfl⟩
        rw [← hh2] at HE2
        have Hh2 := Lib.hid hh2
        have hn2 : n = 2 * h2 ∨ n = 2 * h2 + 1 := by omega
        by_cases hev : n % 2 = 0
        · have hb : bits .and .i64 (n : Int) 1 = 0 := by rw [and_one n hnl, hev]; rfl
          by_cases hbad : n = 0 ∨ size - bl.length < h2
          · have HE3 := Lib.hid (show loose S = ([], wrongE R1) by have h := HE2.out; rw [if_pos hev, if_pos hbad] at h; exact h.symm)
            have HW := Lib.hid (wrong_any rb S R1 w3 HR3.out)
            have Hbad := Lib.hid hbad
            clear HE2 hbad hev hh2 hn2
            go_wp2_with fail
            all_goals first
              | (refine HW.out.mono ?_
                 rintro e w4 ⟨rfl, rfl⟩
                 go_wp2_with fail
                 go_ret2
                 rw [HE3.out]
                 exact ⟨rfl, HB3.out⟩)
              | (exfalso
                 have hbad := Hbad.out
                 have hh2 := Hh2.out
                 (try simp only [beq_eq_false_iff_ne, ne_eq] at *)
                 omega)
          · have HE3 := Lib.hid (show looseGo fu size (bl ++ (R1.raw h2).1) (R1.raw h2).2 = loose S by have h := HE2.out; rw [if_pos hev, if_neg hbad] at h; exact h)
            have hn0 : n ≠ 0 := fun h => hbad (Or.inl h)
            have hR1e : R1.e = 0 := by
              apply Classical.byContradiction
              intro h
              exact hn0 (Her.out h)
            have hl1 := Hlen.out hR1e
            have HW := Lib.hid (rdRaw_any rb S R1 (h2 : Int) w3 HR3.out hS)
            rw [Rr.rawI_nat] at HW
            have hrf := raw_facts R1 h2 hR1e
            obtain ⟨rw_, hrw⟩ : ∃ rw_, rw_ = R1.raw h2 := ⟨_, rfl⟩
            rw [← hrw] at HE3 HW hrf
            obtain ⟨t, R2⟩ := rw_
            obtain ⟨ht1, ht2⟩ := hrf
            simp only at ht1 ht2
            have hsb : h2 ≤ size - bl.length := by omega
            have h21 : 1 ≤ h2 := by omega
            have hd2 : ((n : Int) == 0) = false := by rw [beq_eq_false_iff_ne]; omega
            have hq : (n : Int) / 2 = (h2 : Int) := by omega
            have hd3 : ¬ ((size : Int) - (bl.length : Int) < (h2 : Int)) := by omega
            have Hx := Lib.hid (And.intro ht1 ht2)
            have Hy := Lib.hid (And.intro hl1 hsb)
            clear HE2 hbad hev hh2 hn2 hn0 hR1e hl1 hrw ht1 ht2
            go_wp2_with fail
            refine HW.out.mono ?_
            rintro e w4 ⟨rfl, hR4, hT4⟩
            have HR4 := Lib.hid hR4
            have HO4 := Lib.hid (own_rd HO3.out HR3.out hT4)
            have HB4 := Lib.hid (HB3.out.trans (hT4.below HB3.out.size (fun k hk e => by omega)))
            have hz4 := ba_size t
            have hb4s := HB4.out.size
            clear hR4 hT4 HW HO3 HR3 HB3
            go_wp2_with (at_builtin; refine Lib.wpList_append_own_string _ rfl _ _ 79 9 rfl w.heap.size 5 i0 Tryz.underlying79 Tryz.underlying9 HI0.out.1 HI0.out.2.1 HI0.out.2.2.1 HI0.out.2.2.2 _ _ _ rfl HO4.out (ba t) rfl ?c3 ?c4 ?c5 ?_)
            case c3 => unfold maxLen; have := Hx.out.1; omega
            case c4 => have := Hx.out.1; omega
            case c5 => omega
            intro v' w5 hown5 hg5 _
            rw [strCells_ba] at hown5
            have HO5 := Lib.hid (show w5.ownsRow w.heap.size 5 1 v' (bl ++ t).length (u8s (bl ++ t)) by
              rw [List.length_append, show u8s (bl ++ t) = u8s bl ++ u8s t by unfold u8s; rw [List.map_append]]; exact hown5)
            have HR5 := Lib.hid (HR4.out.keepU (KeepU.grown hg5 HO4.out))
            have HB5 := Lib.hid (HB4.out.trans ((Below.refl w.heap.size w4).grown hg5 hb4s (fun k hk => (HO4.out.lt k hk).1)))
            obtain ⟨ad5, cap5, rfl⟩ := row_shape HO5.out
            have hm5 := HR5.out.eAt
            have Hm5 := Lib.hid hm5
            clear hown5 hg5 HO4 HR4 HB4 hm5
            go_wp2_with fail
            go_roundw
            case rel =>
              refine ⟨bl ++ t, R2, fu, HO5, HR5, HB5, HE3, Lib.hid (fun h => ⟨?_, hs20⟩), ?_, ?_⟩
              · have := Hx.out.2 h; have := Hy.out; omega
              · omega
              · rw [List.length_append]; have := Hx.out.1; have := Hy.out; omega
            case measure =>
              rw [Hm5.out, Hm.out, if_pos He.out]
              show size - (bl ++ t).length + _ < size - bl.length + 1
              rw [List.length_append]
              by_cases h : R2.e = 0
              · rw [if_pos h]
                have := Hx.out.2 h
                omega
              · rw [if_neg h]; omega
        · have hb : bits .and .i64 (n : Int) 1 = 1 := by rw [and_one n hnl, show n % 2 = 1 by omega]; rfl
          have hR1e : R1.e = 0 := by
            apply Classical.byContradiction
            intro h
            have := Her.out h
            omega
          have hl1 := Hlen.out hR1e
          have HW := Lib.hid (rdNum_any rb S R1 w3 HR3.out hS)
          have hml := R1.num_lt
          have Hl2 := Lib.hid R1.num_len
          obtain ⟨rn, hrn⟩ : ∃ rn, rn = R1.num := ⟨_, rfl⟩
          have HE4 := Lib.hid (show (if R1.num.2.e = 0 then
              if bl.length < R1.num.1 + 1 ∨ 4096 < R1.num.1 + 1 ∨ 255 < h2 ∨ size - bl.length < h2 + 4 then ([], 5)
              else looseGo fu size (copied bl (R1.num.1 + 1) (h2 + 4)) R1.num.2
            else looseGo fu size bl R1.num.2) = loose S by have h := HE2.out; rw [if_neg hev] at h; exact h)
          rw [← hrn] at HW hml Hl2 HE4
          obtain ⟨m, R2⟩ := rn
          simp only at hml
          have hq : (n : Int) / 2 = (h2 : Int) := by omega
          obtain ⟨bk, hbk⟩ : ∃ bk, bk = m + 1 := ⟨_, rfl⟩
          obtain ⟨h4, hh4⟩ : ∃ h4, h4 = h2 + 4 := ⟨_, rfl⟩
          have hwb : IntKind.i64.wrap ((m : Int) + 1) = (bk : Int) := by rw [IntKind.wrap_i64]; omega
          have hw4 : IntKind.i64.wrap ((h2 : Int) + 4) = (h4 : Int) := by rw [IntKind.wrap_i64]; omega
          have HE5 := Lib.hid (show (if R2.e = 0 then
              if bl.length < bk ∨ 4096 < bk ∨ 255 < h2 ∨ size - bl.length < h4 then ([], 5)
              else looseGo fu size (copied bl bk h4) R2
            else looseGo fu size bl R2) = loose S by have h := HE4.out; rw [hbk, hh4]; exact h)
          have Hy := Lib.hid hl1
          have h41 : 4 ≤ h4 := by omega
          have hbk1 : 1 ≤ bk := by omega
          clear HE2 HE4 hev hh2 hn2 hR1e hl1 hrn hh4 hbk
          go_wp2_with fail
          refine HW.out.mono ?_
          rintro e w4 ⟨rfl, hR4, hT4⟩
          have HR4 := Lib.hid (show RdAt w4 rb S R2 from hR4)
          have HO4 := Lib.hid (own_rd HO3.out HR3.out hT4)
          have HB4 := Lib.hid (HB3.out.trans (hT4.below HB3.out.size (fun k hk e => by omega)))
          clear hR4 hT4 HW HO3 HR3 HB3
          have HEr := Lib.hid (rdErr_any rb S R2 w4 HR4.out)
          have Hl22 := Lib.hid (show R2.e = 0 → R2.l.length < R1.l.length from Hl2.out)
          clear Hl2
          by_cases he2 : R2.e = 0
          · have hl2 := Hl22.out he2
            have h02 : (R2.e == 0) = true := by rw [he2]; rfl
            by_cases hbad : bl.length < bk ∨ 4096 < bk ∨ 255 < h2 ∨ size - bl.length < h4
            · have HE6 := Lib.hid (show loose S = ([], 5) by have h := HE5.out; rw [if_pos he2, if_pos hbad] at h; exact h.symm)
              have Hbad := Lib.hid hbad
              clear HE5 hbad he2 hl2 Hy
              go_wp2_with fail
              refine HEr.out.mono ?_
              rintro e w5 ⟨rfl, rfl⟩
              go_wp2_with fail
              all_goals first
                | (go_ret2
                   rw [HE6.out]
                   exact ⟨rfl, HB4.out⟩)
                | (exfalso
                   have hbad := Hbad.out
                   omega)
            · have HE6 := Lib.hid (show looseGo fu size (copied bl bk h4) R2 = loose S by have h := HE5.out; rw [if_pos he2, if_neg hbad] at h; exact h)
              have k1 : bk ≤ bl.length := by omega
              have k2 : bk ≤ 4096 := by omega
              have k3 : h2 ≤ 255 := by omega
              have k4 : bl.length + h4 ≤ size := by omega
              have k4i : ¬ ((size : Int) - (bl.length : Int) < (h4 : Int)) := by omega
              have k2i : ¬ (4096 < (bk : Int)) := by omega
              have k3i : ¬ (255 < (h2 : Int)) := by omega
              have k1n : ¬ bl.length < bk := by omega
              have HCp := Lib.hid (copied_any (.slice ad bl.length cap) bl bk h4 w.heap.size w4 HO4.out hbk1 k1 (by omega) HB4.out.size)
              have Hyy := Lib.hid (And.intro Hy.out hl2)
              clear HE5 hbad he2 hl2 Hy
              go_wp2_with fail
              refine HEr.out.mono ?_
              rintro e w5 ⟨rfl, rfl⟩
              go_wp2_with fail
              refine HEr.out.mono ?_
              rintro e w5 ⟨rfl, rfl⟩
              go_wp2_with fail
              refine HCp.out.mono ?_
              rintro e w5 ⟨v', rfl, hO5, hB5, hK5⟩
              have HO5 := Lib.hid hO5
              have HR5 := Lib.hid (HR4.out.keepU hK5)
              have HB5 := Lib.hid (HB4.out.trans hB5)
              have hcl5 := copied_length h4 bl bk
              obtain ⟨ad5, cap5, rfl⟩ := row_shape HO5.out
              have Hm5 := Lib.hid HR5.out.eAt
              have Hc5 := Lib.hid hcl5
              clear hO5 hB5 hK5 HCp HO4 HR4 HB4 hcl5
              go_wp2_with fail
              go_roundw
              case rel =>
                refine ⟨copied bl bk h4, R2, fu, HO5, HR5, HB5, HE6, Lib.hid (fun h => ⟨?_, hs20⟩), ?_, ?_⟩
                · have := Hyy.out; omega
                · omega
                · rw [Hc5.out]; exact k4
              case measure =>
                rw [Hm5.out, Hm.out, if_pos He.out]
                show size - (copied bl bk h4).length + _ < size - bl.length + 1
                rw [Hc5.out]
                by_cases h : R2.e = 0
                · rw [if_pos h]; omega
                · rw [if_neg h]; omega
          · have h02 : (R2.e == 0) = false := beq_eq_false_iff_ne.2 he2
            have HE6 := Lib.hid (show looseGo fu size bl R2 = loose S by have h := HE5.out; rw [if_neg he2] at h; exact h)
            have He2 := Lib.hid he2
            have Hm5 := Lib.hid HR4.out.eAt
            clear HE5 he2
            go_wp2_with fail
            refine HEr.out.mono ?_
            rintro e w5 ⟨rfl, rfl⟩
            go_wp2_with fail
            refine HEr.out.mono ?_
            rintro e w5 ⟨rfl, rfl⟩
            go_wp2_with fail
            go_roundw
            case rel => exact ⟨bl, R2, fu, HO4, HR4, HB4, HE6, Lib.hid (fun h => absurd h He2.out), by have := Hy.out; omega, hbl⟩
            case measure =>
              rw [Hm5.out, Hm.out, if_pos He.out, if_neg He2.out]
              show size - bl.length + 0 < size - bl.length + 1
              omega
      · have HE1 := Lib.hid (show (if R.fin.e = 0 then (bl, 0) else ([], R.fin.e)) = loose S by
          have h := (looseGo_succ fu size bl R).symm.trans HE.out
          rw [if_neg (fun h => hlt h.2)] at h
          exact h)
        have h0 : (R.e == 0) = true := by rw [he]; rfl
        clear he HE
        have HX := Lib.hid (rdEnd_any rb S R wr HR.out hS)
        go_wp2_with fail
        refine HEr.out.mono ?_
        rintro e w3 ⟨rfl, rfl⟩
        go_wp2_with fail
        refine HX.out.mono ?_
        rintro e w4 ⟨rfl, hR4, hT4⟩
        have HB4 := Lib.hid (HB.out.trans (hT4.below HB.out.size (fun k hk e => by omega)))
        have HO4 := Lib.hid (own_rd HO.out HR.out hT4)
        clear hR4 hT4 HX HO HR HB HEr
        by_cases hf : R.fin.e = 0
        · have hf0 : (R.fin.e != 0) = false := by rw [hf]; rfl
          have HE6 := Lib.hid (show loose S = (bl, 0) by rw [← HE1.out, if_pos hf])
          have hcv : (convert 79 9 (.slice ad bl.length cap)).run Tryz.prog w4 = .ok (.string (ba bl)) w4 := conv_any HO4.out
          clear hf
          go_wp2_with fail
          go_ret2
          rw [HE6.out]
          exact ⟨rfl, HB4.out⟩
        · have hf0 : (R.fin.e != 0) = true := by rw [bne_iff_ne]; exact hf
          have HE6 := Lib.hid (show loose S = ([], R.fin.e) by rw [← HE1.out, if_neg hf])
          clear hf
          go_wp2_with fail
          go_ret2
          rw [HE6.out]
          exact ⟨rfl, HB4.out⟩
    · have HE1 := Lib.hid (show (if R.fin.e = 0 then (bl, 0) else ([], R.fin.e)) = loose S by
        have h := (looseGo_succ fu size bl R).symm.trans HE.out
        rw [if_neg (fun h => he h.1)] at h
        exact h)
      have h0 : (R.e == 0) = false := beq_eq_false_iff_ne.2 he
      clear he HE
      have HX := Lib.hid (rdEnd_any rb S R wr HR.out hS)
      go_wp2_with fail
      refine HEr.out.mono ?_
      rintro e w3 ⟨rfl, rfl⟩
      go_wp2_with fail
      refine HX.out.mono ?_
      rintro e w4 ⟨rfl, hR4, hT4⟩
      have HB4 := Lib.hid (HB.out.trans (hT4.below HB.out.size (fun k hk e => by omega)))
      have HO4 := Lib.hid (own_rd HO.out HR.out hT4)
      clear hR4 hT4 HX HO HR HB HEr
      by_cases hf : R.fin.e = 0
      · have hf0 : (R.fin.e != 0) = false := by rw [hf]; rfl
        have HE6 := Lib.hid (show loose S = (bl, 0) by rw [← HE1.out, if_pos hf])
        have hcv : (convert 79 9 (.slice ad bl.length cap)).run Tryz.prog w4 = .ok (.string (ba bl)) w4 := conv_any HO4.out
        clear hf
        go_wp2_with fail
        go_ret2
        rw [HE6.out]
        exact ⟨rfl, HB4.out⟩
      · have hf0 : (R.fin.e != 0) = true := by rw [bne_iff_ne]; exact hf
        have HE6 := Lib.hid (show loose S = ([], R.fin.e) by rw [← HE1.out, if_neg hf])
        clear hf
        go_wp2_with fail
        go_ret2
        rw [HE6.out]
        exact ⟨rfl, HB4.out⟩
end Go.Proofs.YtogobhpnlndcaaaGreat
namespace Go.Proofs.YtogobhpnlndcaaaGreat
open Go Go.RowKit
set_option linter.unusedVariables false

theorem ba_list (l : List UInt8) : (ba l).toList = l := by
  rw [ByteArray.toList_eq]
  simp [ba]
set_option maxRecDepth 100000 in
set_option maxHeartbeats 2000000 in
theorem openW_any (S : List UInt8) (w : World) (hS : S.length ≤ 1099511627776) :
    Calls Tryz.prog 9 #[.string (ba S)] w fun e w' => e = .returned (.tuple #[.string (ba (openL S).1), .int .i64 (openL S).2]) ∧ Below w.heap.size w w' := by
  have hsz := ba_size S
  match S, hsz, hS with
  | [], hsz, hS =>
    have he : (ba []) = (⟨#[]⟩ : ByteArray) := rfl
    go_enter Tryz.func9, Tryz.ntmps9
    go_wp2_with fail
    go_ret2
    exact ⟨rfl, Below.refl _ _⟩
  | c :: r, hsz, hS =>
    have hc : (ba (c :: r))[0]'(by rw [hsz]; simp) = c := rfl
    have hl : 0 < (c :: r).length := by simp
    have hemp : (ba (c :: r)).toList.isEmpty = false := by rw [ba_list]; rfl
    have hex : (ba (c :: r)).extract 1 (r.length + 1) = ba r := by
      rw [ba_slice]
      congr 1
      simp
    have Hex := Lib.hid hex
    clear hex
    by_cases h82 : c = 82
    · have HO := Lib.hid (show openL (c :: r) = (r, 0) by show (if c = 82 then (r, (0 : Int)) else _) = _; rw [if_pos h82])
      have e1 : (((c.toNat : Nat) : Int) == 82) = true := by rw [h82]; rfl
      clear h82
      go_enter Tryz.func9, Tryz.ntmps9
      go_wp2_with fail
      go_ret2
      rw [HO.out]
      refine ⟨?_, Below.refl _ _⟩
      show Ending.returned (.tuple #[.string ((ba (c :: r)).extract 1 (r.length + 1)), .int .i64 0]) = _
      rw [Hex.out]
    · have n1 : c.toNat ≠ 82 := fun h => h82 (UInt8.toNat_inj.1 h)
      have e1 : (((c.toNat : Nat) : Int) == 82) = false := by rw [beq_eq_false_iff_ne]; omega
      by_cases h90 : c = 90
      · have HO := Lib.hid (show openL (c :: r) = loose r by show (if c = 82 then (r, (0 : Int)) else if c = 90 then loose r else _) = _; rw [if_neg h82, if_pos h90])
        have e2 : (((c.toNat : Nat) : Int) == 90) = true := by rw [h90]; rfl
        have HL := Lib.hid (loose_any r w (by simp at hS; omega))
        clear h82 h90 n1
        go_enter Tryz.func9, Tryz.ntmps9
        go_wp2_with fail
        rw [Hex.out]
        refine HL.out.mono ?_
        rintro e w1 ⟨rfl, hb⟩
        have HB := Lib.hid hb
        clear hb
        go_wp2_with fail
        go_ret2
        rw [HO.out]
        exact ⟨rfl, HB.out⟩
      · have n2 : c.toNat ≠ 90 := fun h => h90 (UInt8.toNat_inj.1 h)
        have e2 : (((c.toNat : Nat) : Int) == 90) = false := by rw [beq_eq_false_iff_ne]; omega
        have HO := Lib.hid (show openL (c :: r) = ([], 5) by show (if c = 82 then (r, (0 : Int)) else if c = 90 then loose r else ([], (5 : Int))) = _; rw [if_neg h82, if_neg h90])
        clear h82 h90 n1 n2
        go_enter Tryz.func9, Tryz.ntmps9
        go_wp2_with fail
        go_ret2
        rw [HO.out]
        exact ⟨rfl, Below.refl _ _⟩
end Go.Proofs.YtogobhpnlndcaaaGreat
