/- (*delta.maker).end: what is left of the text, of which the l -/
import Derived.Test.YtaemlplcjjbamaaGreatDoorBTail
namespace Go.Proofs.YtaemlplcjjbamaaGreatDoor
open Go.Lib (hid)
set_option maxRecDepth 100000
set_option maxHeartbeats 8000000
open Go Go.RowKit
set_option linter.unusedVariables false
variable {B0 Bk : List ByteArray} {O out t t' : List UInt8} {bl i mb n q : Nat} {sv tv tv' : Value} {w w' w4 : World}
structure MkCtx (lo hi q kb mb : Nat) (B0 : List ByteArray) (O : List UInt8) (bl : Nat) : Prop where
 lt : mb < lo ∧ kb < lo ∧ kb ≠ mb ∧ hi ≤ q ∧ lo ≤ q
 size : 16 ≤ bl ∧ bl ≤ 1024
 len : O.length ≤ 524288
 book : B0.length ≤ 800000000
 mem : ∀ i, i < npc O.length bl → pcB O bl i ∈ B0
theorem Mk.chunks {l cs : List Stp} (h : Mk O l out) (hc : zCh t cs) : Mk O (l ++ cs) (out ++ t) := h.add hc
theorem Mk.bounds {l : List Stp} (h : Mk O l out) (hO : O.length ≤ 524288) : (∀ x ∈ l, 0 ≤ x.len ∧ x.len ≤ 1048576 ∧ 0 ≤ x.at_ ∧ x.at_ ≤ 1048576) ∧ l.length ≤ out.length := by
 refine ⟨fun x hx => ?_, by rw [← h.out]; exact zCb l h.ok⟩
 rcases h.ok x hx with ⟨_, h2, h3, _⟩ | ⟨_, h2, h3, h4, h5, h6⟩ <;> omega
theorem zHr (O : List UInt8) (h : i < O.length / bl) : pcB O bl i = ba ((O.drop (i * bl)).take bl) ∧ i * bl + bl ≤ O.length := by
 have h1 : (i + 1) * bl ≤ O.length := by
  rw [← Nat.le_div_iff_mul_le (by rcases Nat.eq_zero_or_pos bl with h0 | h0; (subst h0; simp at h); exact h0)]
  omega
 rw [Nat.add_mul] at h1
 unfold pcB
 rw [Nat.add_mul, Nat.min_eq_left (by omega), zBl, show i * bl + 1 * bl - i * bl = bl by omega]
 exact ⟨rfl, by omega⟩
theorem pcB_last (O : List UInt8) (hb : 0 < bl) (hn : n = O.length % bl) (h0 : 0 < n) : npc O.length bl = O.length / bl + 1 ∧ pcB O bl (O.length / bl) = ba ((O.drop (O.length - n)).take n) := by
 have h1 := Nat.div_add_mod O.length bl
 have h2 := Nat.mod_lt O.length hb
 rw [← hn] at h1 h2
 generalize O.length / bl = d at h1
 have h3 : npc O.length bl = d + 1 := by
  unfold npc
  rw [← h1, show bl * d + n + bl - 1 = (n + bl - 1) + bl * d by omega, Nat.add_mul_div_left _ _ hb, show (n + bl - 1) / bl = 1 from Nat.div_eq_of_lt_le (by omega) (by omega)]
  omega
 refine ⟨h3, ?_⟩
 unfold pcB
 have h4 : d * bl = O.length - n := by rw [Nat.mul_comm]; omega
 rw [Nat.add_mul, h4, Nat.min_eq_right (by omega), zBl, show O.length - (O.length - n) = n by omega]
theorem ba_inj {a b : List UInt8} (h : ba a = ba b) : a = b := by
 have := congrArg (fun s => s.data.toList) h
 simpa [ba] using this
theorem zFL {p s : ByteArray} (hX : Ext B0 Bk) (hp : p ∈ B0) (hB : Bk.length ≤ 900000000) (h : zAt (seen Bk s) s = zAt B0 p) : s = p := by
 have h1 : p ∈ seen Bk s := ((Ext.seen Bk s) p (hX p hp).1).1
 have h2 : zAt (seen Bk s) p = zAt B0 p := ((hX.trans (Ext.seen Bk s))).mark hp
 exact mark_inj (zCN Bk s) h1 (by have := zAM Bk s; omega) (h.trans h2.symm)
theorem MkAt.set_app {l : List Stp} (hB : Blk w q [sv, tv] 246) (hs : w.ownsRow q 221 3 sv l.length (stpsV l)) (htx : TxAt w q tv t)
  (hown : TxAt w4 q tv' t') (ht4 : Touch (fun j => tv.ownBlock = some j) w w4) :
  MkAt q l t' (w4.setCell ⟨q, 1, none⟩ tv') ∧ Below q w (w4.setCell ⟨q, 1, none⟩ tv') ∧ KeepM w (w4.setCell ⟨q, 1, none⟩ tv') := by
 have hr : tv.ownBlock ≠ some q := htx.ne hB (by decide)
 have hB4 : Blk w4 q [sv, tv] 246 := hB.touch ht4 hr
 have ht : Touch (fun j => tv.ownBlock = some j ∨ j = q) w (w4.setCell ⟨q, 1, none⟩ tv') := Touch.set (S := fun j => tv.ownBlock = some j ∨ j = q) (p := ⟨q, 1, none⟩) (ht4.mono (fun k _ h => Or.inl h)) (Or.inl (Or.inr rfl)) tv'
 have hS : ∀ k cs T, T ≠ 5 → T ≠ 221 → T ≠ 246 → Blk w k cs T → ¬ (tv.ownBlock = some k ∨ k = q) := fun k cs T h1 h2 h3 h4 e => e.elim (fun e => htx.ne h4 (Ne.symm h1) e) (fun e => hB.ne h4 (Ne.symm h3) e.symm)
 refine ⟨⟨sv, tv', hB4.set 1 tv', zAj hs ht (fun g hg' e => e.elim (fun e => htx.ne_row hs (by decide) e hg') (fun e => zAp hs hB (by decide) (by rw [hg', e]))), hown.touch (zAA (Touch.refl (fun k => k = q) w4) (o := 1) tv') (fun g hg' e => hown.ne hB4 (by decide) (by rw [hg', e]))⟩, ?_, KeepM.of_touch ht hS⟩
 exact ht.below (Nat.le_of_lt hB.lt) (fun k hk e => e.elim (fun e => Nat.not_lt.2 (htx.lt k e).1 hk) (fun e => by omega))
theorem src_ba (w : World) (R : List UInt8) : Src Tryz.prog 1 9 (.string (ba R)) R.length (u8s R) w := by
 have := Src.ofString (P := Tryz.prog) w (tx := 9) Tryz.underlying9 (ba R)
 rw [zAl] at this
 exact this
theorem Touch.of_q (h : Below q w w') : Touch (fun j => j = mb ∨ q ≤ j) w w' := ⟨h.os, h.tape, h.output, h.size, fun k hk hn => h.block k (Nat.lt_of_not_le (fun e => hn (Or.inr e)))⟩
def zGd (q kb mb : Nat) (Bk : List ByteArray) (O all : List UInt8) (w : World) (e : Ending) (w' : World) : Prop := e = .returned (.tuple #[]) ∧ ∃ l' B', MkAt q l' [] w' ∧ Mk O l' all ∧ zAo w' kb mb B' ∧ Ext Bk B' ∧ B'.length ≤ Bk.length + 1 ∧ Touch (fun j => j = mb ∨ q ≤ j) w w'
theorem end_any (lo hi tq q kb mb : Nat) (B0 Bk : List ByteArray) (O R : List UInt8) (bl : Nat) (l : List Stp) (t out : List UInt8) (w : World) (hc : MkCtx lo hi q kb mb B0 O bl) (hM : MkAt q l t w) (hmk : Mk O l out) (hT : TabOk lo hi tq B0 O bl w) (hK : zAo w kb mb Bk) (hX : Ext B0 Bk) (hBk : Bk.length ≤ 900000000) (hlen : out.length + t.length + R.length ≤ 524288) (al : List UInt8) (hal : al = out ++ t ++ R) :
  Calls Tryz.prog 182 #[.pointer (some ⟨q, 0, none⟩), .pointer (some ⟨kb, 0, none⟩), .pointer (some ⟨tq, 0, none⟩), .string (ba R)] w (zGd q kb mb Bk O al w) := by
 have HA := hid hal
 clear hal
 have HC := hid hc
 have HM := hid hM
 have Hmk := hid hmk
 have HT := hid hT
 have HK := hid hK
 have HX := hid hX
 obtain ⟨hb1, hb2⟩ := hc.size
 have hOl := hc.len
 have hRz := zAl R
 obtain ⟨gt, gb, gw, gs, tf, bf, cW, p, r1, r2, r3, r4, r5, r6, r7, r8⟩ := hT.ex
 have HR2 := hid r2
 have HR6 := hid r6
 have HR8 := hid r8
 have HSz := hid (fun w' (c : w'.cell? ⟨tq, 1, none⟩ = some (.int .i64 (O.length : Int))) => zIY tq O.length w' c)
 have HBl := hid (zEj tq bl gs _ _ w r2)
 have R3 := hid r3
 have R4 := hid r4
 have R5 := hid r5
 clear hc hM hmk hT hK hX r1 r2 r3 r4 r5 r6 r7 r8
 obtain ⟨n, hn⟩ : ∃ n, n = O.length % bl := ⟨_, rfl⟩
 have hrem : (O.length : Int).tmod (bl : Int) = (n : Int) := by rw [hn]; rfl
 have hb0 : ((bl : Int) == 0) = false := by rw [beq_eq_false_iff_ne]; omega
 have hnl : n < bl := by rw [hn]; exact Nat.mod_lt _ (by omega)
 have hnO : n ≤ O.length := by rw [hn]; exact Nat.mod_le _ _
 have Hn := hid hn
 clear hn
 go_enter Tryz.func182, Tryz.ntmps182
 go_wp2_with fail
 refine (HSz.out _ R3.out).mono ?_
 rintro e w1 ⟨rfl, rfl⟩
 go_wp2_with fail
 refine HBl.out.mono ?_
 clear HBl
 rintro e w1 ⟨rfl, rfl⟩
 have HM0 := HM
 have HK0 := HK
 have HX0 := hid (Ext.refl Bk)
 have HL0 := hid (Nat.le_succ Bk.length)
 have HTo0 := hid (Touch.refl (fun j => j = mb ∨ q ≤ j) w1)
 by_cases hRn : n ≤ R.length
 ·obtain ⟨d, hd⟩ : ∃ d, d = R.length - n := ⟨_, rfl⟩
  have hdi : (R.length : Int) - (n : Int) = (d : Int) := by omega
  have Hd := hid hd
  have hdl : d ≤ R.length := by omega
  clear hd
  go_wp2_with fail
  obtain ⟨X, hX⟩ : ∃ X, X = R.drop d := ⟨_, rfl⟩
  have hex : (ba R).extract d R.length = ba X := by rw [zBl, hX, List.take_of_length_le (by rw [List.length_drop]; omega)]
  have hXl : X.length = n := by rw [hX, List.length_drop]; have := Hd.out; omega
  have hRX : R = R.take d ++ X := by rw [hX]; exact (List.take_append_drop d R).symm
  have HRX := hid hRX
  rw [hex]
  have h8 := HR8.out
  have hlt := HC.out.lt
  have hTl := tail_any tq O.length bl n (npc O.length bl - 1) gw gs (npc O.length bl) kb mb p cW _ _ Bk (ba X) w1 HR2.out R3.out R4.out R5.out HR6.out Hn.out (fun h => by rw [(pcB_last O (by omega) Hn.out h).1, Nat.add_sub_cancel]) (by omega) (by omega) (by omega) HK.out (by have := zFK (size := O.length) (bl := bl) (by omega); omega) (by rw [zAl]; omega) (by omega) hlt.2.2.1 (by have := h8 tq (by simp); omega) (by have := h8 gs (by simp); omega) (by have := h8 gw (by simp); omega)
  refine hTl.mono ?_
  clear hTl h8 hX hRX hlt
  rintro e w2 ⟨r, rfl, hT2, hr⟩
  have HTo2 := hid (hT2.mono (S' := fun j => j = mb ∨ q ≤ j) (fun k _ h => Or.inl h))
  have HM2 := hid (HM.out.touch hT2 (fun k hk => by have := HC.out.lt; have := (HR8.out tq (by simp)); omega))
  have HT2 := hid (HT.out.touch hT2 (fun k hk => Or.inl (by have := HC.out.lt; omega)))
  obtain ⟨B2, hK2, hX2, hL2, hr2⟩ : ∃ B2, zAo w2 kb mb B2 ∧ Ext Bk B2 ∧ B2.length ≤ Bk.length + 1 ∧ (r = true → 0 < n ∧ (O.drop (O.length - n)).take n = X) := by
   rcases hr with ⟨rfl, hk⟩ | ⟨h0, _, hk, rfl⟩
   ·exact ⟨Bk, hk, Ext.refl _, Nat.le_succ _, fun h => by cases h⟩
   ·refine ⟨_, hk, Ext.seen _ _, zAM _ _, fun h => ⟨h0, ?_⟩⟩
    have h1 := of_decide_eq_true h
    obtain ⟨h2, h3⟩ := pcB_last O (show 0 < bl by omega) Hn.out h0
    rw [h2, Nat.add_sub_cancel] at h1
    have h4 := zFL HX.out (HC.out.mem _ (by omega)) hBk h1
    rw [h3] at h4
    exact (ba_inj h4).symm
  have HK2 := hid hK2
  have HX2 := hid hX2
  have HL2 := hid hL2
  clear hr hK2 hX2 hL2 hT2
  cases r with
  | false =>
   clear hr2
   obtain ⟨sv, tv, hb, hs, htx⟩ := HM2.out.ex
   have HB_ := hid hb
   have HS_ := hid hs
   have HTx := hid htx
   obtain ⟨ta, tc, rfl, _⟩ := htx.shape
   have k1 := hb.cell 1
   have hql := hb.lt
   simp only [List.getElem?_cons_zero, List.getElem?_cons_succ] at k1
   have hbd := hid (Hmk.out.bounds hOl)
   clear hb hs htx
   go_wp2_with (at_builtin; refine zCz rfl _ _ 9 rfl q _ t R rfl HTx.out (src_ba _ R) (by omega) (by omega) ?_)
   intro ad cap w4 h4 hg4 hd4
   have ht4 : Touch (fun j => (Value.slice ta t.length tc).ownBlock = some j) w2 w4 := zAm (Touch.refl _ _) hg4 (fun g hg => Or.inl hg)
   have hB4 := HB_.out.touch ht4 (HTx.out.ne HB_.out (by decide))
   have HR := hid (MkAt.set_app HB_.out HS_.out HTx.out h4 ht4)
   have k4 := hB4.cell 1
   have f4 := hB4.free 1
   simp only [List.getElem?_cons_zero, List.getElem?_cons_succ] at k4
   clear h4 hg4 hd4 ht4 hB4 k1
   go_wp2_with fail
   generalize w4.setCell ⟨q, 1, none⟩ (.slice ad (t.length + R.length) cap) = w5 at HR ⊢
   refine (zEW q l (t ++ R) w5 HR.out.1 (by have := hbd.out.2; omega) (by rw [List.length_append]; omega)).mono ?_
   rintro e w6 ⟨rfl, cs, hC, hN, hM6, hB6, hK6⟩
   have H6 := hid (show zGd q kb mb Bk O al w1 (.returned (.tuple #[])) w6 from by
    refine ⟨rfl, l ++ cs, B2, hM6, ?_, ?_, ?_, ?_, ?_⟩
    ·rw [HA.out, List.append_assoc]
     exact Hmk.out.chunks hC
    ·exact HK2.out.touch (Touch.of_q (mb := q) (HR.out.2.1.trans hB6)) (fun e => by have := HC.out.lt; omega) (fun e => by have := HC.out.lt; omega)
    ·exact HX2.out
    ·have := HL2.out; omega
    ·exact HTo2.out.trans (Touch.of_q (HR.out.2.1.trans hB6)))
   clear hC hN hM6 hB6 hK6
   go_wp2_with fail
   go_end0
   exact H6.out
  | true =>
   obtain ⟨h0, hXe⟩ := hr2 rfl
   have HXe := hid hXe
   clear hr2 hXe
   obtain ⟨Y, hY⟩ : ∃ Y, Y = R.take d := ⟨_, rfl⟩
   have hYl : Y.length = d := by rw [hY, List.length_take]; omega
   have hex0 : (ba R).extract 0 d = ba Y := by rw [zBl, hY]; rfl
   have HSrc := hid (fun w' => show Src Tryz.prog 1 9 (.string ((ba R).extract 0 d)) Y.length (u8s Y) w' from hex0 ▸ src_ba w' Y)
   have HYX := hid (show R = Y ++ X by rw [hY]; exact HRX.out)
   obtain ⟨a, ha⟩ : ∃ a, a = O.length - n := ⟨_, rfl⟩
   have hai : (O.length : Int) - (n : Int) = (a : Int) := by omega
   have HAn := hid ha
   have hal2 : a + n ≤ O.length := by omega
   have R32 := hid (show w2.cell? ⟨tq, 1, none⟩ = some (.int .i64 (O.length : Int)) by
    obtain ⟨gt, gb, gw, gs, tf, bf, cW, p, _, _, r3, _⟩ := HT2.out.ex
    exact r3)
   clear hY ha hex0
   obtain ⟨sv, tv, hb, hs, htx⟩ := HM2.out.ex
   have HB_ := hid hb
   have HS_ := hid hs
   have HTx := hid htx
   obtain ⟨ta, tc, rfl, _⟩ := htx.shape
   have k1 := hb.cell 1
   have f1 := hb.free 1
   have hql := hb.lt
   simp only [List.getElem?_cons_zero, List.getElem?_cons_succ] at k1
   have hbd := hid (Hmk.out.bounds hOl)
   clear hb hs htx
   have hwd : IntKind.i64.wrap (d : Int) = (d : Int) := by rw [IntKind.wrap_i64]; omega
   go_upto_region 2 with fail
   go_region_law (first
    | (refine zCV rfl _ _ 9 rfl q _ t Y rfl (HTx.out.below (Below.refl _ w2).drew) (HSrc.out _) (by omega) (by first | omega | (simp; omega)) ?_; intro ad cap w4 h4 hg4 hd4; have hc4 := hg4.cell_far ⟨q, 1, none⟩ (by simp; omega) (Ne.symm (HTx.out.ne HB_.out (by decide))); have hf4 := hg4.frozen_far ⟨q, 1, none⟩ (by simp; omega) (Ne.symm (HTx.out.ne HB_.out (by decide)))))
   all_goals
    have ht4 : Touch (fun j => (Value.slice ta t.length tc).ownBlock = some j) w2 w4 := zAm ((Touch.refl _ _).drew) hg4 (fun g hg => Or.inl hg)
    have HR := hid (MkAt.set_app HB_.out HS_.out HTx.out h4 ht4)
    clear h4 hg4 hd4 ht4 k1 f1 hc4 hf4
    rw [hYl] at HR
    generalize w4.setCell ⟨q, 1, none⟩ (.slice ad (t.length + d) cap) = w5 at HR ⊢
    have R35 := hid (show w5.cell? ⟨tq, 1, none⟩ = some (.int .i64 (O.length : Int)) by
     rw [← R32.out]
     have h9 := HR8.out tq (by simp)
     have h10 := HC.out.lt
     exact World.cell?_of_block (w := w2) (HR.out.2.1.block tq (by omega)))
    go_wp2_with fail
    refine (HSz.out _ R35.out).mono ?_
    rintro e w6 ⟨rfl, rfl⟩
    go_wp2_with fail
    refine (copy_any q l (t ++ Y) a n w6 HR.out.1 (by have := hbd.out.2; omega) (by rw [List.length_append]; omega) (by omega) (by omega) hbd.out.1).mono ?_
    rintro e w7 ⟨rfl, cs, hC, hN, hM6, hB6, hK6⟩
    have H6 := hid (show zGd q kb mb Bk O al w1 (.returned (.tuple #[])) w7 from by
     refine ⟨rfl, _, B2, hM6, ?_, ?_, ?_, ?_, ?_⟩
     ·have h11 := (Hmk.out.chunks hC).copy h0 hal2 (by omega)
      rw [HAn.out, HXe.out] at h11
      rw [HA.out, HYX.out, HAn.out]
      have e1 : out ++ t ++ (Y ++ X) = out ++ (t ++ Y) ++ X := by simp
      rw [e1]
      exact h11
     ·exact HK2.out.touch (Touch.of_q (mb := q) (HR.out.2.1.trans hB6)) (fun e => by have := HC.out.lt; omega) (fun e => by have := HC.out.lt; omega)
     ·exact HX2.out
     ·have := HL2.out; omega
     ·exact HTo2.out.trans (Touch.of_q (HR.out.2.1.trans hB6)))
    clear hC hN hM6 hB6 hK6
    go_wp2_with fail
    refine bodyPost_ret (results_none rfl _ _ _) rfl ?_
    exact H6.out
 ·skip
  obtain ⟨sv, tv, hb, hs, htx⟩ := HM0.out.ex
  have HB_ := hid hb
  have HS_ := hid hs
  have HTx := hid htx
  obtain ⟨ta, tc, rfl, _⟩ := htx.shape
  have k1 := hb.cell 1
  have hql := hb.lt
  simp only [List.getElem?_cons_zero, List.getElem?_cons_succ] at k1
  have hbd := hid (Hmk.out.bounds hOl)
  clear hb hs htx
  go_wp2_with (at_builtin; refine zCz rfl _ _ 9 rfl q _ t R rfl HTx.out (src_ba _ R) (by omega) (by omega) ?_)
  intro ad cap w4 h4 hg4 hd4
  have ht4 : Touch (fun j => (Value.slice ta t.length tc).ownBlock = some j) w1 w4 := zAm (Touch.refl _ _) hg4 (fun g hg => Or.inl hg)
  have hB4 := HB_.out.touch ht4 (HTx.out.ne HB_.out (by decide))
  have HR := hid (MkAt.set_app HB_.out HS_.out HTx.out h4 ht4)
  have k4 := hB4.cell 1
  have f4 := hB4.free 1
  simp only [List.getElem?_cons_zero, List.getElem?_cons_succ] at k4
  clear h4 hg4 hd4 ht4 hB4 k1
  go_wp2_with fail
  generalize w4.setCell ⟨q, 1, none⟩ (.slice ad (t.length + R.length) cap) = w5 at HR ⊢
  refine (zEW q l (t ++ R) w5 HR.out.1 (by have := hbd.out.2; omega) (by rw [List.length_append]; omega)).mono ?_
  rintro e w6 ⟨rfl, cs, hC, hN, hM6, hB6, hK6⟩
  have H6 := hid (show zGd q kb mb Bk O al w1 (.returned (.tuple #[])) w6 from by
   refine ⟨rfl, l ++ cs, Bk, hM6, ?_, ?_, ?_, ?_, ?_⟩
   ·rw [HA.out, List.append_assoc]
    exact Hmk.out.chunks hC
   ·exact HK0.out.touch (Touch.of_q (mb := q) (HR.out.2.1.trans hB6)) (fun e => by have := HC.out.lt; omega) (fun e => by have := HC.out.lt; omega)
   ·exact HX0.out
   ·have := HL0.out; omega
   ·exact HTo0.out.trans (Touch.of_q (HR.out.2.1.trans hB6)))
  clear hC hN hM6 hB6 hK6
  go_wp2_with fail
  go_end0
  exact H6.out
end Go.Proofs.YtaemlplcjjbamaaGreatDoor
set_option maxRecDepth 100000
set_option maxHeartbeats 8000000
namespace Go.Proofs.YtaemlplcjjbamaaGreatDoor
open Go.Lib (hid)
open Go Go.RowKit
set_option linter.unusedVariables false
theorem zIA (S : List UInt8) (size : Nat) (w : World) (hS : S.length ≤ 1048576) (h1 : 1 ≤ size) (h2 : size ≤ 1024) (hl : size ≤ S.length) :
  Calls Tryz.prog 175 #[.string (ba S), .int .i64 (size : Int)] w fun e w' => ∃ r, e = .returned (.tuple #[.pointer (some ⟨r, 0, none⟩), .int .i64 0]) ∧ w.heap.size ≤ r ∧ zAS w' r S size 0 ∧ Below w.heap.size w w' := by
 have hsz := zAl S
 have hx : ((ba S).extract 0 size).size ≤ 1048576 := by rw [ByteArray.size_extract]; omega
 have HS := hid (zBK ((ba S).extract 0 size) w hx)
 clear hx
 go_enter Tryz.func175, Tryz.ntmps175
 go_wp2_with fail
 refine HS.out.mono ?_
 rintro e w1 ⟨rfl, rfl⟩
 have hx := zEQ ((ba S).extract 0 size)
 generalize wsum ((ba S).extract 0 size) = x at hx ⊢
 go_wp2_with fail
 go_ret2
 refine ⟨_, rfl, Nat.le_refl _, ⟨x % 65536, x / 65536, ?_, by omega, by omega, by omega⟩, (Below.refl _ _).alloc (Nat.le_refl _) _⟩
 have h := Blk.new w [.string (ba S), .int .i64 (size : Int), .int .i64 0, .int .i64 ((x % 65536 : Nat) : Int), .int .i64 ((x / 65536 : Nat) : Int)] 265
 exact h
theorem zGx (S : List UInt8) (size : Nat) (w : World) (h1 : 1 ≤ size) (h2 : size ≤ 1024) (hl : S.length < size) :
  Calls Tryz.prog 175 #[.string (ba S), .int .i64 (size : Int)] w fun e w' => e = .returned (.tuple #[.pointer none, .int .i64 3]) ∧ w = w' := by
 have hsz := zAl S
 go_enter Tryz.func175, Tryz.ntmps175
 go_wp2_with fail
 go_ret2
 exact ⟨rfl, rfl⟩
theorem zJf (r : Nat) (S : List UInt8) (size at_ : Nat) (w : World) (h : zAS w r S size at_) :
  Calls Tryz.prog 178 #[.pointer (some ⟨r, 0, none⟩)] w fun e w' => (∃ x : Nat, e = .returned (.int .i64 (x : Int))) ∧ ∃ n, w' = w.drewN n := by
 obtain ⟨a, b, hB, ha, hb, _⟩ := h
 have c3 : w.cell? ⟨r, 3, none⟩ = some (.int .i64 (a : Int)) := hB.cell 3
 have c4 : w.cell? ⟨r, 4, none⟩ = some (.int .i64 (b : Int)) := hB.cell 4
 obtain ⟨p, hp⟩ : ∃ p, p = b * 65536 := ⟨_, rfl⟩
 have hw1 : IntKind.i64.wrap ((b : Int) * 65536) = (p : Int) := by rw [IntKind.wrap_i64]; omega
 obtain ⟨q, hq⟩ : ∃ q, q = a + p := ⟨_, rfl⟩
 have hw2 : IntKind.i64.wrap ((a : Int) + (p : Int)) = (q : Int) := by rw [IntKind.wrap_i64]; omega
 clear hB hp hq
 go_enter Tryz.func178, Tryz.ntmps178
 go_wp2
 go_quiet (fail)
 go_wp2
 go_ret
 exact ⟨⟨q, rfl⟩, _, rfl⟩
theorem zAS.cells {w : World} {r : Nat} {S : List UInt8} {size at_ : Nat} (h : zAS w r S size at_) : w.cell? ⟨r, 0, none⟩ = some (.string (ba S)) ∧ w.cell? ⟨r, 1, none⟩ = some (.int .i64 (size : Int)) ∧ w.cell? ⟨r, 2, none⟩ = some (.int .i64 (at_ : Int)) := by
 obtain ⟨a, b, hB, _⟩ := h
 exact ⟨hB.cell 0, hB.cell 1, hB.cell 2⟩
theorem zHg (r : Nat) (S : List UInt8) (size at_ : Nat) (w : World) (h : zAS w r S size at_) (h1 : 1 ≤ size) (he : at_ + size = S.length) (hS : S.length ≤ 1048576) :
  Calls Tryz.prog 179 #[.pointer (some ⟨r, 0, none⟩)] w fun e w' => e = .returned (.bool false) ∧ ∃ n, w' = w.drewN n := by
 obtain ⟨c0, c1, c2⟩ := h.cells
 have hsz := zAl S
 have hz : ((size : Int) == 0) = false := by rw [beq_eq_false_iff_ne]; omega
 have hw1 : IntKind.i64.wrap ((at_ : Int) + (size : Int)) = (S.length : Int) := by rw [IntKind.wrap_i64]; omega
 clear h he
 go_enter Tryz.func179, Tryz.ntmps179
 go_wp2
 go_quiet (fail)
 go_wp2
 go_ret
 exact ⟨rfl, _, rfl⟩
theorem zIR (r : Nat) (S : List UInt8) (size at_ : Nat) (w : World) (h : zAS w r S size at_) (h1 : 1 ≤ size) (h2 : size ≤ 1024) (he : at_ + size < S.length) (hS : S.length ≤ 1048576) :
  Calls Tryz.prog 179 #[.pointer (some ⟨r, 0, none⟩)] w fun e w' => e = .returned (.bool true) ∧ zAS w' r S size (at_ + 1) ∧ Touch (fun k => k = r) w w' := by
 obtain ⟨a, b, hB, ha, hb, hle⟩ := h
 have hsz := zAl S
 have c0 : w.cell? ⟨r, 0, none⟩ = some (.string (ba S)) := hB.cell 0
 have c1 : w.cell? ⟨r, 1, none⟩ = some (.int .i64 (size : Int)) := hB.cell 1
 have c2 : w.cell? ⟨r, 2, none⟩ = some (.int .i64 (at_ : Int)) := hB.cell 2
 have hz : ((size : Int) == 0) = false := by rw [beq_eq_false_iff_ne]; omega
 obtain ⟨q, hq⟩ : ∃ q, q = at_ + size := ⟨_, rfl⟩
 have hw1 : IntKind.i64.wrap ((at_ : Int) + (size : Int)) = (q : Int) := by rw [IntKind.wrap_i64]; omega
 have hqe : ((q : Int) == (S.length : Int)) = false := by rw [beq_eq_false_iff_ne]; omega
 have hq2 : q < S.length := by omega
 have ha2 : at_ < S.length := by omega
 have HB := hid hB
 have Hq := hid hq
 clear hB hq he hle
 go_enter Tryz.func179, Tryz.ntmps179
 go_wp2
 go_quiet (fail)
 have HB1 := hid (HB.out.drewN nq)
 have HT1 := hid ((Touch.refl (fun k => k = r) w).drewN nq)
 generalize w.drewN nq = w1 at HB1 HT1 ⊢
 clear c0 c1 c2 HB
 have c0 : w1.cell? ⟨r, 0, none⟩ = some (.string (ba S)) := HB1.out.cell 0
 have c1 : w1.cell? ⟨r, 1, none⟩ = some (.int .i64 (size : Int)) := HB1.out.cell 1
 have c2 : w1.cell? ⟨r, 2, none⟩ = some (.int .i64 (at_ : Int)) := HB1.out.cell 2
 go_upto_region 3 with fail
 go_quiet (fail)
 have HB2 := hid (HB1.out.drewN nq)
 have HT2 := hid (HT1.out.drewN nq)
 generalize w1.drewN nq = w2 at HB2 HT2 ⊢
 clear c0 c1 c2 HB1 HT1
 have ho := UInt8.toNat_lt ((ba S)[at_]'(by omega))
 have hi := UInt8.toNat_lt ((ba S)[q]'(by omega))
 rw [zFe, zFe]
 generalize ((ba S)[at_]'(by omega)).toNat = xo at ho ⊢
 generalize ((ba S)[q]'(by omega)).toNat = xi at hi ⊢
 have c3 : w2.cell? ⟨r, 3, none⟩ = some (.int .i64 (a : Int)) := HB2.out.cell 3
 have f3 := HB2.out.free 3
 have l3 := HB2.out.lt
 go_upto_region 5 with fail
 obtain ⟨x2, hx2⟩ : ∃ x2 : Nat, ((a : Int) - (xo : Int) + (xi : Int)) % 65536 = (x2 : Int) := ⟨(((a : Int) - (xo : Int) + (xi : Int)) % 65536).toNat, by omega⟩
 have hx2b : x2 < 65536 := by omega
 rw [hx2]
 have HB3 := hid (HB2.out.set 3 (.int .i64 (x2 : Int)))
 have HT3 := hid (zAA (o := 3) HT2.out (.int .i64 (x2 : Int)))
 generalize w2.setCell ⟨r, 3, none⟩ (.int .i64 (x2 : Int)) = w3 at HB3 HT3 ⊢
 clear c3 f3 l3 HB2 HT2 hx2
 have c1 : w3.cell? ⟨r, 1, none⟩ = some (.int .i64 (size : Int)) := HB3.out.cell 1
 have c3 : w3.cell? ⟨r, 3, none⟩ = some (.int .i64 (x2 : Int)) := HB3.out.cell 3
 have c4 : w3.cell? ⟨r, 4, none⟩ = some (.int .i64 (b : Int)) := HB3.out.cell 4
 have f4 := HB3.out.free 4
 have l4 := HB3.out.lt
 obtain ⟨p, hp⟩ : ∃ p, p = size * xo := ⟨_, rfl⟩
 have hpb : p ≤ 1024 * 255 := by rw [hp]; exact Nat.mul_le_mul h2 (by omega)
 have hp1 : IntKind.i64.wrap ((size : Int) * (xo : Int)) = (p : Int) := by
  have e : (size : Int) * (xo : Int) = (p : Int) := by rw [hp, Int.natCast_mul]
  rw [e, IntKind.wrap_i64]; omega
 clear hp
 go_region
 obtain ⟨y2, hy2⟩ : ∃ y2 : Nat, ((b : Int) - (p : Int) % 65536 + (x2 : Int)) % 65536 = (y2 : Int) := ⟨(((b : Int) - (p : Int) % 65536 + (x2 : Int)) % 65536).toNat, by omega⟩
 have hy2b : y2 < 65536 := by omega
 rw [hy2]
 have HB4 := hid ((HB3.out.set 4 (.int .i64 (y2 : Int))).drew)
 have HT4 := hid ((zAA (o := 4) HT3.out (.int .i64 (y2 : Int))).drew)
 generalize (w3.setCell ⟨r, 4, none⟩ (.int .i64 (y2 : Int))).drew = w4 at HB4 HT4 ⊢
 clear c1 c3 c4 f4 l4 HB3 HT3 hy2 hp1 hpb
 have c2 : w4.cell? ⟨r, 2, none⟩ = some (.int .i64 (at_ : Int)) := HB4.out.cell 2
 have f2 := HB4.out.free 2
 have l2 := HB4.out.lt
 have HB5 := hid (HB4.out.set 2 (.int .i64 ((at_ : Int) + 1)))
 have HT5 := hid (zAA (o := 2) HT4.out (.int .i64 ((at_ : Int) + 1)))
 go_wp2
 go_ret
 exact ⟨rfl, ⟨x2, y2, HB5.out, hx2b, hy2b, by have := Hq.out; omega⟩, HT5.out⟩
end Go.Proofs.YtaemlplcjjbamaaGreatDoor
namespace Go.Proofs.YtaemlplcjjbamaaGreatDoor
open Go.Lib (hid)
open Go Go.RowKit
set_option linter.unusedVariables false
theorem zHw (r : Nat) (S : List UInt8) (size at_ : Nat) (w : World) (h : zAS w r S size at_) (h1 : 1 ≤ size) (he : S.length < at_ + size + size) (hS : S.length ≤ 1048576) :
  Calls Tryz.prog 181 #[.pointer (some ⟨r, 0, none⟩), .int .i64 (size : Int)] w fun e w' => e = .returned (.bool false) ∧ ∃ n, w' = w.drewN n := by
 obtain ⟨c0, c1, c2⟩ := h.cells
 obtain ⟨_, _, _, _, _, hle⟩ := h
 have hsz := zAl S
 have hz : ((size : Int) == 0) = false := by rw [beq_eq_false_iff_ne]; omega
 have hn : ¬ ((size : Int) < 0) := by omega
 obtain ⟨p, hp⟩ : ∃ p, p = S.length - size := ⟨_, rfl⟩
 have hw1 : IntKind.i64.wrap ((S.length : Int) - (size : Int)) = (p : Int) := by rw [IntKind.wrap_i64]; omega
 obtain ⟨q, hq⟩ : ∃ q, q = p - at_ := ⟨_, rfl⟩
 have hw2 : IntKind.i64.wrap ((p : Int) - (at_ : Int)) = (q : Int) := by rw [IntKind.wrap_i64]; omega
 have hq2 : q < size := by omega
 clear he hp hq hle
 go_enter Tryz.func181, Tryz.ntmps181
 go_wp2
 go_quiet (fail)
 go_wp2
 go_ret
 exact ⟨rfl, _, rfl⟩
theorem zIU (r : Nat) (S : List UInt8) (size at_ : Nat) (w : World) (h : zAS w r S size at_) (h1 : 1 ≤ size) (h2 : size ≤ 1024) (he : at_ + size + size ≤ S.length) (hS : S.length ≤ 1048576) :
  Calls Tryz.prog 181 #[.pointer (some ⟨r, 0, none⟩), .int .i64 (size : Int)] w fun e w' => e = .returned (.bool true) ∧ zAS w' r S size (at_ + size) ∧ Touch (fun k => k = r) w w' := by
 obtain ⟨a, b, hB, ha, hb, hle⟩ := h
 have hsz := zAl S
 have c0 : w.cell? ⟨r, 0, none⟩ = some (.string (ba S)) := hB.cell 0
 have c1 : w.cell? ⟨r, 1, none⟩ = some (.int .i64 (size : Int)) := hB.cell 1
 have c2 : w.cell? ⟨r, 2, none⟩ = some (.int .i64 (at_ : Int)) := hB.cell 2
 have hz : ((size : Int) == 0) = false := by rw [beq_eq_false_iff_ne]; omega
 have hn : ¬ ((size : Int) < 0) := by omega
 obtain ⟨p, hp⟩ : ∃ p, p = S.length - size := ⟨_, rfl⟩
 have hw1 : IntKind.i64.wrap ((S.length : Int) - (size : Int)) = (p : Int) := by rw [IntKind.wrap_i64]; omega
 obtain ⟨q, hq⟩ : ∃ q, q = p - at_ := ⟨_, rfl⟩
 have hw2 : IntKind.i64.wrap ((p : Int) - (at_ : Int)) = (q : Int) := by rw [IntKind.wrap_i64]; omega
 have hq2 : ¬ q < size := by omega
 obtain ⟨z, hz2⟩ : ∃ z, z = at_ + size := ⟨_, rfl⟩
 have hw3 : IntKind.i64.wrap ((at_ : Int) + (size : Int)) = (z : Int) := by rw [IntKind.wrap_i64]; omega
 obtain ⟨y, hy⟩ : ∃ y, y = z + size := ⟨_, rfl⟩
 have hw4 : IntKind.i64.wrap ((z : Int) + (size : Int)) = (y : Int) := by rw [IntKind.wrap_i64]; omega
 have hyS : y ≤ S.length := by omega
 have hzy : z ≤ y := by omega
 have Hz2 := hid hz2
 have Hy := hid hy
 have HB := hid hB
 clear he hp hq hle hz2 hy hB
 have hx : ((ba S).extract z y).size ≤ 1048576 := by rw [ByteArray.size_extract]; omega
 go_enter Tryz.func181, Tryz.ntmps181
 go_wp2
 go_quiet (fail)
 have HB1 := hid (HB.out.drewN nq)
 have HT1 := hid ((Touch.refl (fun k => k = r) w).drewN nq)
 generalize w.drewN nq = w1 at HB1 HT1 ⊢
 clear c0 c1 c2 HB
 have c1 : w1.cell? ⟨r, 1, none⟩ = some (.int .i64 (size : Int)) := HB1.out.cell 1
 have c2 : w1.cell? ⟨r, 2, none⟩ = some (.int .i64 (at_ : Int)) := HB1.out.cell 2
 have f2 := HB1.out.free 2
 have l2 := HB1.out.lt
 go_upto_region 10 with fail
 have HB2 := hid (HB1.out.set 2 (.int .i64 (z : Int)))
 have HT2 := hid (zAA (o := 2) HT1.out (.int .i64 (z : Int)))
 generalize w1.setCell ⟨r, 2, none⟩ (.int .i64 (z : Int)) = w2 at HB2 HT2 ⊢
 clear c1 c2 f2 l2 HB1 HT1
 have c0 : w2.cell? ⟨r, 0, none⟩ = some (.string (ba S)) := HB2.out.cell 0
 have c1 : w2.cell? ⟨r, 1, none⟩ = some (.int .i64 (size : Int)) := HB2.out.cell 1
 have c2 : w2.cell? ⟨r, 2, none⟩ = some (.int .i64 (z : Int)) := HB2.out.cell 2
 have HS := hid (fun n => zBK ((ba S).extract z y) (w2.drewN n) hx)
 clear hx
 go_quiet ((go_at_call 173; first | exact zAf (HS.out _) | exact quiet_add_left (HS.out _)))
 have HB3 := hid (HB2.out.drewN nq)
 have HT3 := hid (HT2.out.drewN nq)
 generalize w2.drewN nq = w3 at HB3 HT3 ⊢
 clear c0 c1 c2 HB2 HT2 HS
 have hx := zEQ ((ba S).extract z y)
 generalize wsum ((ba S).extract z y) = x at hx ⊢
 have c3 : w3.cell? ⟨r, 3, none⟩ = some (.int .i64 (a : Int)) := HB3.out.cell 3
 have c4 : w3.cell? ⟨r, 4, none⟩ = some (.int .i64 (b : Int)) := HB3.out.cell 4
 have f3 := HB3.out.free 3
 have f4 := HB3.out.free 4
 have l3 := HB3.out.lt
 have HB5 := hid ((HB3.out.set 3 (.int .i64 ((x : Int) % 65536))).set 4 (.int .i64 ((x : Int) / 65536)))
 have HT5 := hid (zAA (o := 4) (zAA (o := 3) HT3.out (.int .i64 ((x : Int) % 65536))) (.int .i64 ((x : Int) / 65536)))
 go_wp2
 go_ret
 refine ⟨rfl, ⟨x % 65536, x / 65536, ?_, by omega, by omega, by rw [← Hz2.out, ← Hy.out]; exact hyS⟩, HT5.out⟩
 rw [← Hz2.out]
 exact HB5.out
end Go.Proofs.YtaemlplcjjbamaaGreatDoor

