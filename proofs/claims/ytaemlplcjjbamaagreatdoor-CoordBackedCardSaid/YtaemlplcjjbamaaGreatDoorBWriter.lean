/- delta.Make at an ideal book's signature: steps that make the -/
import Derived.Test.YtaemlplcjjbamaaGreatDoorBRoll3
import Derived.Deep.CutBlock
namespace Go.Proofs.YtaemlplcjjbamaaGreatDoor
open Go.Lib (hid)
set_option maxRecDepth 100000
set_option maxHeartbeats 8000000
open Go Go.RowKit
set_option linter.unusedVariables false
variable {B0 : List ByteArray} {S bs : List UInt8} {a2 at_ b bl kb mb q r size : Nat} {w w' w1 w2 w3 : World}
structure MkNow (q kb mb : Nat) (B0 : List ByteArray) (O T : List UInt8) (at_ : Nat) (w2 w : World) : Prop where
 ex : ∃ l t out Bk, MkAt q l t w ∧ Mk O l out ∧ out ++ t = T.take at_ ∧ zAo w kb mb Bk ∧ Ext B0 Bk ∧ Bk.length ≤ B0.length + at_
 to_ : Touch (fun j => j = mb ∨ q ≤ j) w2 w
theorem MkNow.below {O T : List UInt8} (h : MkNow q kb mb B0 O T at_ w2 w) (hb : Below w.heap.size w w') : MkNow q kb mb B0 O T at_ w2 w' := by
 obtain ⟨⟨l, t, out, Bk, h1, h2, h3, h4, h5, h6⟩, h7⟩ := h
 exact ⟨⟨l, t, out, Bk, h1.below hb, h2, h3, h4.below hb, h5, h6⟩, h7.trans (Touch.of_below hb)⟩
theorem zAS.keep (h : zAS w r S size at_) (hk : KeepM w w') : zAS w' r S size at_ := by
 obtain ⟨a, b, h1, h2⟩ := h
 exact ⟨a, b, hk _ _ _ (by decide) (by decide) (by decide) h1, h2⟩
theorem MkNow.roll {O T : List UInt8} (h : MkNow q kb mb B0 O T at_ w2 w) (hr : zAS w r T bl a2) (hqr : q < r) (hk : kb < q) (hm : mb < q) (ht : Touch (fun k => k = r) w w') : MkNow q kb mb B0 O T at_ w2 w' := by
 obtain ⟨⟨l, t, out, Bk, h1, h2, h3, h4, h5, h6⟩, h7⟩ := h
 obtain ⟨a, b, hb, _⟩ := hr
 exact ⟨⟨l, t, out, Bk, h1.touch_roll hb ht, h2, h3, h4.touch ht (by omega) (by omega), h5, h6⟩, h7.trans (ht.mono (fun k _ e => Or.inr (by omega)))⟩
def MatchTab (kb mb bl : Nat) (O : List UInt8) (Bk : List ByteArray) (s : ByteArray) (w : World) (e : Ending) (w' : World) : Prop :=
 ∃ (r : Int) (B' : List ByteArray), e = .returned (.int .i64 r) ∧ Touch (fun j => j = mb) w w' ∧ zAo w' kb mb B' ∧ Ext Bk B' ∧ B'.length ≤ Bk.length + 1 ∧ (r = -1 ∨ ∃ i : Nat, i < O.length / bl ∧ r = (i : Int) ∧ s = ba ((O.drop (i * bl)).take bl))
theorem match_tab (lo hi tq q kb mb x : Nat) (wn : Int) (B0 Bk : List ByteArray) (O : List UInt8) (bl : Nat) (s : ByteArray) (w : World) (hc : MkCtx lo hi q kb mb B0 O bl) (hT : TabOk lo hi tq B0 O bl w) (hK : zAo w kb mb Bk) (hX : Ext B0 Bk) (hBk : Bk.length ≤ 900000000) (hs : s.size ≤ maxLen) :
  Calls Tryz.prog 177 #[.pointer (some ⟨tq, 0, none⟩), .pointer (some ⟨kb, 0, none⟩), .int .i64 (x : Int), .string s, .int .i64 wn] w (MatchTab kb mb bl O Bk s w) := by
 obtain ⟨gt, gb, gw, gs, tf, bf, cW, p, r1, r2, r3, r4, r5, r6, r7, r8⟩ := hT.ex
 have hl := hc.lt
 have hO := hc.len
 have hmn : O.length / bl ≤ npc O.length bl := by unfold npc; exact Nat.div_le_div_right (by have := hc.size; omega)
 have hn := zFK (size := O.length) (bl := bl) (by have := hc.size; omega)
 refine (match_any tq (O.length / bl) gt gb x bl gs (npc O.length bl) kb mb wn tf bf _ Bk s w r1 r2 hK (by omega) (by omega) (fun j hj => by have := r7 j hj; omega) hs (by omega) hl.2.2.1 (by have := r8 tq (by simp); omega) (by have := r8 gs (by simp); omega)).mono ?_
 rintro e w' ⟨r, rfl, ht, h⟩
 rcases h with ⟨rfl, hk⟩ | ⟨hsz, hk, hg⟩
 ·exact ⟨-1, Bk, rfl, ht, hk, Ext.refl _, Nat.le_succ _, Or.inl rfl⟩
 ·refine ⟨r, _, rfl, ht, hk, Ext.seen _ _, zAM _ _, ?_⟩
  rcases hg with h | ⟨j, hj, hr, hm⟩
  ·exact Or.inl h
  ·have h1 := r7 j hj
   refine Or.inr ⟨bf j, h1, hr, ?_⟩
   have h2 := zFL hX (hc.mem (bf j) (by omega)) hBk hm.symm
   rw [h2]
   exact (zHr O h1).1
def zGL (kb mb : Nat) (B0 : List ByteArray) (O T : List UInt8) (w : World) (e : Ending) (w' : World) : Prop :=
 ∃ v l B', e = .returned (.tuple #[v, .int .i64 0]) ∧ w'.ownsRow w.heap.size 221 3 v l.length (stpsV l) ∧ Mk O l T ∧ zAo w' kb mb B' ∧ Ext B0 B' ∧ B'.length ≤ B0.length + T.length + 1 ∧ Touch (fun j => j = mb) w w'
theorem make_any (kb mb : Nat) (B0 : List ByteArray) (O T : List UInt8) (bl base : Nat) (wv sv : Value) (w : World) (hK : zAo w kb mb B0) (hR : zBV w base B0 O bl (npc O.length bl) wv sv) (hmem : ∀ i, i < npc O.length bl → pcB O bl i ∈ B0) (hO : O.length ≤ 524288) (hT : T.length ≤ 524288) (h1 : 16 ≤ bl) (h2 : bl ≤ 1024) (hB : B0.length ≤ 800000000) (hne : kb ≠ mb) :
  Calls Tryz.prog 152 #[.pointer (some ⟨kb, 0, none⟩), .agg #[.int .i64 (bl : Int), .int .i64 (O.length : Int), wv, sv], .string (ba T)] w (zGL kb mb B0 O T w) := by
 have hTz := zAl T
 obtain ⟨wa, wcap, rfl⟩ := zAe hR.1
 obtain ⟨sa, scap, rfl⟩ := zAe hR.2
 have HNT := hid (fun w' (h' : zBV w' base B0 O bl (npc O.length bl) (.slice wa (npc O.length bl) wcap) (.slice sa (npc O.length bl) scap)) => newTab_any B0 O bl base _ _ w' h' hO h1 h2)
 obtain ⟨n, hnn⟩ : ∃ n, n = npc O.length bl := ⟨_, rfl⟩
 rw [← hnn] at hR hmem HNT ⊢
 have Hnn := hid hnn
 have Hmem := hid hmem
 have HK := hid (hK.below ((Below.refl w.heap.size w).alloc (Nat.le_refl _) (.cells #[.int .i64 (bl : Int), .int .i64 (O.length : Int), .slice wa n wcap, .slice sa n scap] 214)))
 have HR := hid (hR.below ((Below.refl w.heap.size w).alloc (Nat.le_refl _) (.cells #[.int .i64 (bl : Int), .int .i64 (O.length : Int), .slice wa n wcap, .slice sa n scap] 214)))
 have HQ := hid (Blk.new w [.int .i64 (bl : Int), .int .i64 (O.length : Int), .slice wa n wcap, .slice sa n scap] 214)
 have HB0 := hid ((Below.refl w.heap.size w).alloc (Nat.le_refl _) (.cells #[.int .i64 (bl : Int), .int .i64 (O.length : Int), .slice wa n wcap, .slice sa n scap] 214))
 have HKl := hid (And.intro hK.at_.lt hK.map_lt)
 have hne' := hid hne
 clear hnn hmem hR hK hne
 go_enter Tryz.func152, Tryz.ntmps152
 go_upto_region 1 with fail
 go_step3
 generalize w.alloc (.cells #[.int .i64 (bl : Int), .int .i64 (O.length : Int), .slice wa n wcap, .slice sa n scap] 214) = w0 at HB0 HQ HR HK ⊢
 obtain ⟨gx, hgx⟩ : ∃ gx, gx = w.heap.size := ⟨_, rfl⟩
 rw [← hgx] at HQ HB0 HKl ⊢
 have Hgx := hid hgx
 clear hgx
 have c0 : w0.cell? ⟨gx, 0, none⟩ = some (.int .i64 (bl : Int)) := HQ.out.cell 0
 have c1 : w0.cell? ⟨gx, 1, none⟩ = some (.int .i64 (O.length : Int)) := HQ.out.cell 1
 have c2 : w0.cell? ⟨gx, 2, none⟩ = some (.slice wa n wcap) := HQ.out.cell 2
 have c3 : w0.cell? ⟨gx, 3, none⟩ = some (.slice sa n scap) := HQ.out.cell 3
 go_wp2_with fail
 refine (HNT.out _ HR.out).mono ?_
 clear HNT
 rintro e w1 ⟨tq, rfl, hT1, hb1⟩
 have hl1 := hb1.size
 have hlg := HQ.out.lt
 obtain ⟨q, hq⟩ : ∃ q, q = w1.heap.size := ⟨_, rfl⟩
 have HT := hid (show TabOk w0.heap.size q tq B0 O bl (w1.alloc (.cells #[.slice none 0 0, .slice none 0 0] 246)) from hq ▸ hT1.below ((Below.refl _ _).alloc (Nat.le_refl _) _))
 have HK2 := hid ((HK.out.below hb1).below ((Below.refl _ w1).alloc (Nat.le_refl _) (.cells #[.slice none 0 0, .slice none 0 0] 246)))
 have HM2 := hid (show MkAt q [] [] (w1.alloc (.cells #[.slice none 0 0, .slice none 0 0] 246)) from hq ▸ ⟨_, _, Blk.new w1 [.slice none 0 0, .slice none 0 0] 246, World.ownsRow_nil _ _ _ _, TxAt.nil _ _⟩)
 have HB2 := hid (show Below gx w (w1.alloc (.cells #[.slice none 0 0, .slice none 0 0] 246)) from (HB0.out.trans (hb1.mono (Nat.le_of_lt hlg))).alloc (by omega) _)
 have HC := hid (show MkCtx w0.heap.size q q kb mb B0 O bl from ⟨⟨by have := HKl.out.2; omega, by have := HKl.out.1; omega, hne'.out, Nat.le_refl _, by omega⟩, ⟨h1, h2⟩, hO, hB, fun i hi => Hmem.out i (by rw [Hnn.out]; exact hi)⟩)
 have hgq : gx < q := by omega
 have HQH := hid hq
 clear hT1 hb1 c0 c1 c2 c3 HB0 HQ HR HK hl1 hlg
 go_upto_region 7 with fail
 rw [← hq]
 clear hq
 generalize w1.alloc (.cells #[.slice none 0 0, .slice none 0 0] 246) = w2 at HT HK2 HM2 HB2 ⊢
 obtain ⟨lo, hlo⟩ : ∃ lo, lo = w0.heap.size := ⟨_, rfl⟩
 rw [← hlo] at HT HC
 clear hlo
 have HTb := hid (fun w' (h' : TabOk lo q tq B0 O bl w') => (show Calls Tryz.prog 176 #[.pointer (some ⟨tq, 0, none⟩)] w' fun e w'' => e = .returned (.int .i64 (bl : Int)) ∧ w'' = w' from by
  obtain ⟨gt, gb, gw, gs, tf, bf, cW, p, r1, r2, _⟩ := h'.ex
  exact zEj tq bl gs _ _ w' r2))
 have HN2 := hid (show MkNow q kb mb B0 O T 0 w2 w2 from ⟨⟨[], [], [], B0, HM2.out, Mk.nil O, rfl, HK2.out, Ext.refl _, Nat.le_refl _⟩, Touch.refl _ _⟩)
 go_wp2_with fail
 refine (HTb.out _ HT.out).mono ?_
 rintro e w3 ⟨rfl, rfl⟩
 by_cases hTl : T.length < bl
 ·have HRN := hid (zGx T bl w3 (by omega) h2 hTl)
  go_wp2_with fail
  refine HRN.out.mono ?_
  clear HRN
  rintro e w4 ⟨rfl, rfl⟩
  go_wp2_with fail
  go_step3
  go_upto_region 9 with fail
  go_loopw [11] (fun av wr => ∃ at_ : Nat, av = .int .i64 (at_ : Int) ∧ at_ ≤ T.length ∧ Hid (MkNow q kb mb B0 O T at_ w3 wr)) (fun _ _ => 0)
  case atStart => exact ⟨0, rfl, Nat.zero_le _, HN2⟩
  case round =>
   obtain ⟨at_, rfl, hat, HNow⟩ := hrel
   obtain ⟨R, hRd⟩ : ∃ R, R = T.drop at_ := ⟨_, rfl⟩
   have hex : (ba T).extract at_ T.length = ba R := by rw [zBl, hRd, List.take_of_length_le (by rw [List.length_drop]; omega)]
   have hRl : R.length = T.length - at_ := by rw [hRd, List.length_drop]
   have hTR : T = T.take at_ ++ R := by rw [hRd]; exact (List.take_append_drop at_ T).symm
   obtain ⟨l, t, out, Bk, hM, hmk, hot, hKb, hXb, hLb⟩ := HNow.out.ex
   have HTo := hid HNow.out.to_
   have hol : out.length + t.length = at_ := by rw [← List.length_append, hot, List.length_take]; omega
   have HEn := hid (fun (hT' : TabOk lo q tq B0 O bl wr) => end_any lo q tq q kb mb B0 Bk O R bl l t out wr HC.out hM hmk hT' hKb hXb (by have := HC.out.book; omega) (by omega) T (by rw [hot]; exact hTR))
   have HXb := hid hXb
   have HLb := hid hLb
   have HTx := hid (HT.out.touch HTo.out (fun k hk => hk.elim (fun e => Or.inl (by have := HC.out.lt; omega)) Or.inr))
   clear hM hmk hot hKb hXb hLb hRd hTR
   go_wp2_with fail
   (try rw [hex])
   refine (HEn.out HTx.out).mono ?_
   rintro e w6 ⟨rfl, l', B', hM6, hmk6, hK6, hX6, hL6, hT6⟩
   obtain ⟨sv6, tv6, hb6, hs6, _⟩ := hM6.ex
   have HS6 := hid hs6
   obtain ⟨sa6, sc6, rfl⟩ := zAe hs6
   have k6 := hb6.cell 0
   simp only [List.getElem?_cons_zero] at k6
   have HE := hid (show zGL kb mb B0 O T w (.returned (.tuple #[.slice sa6 l'.length sc6, .int .i64 0])) w6 from
    ⟨_, l', B', rfl, by rw [← Hgx.out]; exact zAB HS6.out (by omega), hmk6, hK6, HXb.out.trans hX6, by have := HLb.out; omega, zBI (Touch.of_below (by rw [← Hgx.out]; exact HB2.out)) (HTo.out.trans hT6) (fun j hj => hj.elim Or.inl (fun e => Or.inr (by rw [← Hgx.out]; omega)))⟩)
   clear hb6 hs6 hmk6 hK6 hX6 hL6 hT6 hM6
   go_wp2_with fail
   rw [Exit.noGoto_ret]
   go_ret2
   exact HE.out
 ·have HRN := hid (zIA T bl w3 (by omega) (by omega) h2 (by omega))
  go_wp2_with fail
  refine HRN.out.mono ?_
  clear HRN
  rintro e w4 ⟨r, rfl, hr, hRA, hB4⟩
  have HRA := hid hRA
  have HB4 := hid hB4
  clear hRA hB4
  go_wp2_with fail
  go_step3
  go_upto_block 0 with fail
  go_cut [11] (fun av wx => ∃ at_ : Nat, av = .int .i64 (at_ : Int) ∧ at_ ≤ T.length ∧ Hid (MkNow q kb mb B0 O T at_ w3 wx))
  case first =>
   go_upto_region 9 with fail
   go_loopw [11, 12] (fun av wn wr => ∃ (at_ : Nat) (wv : Int), av = .int .i64 (at_ : Int) ∧ wn = .int .i64 wv ∧ at_ + bl ≤ T.length ∧ Hid (MkNow q kb mb B0 O T at_ w3 wr) ∧ Hid (zAS wr r T bl at_)) (fun av _ _ => T.length - (intOf av).toNat)
   case atStart => exact ⟨0, 0, rfl, rfl, by omega, hid (HN2.out.below HB4.out), HRA⟩
   case round =>
    obtain ⟨at_, wv, rfl, rfl, hat, HNow, HRo⟩ := hrel
    have HRV := hid (zJf r T bl at_ wr HRo.out)
    go_wp2_with fail
    refine HRV.out.mono ?_
    clear HRV
    rintro e w5 ⟨⟨x, rfl⟩, nd, hw5⟩
    have HN5 := hid (show MkNow q kb mb B0 O T at_ w3 w5 by rw [hw5]; exact HNow.out.below (below_drewN (Below.refl _ _) _))
    have HR5 := hid (show zAS w5 r T bl at_ by rw [hw5]; exact HRo.out.below (below_drewN (Below.refl _ _) _))
    clear hw5 HNow HRo
    have HT5 := hid (HT.out.touch HN5.out.to_ (fun k hk => hk.elim (fun e => Or.inl (by have := HC.out.lt; omega)) Or.inr))
    obtain ⟨z, hz⟩ : ∃ z, z = at_ + bl := ⟨_, rfl⟩
    have hzi : (at_ : Int) + (bl : Int) = (z : Int) := by omega
    have hzT : z ≤ T.length := by omega
    have haz : at_ ≤ z := by omega
    have Hz := hid hz
    clear hz
    go_wp2_with fail
    refine (HTb.out _ HT5.out).mono ?_
    rintro e w6 ⟨rfl, rfl⟩
    obtain ⟨l, t, out, Bk, hM, hmk, hot, hKb, hXb, hLb⟩ := HN5.out.ex
    have HMt := hid (match_tab lo q tq q kb mb x wv B0 Bk O bl ((ba T).extract at_ z) w6 HC.out HT5.out hKb hXb (by have := HC.out.book; omega) (by rw [ByteArray.size_extract]; unfold maxLen; omega))
    have HM := hid hM
    have Hmk := hid hmk
    have Hot := hid hot
    have HXb := hid hXb
    have HLb := hid hLb
    clear hM hmk hot hKb hXb hLb
    go_wp2_with fail
    refine HMt.out.mono ?_
    clear HMt
    rintro e w7 ⟨rr, B7, rfl, hT7, hK7, hX7, hL7, hr7⟩
    have HM7 := hid (HM.out.touch hT7 (fun k hk => by have := HC.out.lt; omega))
    have HTo7 := hid (HN5.out.to_.trans (hT7.mono (S' := fun j => j = mb ∨ q ≤ j) (fun k _ h => Or.inl h)))
    have hrm : r ≠ mb := fun e => by
     have := HC.out.lt
     have := HB2.out.size
     have := HM2.out.lt
     omega
    have HR7 := hid (HR5.out.touch hT7 hrm)
    have HT7 := hid (HT5.out.touch hT7 (fun k hk => Or.inl (by have := HC.out.lt; omega)))
    have HK7 := hid hK7
    have HX7 := hid (HXb.out.trans hX7)
    have HL7 := hid (show B7.length ≤ B0.length + at_ + 1 by have := HLb.out; omega)
    clear hT7 hK7 hX7 hL7 HM HT5 HR5 HN5 HXb HLb
    obtain ⟨a1, ha1⟩ : ∃ a1, a1 = at_ + 1 := ⟨_, rfl⟩
    have hai1 : (at_ : Int) + 1 = (a1 : Int) := by omega
    have Ha1 := hid ha1
    clear ha1
    rcases hr7 with rfl | ⟨i, hi, rfl, hs⟩
    ·obtain ⟨sv, tv, hb, hs, htx⟩ := HM7.out.ex
     have HB_ := hid hb
     have HS_ := hid hs
     have HTx := hid htx
     obtain ⟨ta, tc, rfl, _⟩ := htx.shape
     have k1 := hb.cell 1
     have f1 := hb.free 1
     have hql := hb.lt
     simp only [List.getElem?_cons_zero, List.getElem?_cons_succ] at k1
     have hatT : at_ < T.length := by omega
     have hatB : at_ < (ba T).size := by omega
     obtain ⟨c, rst, hcr⟩ : ∃ c rst, T.drop at_ = c :: rst := ⟨_, _, List.drop_eq_getElem_cons hatT⟩
     have hcg : (ba T)[at_]'hatB = c := ba_get hcr hatB
     have HCr := hid hcr
     have hbd := hid (Hmk.out.bounds hO)
     have htl : t.length ≤ 524288 := by have := congrArg List.length Hot.out; rw [List.length_append, List.length_take] at this; omega
     clear hb hs htx hcr
     go_upto_region 12 with fail
     go_region_law (first
      | (refine zCV rfl _ _ 108 rfl q _ t [c] rfl (HTx.out.below (((Below.refl _ w7).alloc (Nat.le_refl _) (.cells #[.int .u8 ((c.toNat : Nat) : Int)] 5)).drew)) (Src.ofSlice (P := Tryz.prog) _ (size := 1) (tx := 108) (e' := 5) Tryz.underlying108 ⟨w7.heap.size, 0, none⟩ 1 1 (u8s [c]) rfl (World.news_of_block (cs := #[.int .u8 ((c.toNat : Nat) : Int)]) (t := 5) (fr := (0, 0)) (heap_alloc_new w7 _)) (by simp [u8s, Value.oneCell'])) (by simp; omega) (by simp; omega) ?_; intro ad cap w8 h8 hg8 hd8; have hc8 := hg8.cell_far ⟨q, 1, none⟩ (by simp; omega) (Ne.symm (HTx.out.ne HB_.out (by decide))); have hf8 := hg8.frozen_far ⟨q, 1, none⟩ (by simp; omega) (Ne.symm (HTx.out.ne HB_.out (by decide)))))
     all_goals
      have ht8 : Touch (fun j => (Value.slice ta t.length tc).ownBlock = some j) w7 w8 := zAm (((Touch.refl _ w7).alloc _).drew) hg8 (fun g hg => Or.inl hg)
      have HRm := hid (show MkAt q l (t ++ [c]) (w8.setCell ⟨q, 1, none⟩ (.slice ad (t.length + 1) cap)) ∧ Below q w7 (w8.setCell ⟨q, 1, none⟩ (.slice ad (t.length + 1) cap)) ∧ KeepM w7 (w8.setCell ⟨q, 1, none⟩ (.slice ad (t.length + 1) cap)) from MkAt.set_app HB_.out HS_.out HTx.out h8 ht8)
      clear h8 hg8 hd8 ht8 k1 f1 hc8 hf8
      generalize w8.setCell ⟨q, 1, none⟩ (.slice ad (t.length + 1) cap) = w9 at HRm ⊢
      have hlt := HC.out.lt
      have HN9 := hid (show MkNow q kb mb B0 O T a1 w3 w9 from ⟨⟨l, t ++ [c], out, B7, HRm.out.1, Hmk.out, by rw [← List.append_assoc, Hot.out, Ha1.out, List.take_add, HCr.out]; rfl, HK7.out.touch (Touch.of_q (mb := q) HRm.out.2.1) (fun e => by omega) (fun e => by omega), HX7.out, by have := HL7.out; have := Ha1.out; omega⟩, HTo7.out.trans (Touch.of_q HRm.out.2.1)⟩)
      have HR9 := hid (HR7.out.keep HRm.out.2.2)
      have hqr : q < r := by have := HM2.out.lt; omega
      by_cases hend : at_ + bl = T.length
      ·have HE := hid (zHg r T bl at_ w9 HR9.out (by omega) hend (by omega))
       go_wp2_with fail
       refine HE.out.mono ?_
       clear HE
       rintro e w10 ⟨rfl, nd, hw10⟩
       have HN10 := hid (show MkNow q kb mb B0 O T a1 w3 w10 by rw [hw10]; exact HN9.out.below (below_drewN (Below.refl _ _) _))
       clear hw10
       go_wp2_with fail
       go_meet
       exact ⟨a1, rfl, by have := Ha1.out; omega, HN10⟩
      ·have HE := hid (zIR r T bl at_ w9 HR9.out (by omega) h2 (by omega) (by omega))
       go_wp2_with fail
       refine HE.out.mono ?_
       clear HE
       rintro e w10 ⟨rfl, hR10, hT10⟩
       have HR10 := hid (show zAS w10 r T bl a1 from Ha1.out ▸ hR10)
       have HN10 := hid (HN9.out.roll HR9.out hqr (by omega) (by omega) hT10)
       clear hR10 hT10
       go_wp2_with fail
       go_roundw
       case rel => exact ⟨a1, wv, rfl, rfl, by have := Ha1.out; omega, HN10, HR10⟩
       case measure => have := Ha1.out; simp [intOf]; omega
    ·obtain ⟨p, hp⟩ : ∃ p, p = i * bl := ⟨_, rfl⟩
     have hpb := (zHr O hi).2
     rw [← hp] at hpb hs
     have hse : (T.drop at_).take bl = (O.drop p).take bl := by
      rw [zBl, Hz.out, Nat.add_sub_cancel_left] at hs
      exact ba_inj hs
     have Hse := hid hse
     obtain ⟨i1, hi1⟩ : ∃ i1, i1 = i + 1 := ⟨_, rfl⟩
     have hii1 : (i : Int) + 1 = (i1 : Int) := by omega
     have hiO : i ≤ 524288 := by
      have : O.length / bl ≤ O.length := Nat.div_le_self _ _
      omega
     have hbd := hid (Hmk.out.bounds hO)
     have htl : out.length + t.length ≤ 524288 := by have := congrArg List.length Hot.out; rw [List.length_append, List.length_take] at this; omega
     have HCp := hid (copy_any q l t p bl w7 HM7.out (by have := hbd.out.2; omega) (by omega) (by omega) (by omega) hbd.out.1)
     have hmc := zGP hp
     clear hp hs hse hi hi1
     go_wp2_with fail
     refine (HTb.out _ HT7.out).mono ?_
     rintro e w8 ⟨rfl, rfl⟩
     go_wp2_with fail
     refine (HTb.out _ HT7.out).mono ?_
     rintro e w9 ⟨rfl, rfl⟩
     go_wp2_with fail
     refine HCp.out.mono ?_
     clear HCp
     rintro e w10 ⟨rfl, cs, hC, hN, hM10, hB10, hK10⟩
     have hlt := HC.out.lt
     have hqr : q < r := by have := HM2.out.lt; omega
     have HN10 := hid (show MkNow q kb mb B0 O T z w3 w10 from ⟨⟨_, [], _, B7, hM10, (Hmk.out.chunks hC).copy (by omega) hpb (by omega), by rw [List.append_nil, Hot.out, ← Hse.out, Hz.out, List.take_add], HK7.out.touch (Touch.of_q (mb := q) hB10) (fun e => by omega) (fun e => by omega), HX7.out, by have := HL7.out; have := Hz.out; omega⟩, HTo7.out.trans (Touch.of_q hB10)⟩)
     have HR10 := hid (HR7.out.keep hK10)
     have HT10 := hid (HT7.out.touch (Touch.of_q (mb := mb) hB10) (fun k hk => hk.elim (fun e => Or.inl (by omega)) Or.inr))
     clear hC hN hM10 hB10 hK10 hmc
     go_wp2_with fail
     refine (HTb.out _ HT10.out).mono ?_
     rintro e w11 ⟨rfl, rfl⟩
     go_wp2_with fail
     refine (HTb.out _ HT10.out).mono ?_
     rintro e w11 ⟨rfl, rfl⟩
     by_cases hend : T.length < at_ + bl + bl
     ·have HE := hid (zHw r T bl at_ w11 HR10.out (by omega) hend (by omega))
      go_wp2_with fail
      refine HE.out.mono ?_
      clear HE
      rintro e w12 ⟨rfl, nd, hw12⟩
      have HN12 := hid (show MkNow q kb mb B0 O T z w3 w12 by rw [hw12]; exact HN10.out.below (below_drewN (Below.refl _ _) _))
      clear hw12
      go_wp2_with fail
      go_meet
      exact ⟨z, rfl, hzT, HN12⟩
     ·have HE := hid (zIU r T bl at_ w11 HR10.out (by omega) h2 (by omega) (by omega))
      go_wp2_with fail
      refine HE.out.mono ?_
      clear HE
      rintro e w12 ⟨rfl, hR12, hT12⟩
      have HR12 := hid (show zAS w12 r T bl z from Hz.out ▸ hR12)
      have HN12 := hid (HN10.out.roll HR10.out hqr (by omega) (by omega) hT12)
      clear hR12 hT12
      go_wp2_with fail
      go_roundw
      case rel => exact ⟨z, i1, rfl, rfl, by have := Hz.out; omega, HN12, HR12⟩
      case measure => have := Hz.out; simp [intOf]; omega
  case rest =>
   obtain ⟨at_, rfl, hat, HNow⟩ := hcut
   obtain ⟨R, hRd⟩ : ∃ R, R = T.drop at_ := ⟨_, rfl⟩
   have hex : (ba T).extract at_ T.length = ba R := by rw [zBl, hRd, List.take_of_length_le (by rw [List.length_drop]; omega)]
   have hRl : R.length = T.length - at_ := by rw [hRd, List.length_drop]
   have hTR : T = T.take at_ ++ R := by rw [hRd]; exact (List.take_append_drop at_ T).symm
   obtain ⟨l, t, out, Bk, hM, hmk, hot, hKb, hXb, hLb⟩ := HNow.out.ex
   have HTo := hid HNow.out.to_
   have hol : out.length + t.length = at_ := by rw [← List.length_append, hot, List.length_take]; omega
   have HEn := hid (fun (hT' : TabOk lo q tq B0 O bl wc) => end_any lo q tq q kb mb B0 Bk O R bl l t out wc HC.out hM hmk hT' hKb hXb (by have := HC.out.book; omega) (by omega) T (by rw [hot]; exact hTR))
   have HXb := hid hXb
   have HLb := hid hLb
   have HTx := hid (HT.out.touch HTo.out (fun k hk => hk.elim (fun e => Or.inl (by have := HC.out.lt; omega)) Or.inr))
   clear hM hmk hot hKb hXb hLb hRd hTR
   go_wp2_with fail
   (try rw [hex])
   refine (HEn.out HTx.out).mono ?_
   rintro e w6 ⟨rfl, l', B', hM6, hmk6, hK6, hX6, hL6, hT6⟩
   obtain ⟨sv6, tv6, hb6, hs6, _⟩ := hM6.ex
   have HS6 := hid hs6
   obtain ⟨sa6, sc6, rfl⟩ := zAe hs6
   have k6 := hb6.cell 0
   simp only [List.getElem?_cons_zero] at k6
   have HE := hid (show zGL kb mb B0 O T w (.returned (.tuple #[.slice sa6 l'.length sc6, .int .i64 0])) w6 from
    ⟨_, l', B', rfl, by rw [← Hgx.out]; exact zAB HS6.out (by omega), hmk6, hK6, HXb.out.trans hX6, by have := HLb.out; omega, zBI (Touch.of_below (by rw [← Hgx.out]; exact HB2.out)) (HTo.out.trans hT6) (fun j hj => hj.elim Or.inl (fun e => Or.inr (by rw [← Hgx.out]; omega)))⟩)
   clear hb6 hs6 hmk6 hK6 hX6 hL6 hT6 hM6
   go_wp2_with fail
   rw [Exit.noGoto_ret]
   go_ret2
   exact HE.out
def OfSays (kb mb : Nat) (B : List ByteArray) (O T : List UInt8) (w : World) (e : Ending) (w' : World) : Prop :=
 ∃ sv l B', e = .returned (.tuple #[dlV (zAt B' (ba O)) (zAt B' (ba T)) T.length sv, .int .i64 0]) ∧ w'.ownsRow w.heap.size 221 3 sv l.length (stpsV l) ∧ Mk O l T ∧ zAo w' kb mb B' ∧ Ext B B' ∧ ba O ∈ B' ∧ ba T ∈ B' ∧ B'.length ≤ B.length + O.length + T.length + 3 ∧ Touch (fun j => j = mb) w w'
theorem dOf_any (kb mb : Nat) (B : List ByteArray) (O T : List UInt8) (bl : Nat) (w : World) (hK : zAo w kb mb B) (hne : kb ≠ mb) (hO : O.length ≤ 524288) (hT : T.length ≤ 524288) (h1 : 16 ≤ bl) (h2 : bl ≤ 1024) (hB : B.length ≤ 700000000) :
  Calls Tryz.prog 127 #[.pointer (some ⟨kb, 0, none⟩), .string (ba O), .string (ba T), .int .i64 (bl : Int)] w (OfSays kb mb B O T w) := by
 have hTz := zAl T
 have hOz := zAl O
 have HS := hid (fun w' (h : zAo w' kb mb B) => sign_any kb mb B O bl w' h hne hO h1 h2 (by omega))
 have hn := zFK (size := O.length) (bl := bl) (by omega)
 have HK := hid hK
 have hkl := hK.at_.lt
 have hml := hK.map_lt
 have Hne := hid hne
 clear hK hne
 go_enter Tryz.func127, Tryz.ntmps127
 go_upto_region 1 with fail
 have HB0 := hid ((Below.refl w.heap.size w).alloc (Nat.le_refl _) (.cells #[.string ⟨#[]⟩, .string ⟨#[]⟩, .int .i64 0, .slice none 0 0] 196))
 have HQ0 := hid (Blk.new w [.string ⟨#[]⟩, .string ⟨#[]⟩, .int .i64 0, .slice none 0 0] 196)
 have HK0 := hid (HK.out.below HB0.out)
 generalize w.alloc (.cells #[.string ⟨#[]⟩, .string ⟨#[]⟩, .int .i64 0, .slice none 0 0] 196) = w0 at HB0 HQ0 HK0 ⊢
 obtain ⟨gx, hgx⟩ : ∃ gx, gx = w.heap.size := ⟨_, rfl⟩
 rw [← hgx] at HQ0 HB0 hkl hml ⊢
 have Hgx := hid hgx
 clear hgx HK
 go_wp2_with fail
 refine (HS.out _ HK0.out).mono ?_
 clear HS
 rintro e w1 ⟨wv, sv, B1, rfl, hr1, hr2, hmem, hK1, hX1, hL1, hT1⟩
 obtain ⟨wa, wcap, rfl⟩ := zAe hr1
 obtain ⟨sa, scap, rfl⟩ := zAe hr2
 have hl0 := HQ0.out.lt
 have hl1 := hT1.size
 have HQ1 := hid (HQ0.out.touch hT1 (by omega))
 have HMk := hid (fun w' (hb : Below w1.heap.size w1 w') => make_any kb mb B1 O T bl w0.heap.size _ _ w' (hK1.below hb) ⟨zAc hr1 hb, zAc hr2 hb⟩ hmem hO hT h1 h2 (by omega) Hne.out)
 have HX1 := hid hX1
 have HT1 := hid hT1
 have HL1 := hid hL1
 clear hr1 hr2 hmem hK1 hX1 hL1 hT1
 generalize npc O.length bl = n at hn HMk HL1 ⊢
 go_wp2_with fail
 refine (HMk.out _ ((Below.refl _ w1).alloc (Nat.le_refl _) _)).mono ?_
 clear HMk
 rintro e w2 ⟨dv, l, B2, rfl, hr2, hmk, hK2, hX2, hL2, hT2⟩
 have hBa : Below w1.heap.size w1 (w1.alloc (.cells #[.int .i64 (bl : Int), .int .i64 (O.length : Int), .slice wa n wcap, .slice sa n scap] 214)) := (Below.refl _ w1).alloc (Nat.le_refl _) _
 have HT2 := hid (HT1.out.trans ((Touch.of_below hBa).trans hT2))
 have hsz2 : w0.heap.size ≤ w2.heap.size := HT2.out.size
 have HQ2 := hid (HQ0.out.touch HT2.out (by omega))
 have HR2 := hid (zAB hr2 (show gx ≤ _ by simp; omega))
 have HMk2 := hid hmk
 have HX2 := hid (HX1.out.trans hX2)
 have hl2 : B2.length ≤ B.length + n + T.length + 1 := by have := HL1.out; omega
 have HA := hid (zBF kb mb B2 (ba O) w2 hK2 (by rw [zAl]; unfold maxLen; omega) (by omega) Hne.out)
 obtain ⟨da, dc, rfl⟩ := zAe hr2
 clear hr2 hmk hK2 hX2 hL2 hT2 hBa HX1 HT1 HL1 HQ1 HQ0
 go_wp2_with fail
 refine HA.out.mono ?_
 clear HA
 rintro e w3 ⟨rfl, hK3, hT3⟩
 have hsl := zAM B2 (ba O)
 have HT3 := hid (HT2.out.trans hT3)
 have HQ3 := hid (HQ2.out.touch hT3 (by omega))
 have HR3 := hid (zAj HR2.out hT3 (fun g hg e => by have := (HR2.out.lt g hg).1; omega))
 have HA := hid (zBF kb mb (seen B2 (ba O)) (ba T) w3 hK3 (by rw [zAl]; unfold maxLen; omega) (by omega) Hne.out)
 clear hK3 hT3 HT2 HQ2 HR2
 go_wp2_with fail
 refine HA.out.mono ?_
 clear HA
 rintro e w4 ⟨rfl, hK4, hT4⟩
 have hsl2 := zAM (seen B2 (ba O)) (ba T)
 have HT4 := hid (HT3.out.trans hT4)
 have HQ4 := hid (HQ3.out.touch hT4 (by omega))
 have HR4 := hid (zAj HR3.out hT4 (fun g hg e => by have := (HR3.out.lt g hg).1; omega))
 have hmm : zAt (seen (seen B2 (ba O)) (ba T)) (ba O) = zAt (seen B2 (ba O)) (ba O) := (Ext.seen _ _).mark (zCN _ _)
 rw [← hmm]
 have HXf := hid ((HX2.out.trans (Ext.seen B2 (ba O))).trans (Ext.seen _ (ba T)))
 have HmO := hid ((Ext.seen (seen B2 (ba O)) (ba T)) _ (zCN B2 (ba O))).1
 have HmT := hid (zCN (seen B2 (ba O)) (ba T))
 have HK4 := hid hK4
 have hlf : (seen (seen B2 (ba O)) (ba T)).length ≤ B.length + O.length + T.length + 3 := by omega
 have Hlf := hid hlf
 generalize seen (seen B2 (ba O)) (ba T) = Bf at HXf HmO HmT HK4 Hlf ⊢
 obtain ⟨m1, hm1⟩ : ∃ m1, m1 = zAt Bf (ba O) := ⟨_, rfl⟩
 obtain ⟨m2, hm2⟩ : ∃ m2, m2 = zAt Bf (ba T) := ⟨_, rfl⟩
 rw [← hm1, ← hm2]
 have Hm12 := hid (And.intro hm1 hm2)
 clear hm1 hm2
 have k0 := HQ4.out.cell 0
 have k1 := HQ4.out.cell 1
 have k2 := HQ4.out.cell 2
 have k3 := HQ4.out.cell 3
 have f0 := HQ4.out.free 0
 have f1 := HQ4.out.free 1
 have f2 := HQ4.out.free 2
 have f3 := HQ4.out.free 3
 have hq4 := HQ4.out.lt
 simp only [List.getElem?_cons_zero, List.getElem?_cons_succ] at k0 k1 k2 k3
 clear hK4 hT4 hlf hmm hsl hsl2 HT3 HQ3 HR3 hl2
 go_wp2_with fail
 have HQf := hid (((((HQ4.out.set 0 (.string m1)).set 1 (.string m2)).set 2 (.int .i64 (T.length : Int))).set 3 (.slice da l.length dc)))
 have HTf := hid (zAA (zAA (zAA (zAA (Touch.refl (fun k => k = gx) w4) (o := 0) (.string m1)) (o := 1) (.string m2)) (o := 2) (.int .i64 (T.length : Int))) (o := 3) (.slice da l.length dc))
 generalize (((w4.setCell ⟨gx, 0, none⟩ (.string m1)).setCell ⟨gx, 1, none⟩ (.string m2)).setCell ⟨gx, 2, none⟩ (.int .i64 (T.length : Int))).setCell ⟨gx, 3, none⟩ (.slice da l.length dc) = wf at HQf HTf ⊢
 have c0 : wf.cell? ⟨gx, 0, none⟩ = some (.string m1) := HQf.out.cell 0
 have c1 : wf.cell? ⟨gx, 1, none⟩ = some (.string m2) := HQf.out.cell 1
 have c2 : wf.cell? ⟨gx, 2, none⟩ = some (.int .i64 (T.length : Int)) := HQf.out.cell 2
 have c3 : wf.cell? ⟨gx, 3, none⟩ = some (.slice da l.length dc) := HQf.out.cell 3
 refine bodyPost_ret (v := .tuple #[.agg #[.string m1, .string m2, .int .i64 (T.length : Int), .slice da l.length dc], .int .i64 0]) (by simp [results, Tryz.results127, go_sem, c0, c1, c2, c3]) rfl ?_
 refine ⟨.slice da l.length dc, l, Bf, ?_, ?_, HMk2.out, ?_, HXf.out, HmO.out, HmT.out, Hlf.out, ?_⟩
 ·unfold dlV
  rw [← Hm12.out.1, ← Hm12.out.2]
 ·rw [← Hgx.out]
  exact zAj HR4.out HTf.out (fun g hg e => zAp HR4.out HQ4.out (by decide) (by rw [hg, e]))
 ·exact HK4.out.touch HTf.out (by omega) (by omega)
 ·exact zBI ((Touch.of_below (S := fun j => j = mb) (by rw [← Hgx.out]; exact HB0.out)).trans HT4.out) HTf.out (fun j hj => Or.inr (by rw [← Hgx.out]; omega))
open Go.RowKit
theorem zAW {T e B b : Nat} {bs : List Value} (h : Lib.IsBuilder T e B b bs w) (hb : Below w.heap.size w w') : Lib.IsBuilder T e B b bs w' := by
 have key : ∀ p, Lib.BuilderAt T e B b p bs w → Lib.BuilderAt T e B b p bs w' := by
  intro p h
  have hlt := h.lt
  obtain ⟨hB, v, hbk, hown, hne⟩ := h
  exact ⟨hB, v, by rw [hb.block b hlt]; exact hbk, zAc hown hb, hne⟩
 exact h.imp (key _) (key _)
theorem sizeBuilder : (Tryz.prog.info? 134).map (·.size) = some 2 := by kernel_rfl
theorem liesBuilder : liesAt Tryz.prog Tryz.prog.depth 134 (2 / Tryz.prog.cellsOf 134) 0 134 1 = true := by kernel_rfl
theorem zHp : (Tryz.prog.info? 5).map (fun i => (i.zero, i.size, i.bytes)) = some (some (.int .u8 0), 1, 1) := by kernel_rfl
theorem zGf (B b : Nat) (bs : List Value) (w : World) (h : Lib.IsBuilder 134 5 B b bs w) :
  Calls Tryz.prog 98 #[.pointer (some ⟨b, 0, none⟩)] w fun e w' => e = .returned (.tuple #[]) ∧ (Lib.BuilderAt 134 5 B b (.pointer (some ⟨b, 0, none⟩)) bs w' ∧ Below B w w') := by
 obtain ⟨j, hj, hjs⟩ := Option.map_eq_some_iff.1 sizeBuilder
 rcases h with h | h
 ·have h0 := h.cell0
  have hsh := h.shape
  have hfz := h.frozen0
  have hc1 := Lib.run_to_unsafe w ⟨b, 0, none⟩ Tryz.underlying132 Tryz.underlying186 hj (by rw [hjs]; decide) hsh (Nat.zero_lt_succ 1)
  have hc2 := Lib.run_from_unsafe w ⟨b, 0, none⟩ Tryz.underlying186 Tryz.underlying132 hj hsh liesBuilder
  have hne : (callFunc 120 #[.pointer (some ⟨b, 0, none⟩)]).run Tryz.prog w = .ok (.value (.pointer (some ⟨b, 0, none⟩))) w := by
   rw [run_callFunc_extern Tryz.func120 (by kernel_rfl) (by kernel_rfl) (by kernel_rfl) (e := Extern.AbiNoEscape.same) (by kernel_rfl), Lib.run_noEscape]
   rfl
  have H := hid h
  clear hsh hj hjs h
  go_enter Tryz.func98, Tryz.ntmps98
  go_wp2
  go_end0
  exact ⟨rfl, H.out.used _, (Below.refl B w).setCell (p := ⟨b, 0, none⟩) H.out.1 _⟩
 ·have h0 := h.cell0
  have hq := Lib.run_neq_ptr_same w ⟨b, 0, none⟩ Tryz.underlying132 hj
  have H := hid h
  clear hj hjs h
  go_enter Tryz.func98, Tryz.ntmps98
  go_wp2
  go_end0
  exact ⟨rfl, H.out, Below.refl _ _⟩
theorem zBL (B b : Nat) (bs : List Value) (s : ByteArray) (w : World) (h : Lib.IsBuilder 134 5 B b bs w) (hlen : bs.length + s.size ≤ 140737488355328) (hBw : B ≤ w.heap.size) :
  Calls Tryz.prog 68 #[.pointer (some ⟨b, 0, none⟩), .string s] w fun e w' => e = .returned (.tuple #[.int .i64 s.size, .nilIface]) ∧ (Lib.BuilderAt 134 5 B b (.pointer (some ⟨b, 0, none⟩)) (bs ++ Lib.strCells s) w' ∧ Below B w w') := by
 obtain ⟨i0, hi, hz0, hz1, hz2⟩ := info_parts zHp
 go_enter Tryz.func68, Tryz.ntmps68
 go_wp2_with fail
 refine (zGf B b bs _ h).mono ?_
 rintro e w1 ⟨rfl, h1, hb1⟩
 obtain ⟨hB, v, hbk, hown, hne⟩ := h1
 have c1 : w1.cell? ⟨b, 1, none⟩ = some v := by rw [Lib.cell_of_heap hbk]; rfl
 have hs1 := hb1.size
 have Hbk := hid hbk
 clear hbk
 go_wp2_with (at_builtin; refine Lib.wpList_append_own_string _ rfl _ _ 108 9 rfl B 5 i0 Tryz.underlying108 Tryz.underlying9 hi hz0 hz1 hz2 _ _ _ rfl hown s rfl ?c3 ?c4 ?c5 ?_)
 case c3 => unfold maxLen; omega
 case c4 => omega
 case c5 => omega
 intro v' w2 hown' hgrow _
 have hlt : b < w1.heap.size := Lib.BuilderAt.lt ⟨hB, v, Hbk.out, hown, hne⟩
 have hb2 : w2.heap[b]? = some (.cells #[.pointer (some ⟨b, 0, none⟩), v] 134 (0, 0)) := by
  rw [hgrow.block b hlt (fun e => hne e.symm)]
  exact Hbk.out
 have d1 : w2.cell? ⟨b, 1, none⟩ = some v := by rw [Lib.cell_of_heap hb2]; rfl
 have f1 : w2.frozen? ⟨b, 1, none⟩ = false := Lib.frozen_of_heap hb2 1
 have Hb2 := hid hb2
 clear hb2
 obtain ⟨ao, n', cap, rfl⟩ : ∃ ao n' cap, v' = .slice ao n' cap := by
  rcases hown'.2 with ⟨hv, _⟩ | ⟨g, cap, cur, hv, _⟩
  ·exact ⟨_, _, _, hv⟩
  ·exact ⟨_, _, _, hv⟩
 go_wp2
 go_ret2
 exact ⟨rfl, Lib.BuilderAt.put hB Hb2.out (bs' := bs ++ Lib.strCells s) (by simpa [Lib.strCells_length] using hown') (by decide), (hb1.grown hgrow (by omega) (fun k hk => (hown.lt k hk).1)).setCell (p := ⟨b, 1, none⟩) hB _⟩
def KeepB (b : Nat) (w w' : World) : Prop := ∀ k cs T, k ≠ b → T ≠ 5 → Blk w k cs T → Blk w' k cs T
theorem KeepB.refl (b : Nat) (w : World) : KeepB b w w := fun _ _ _ _ _ h => h
theorem KeepB.trans (h : KeepB b w1 w2) (h' : KeepB b w2 w3) : KeepB b w1 w3 := fun k cs T h1 h2 h3 => h' k cs T h1 h2 (h k cs T h1 h2 h3)
theorem KeepB.of_below (h : Below w.heap.size w w') : KeepB b w w' := fun _ _ _ _ _ hb => hb.below h
theorem zFu (B b : Nat) (bs : List Value) (w : World) (h : Lib.IsBuilder 134 5 B b bs w) :
  Calls Tryz.prog 98 #[.pointer (some ⟨b, 0, none⟩)] w fun e w' => e = .returned (.tuple #[]) ∧ (Lib.BuilderAt 134 5 B b (.pointer (some ⟨b, 0, none⟩)) bs w' ∧ Below B w w' ∧ KeepB b w w') := by
 obtain ⟨j, hj, hjs⟩ := Option.map_eq_some_iff.1 sizeBuilder
 rcases h with h | h
 ·have h0 := h.cell0
  have hsh := h.shape
  have hfz := h.frozen0
  have hc1 := Lib.run_to_unsafe w ⟨b, 0, none⟩ Tryz.underlying132 Tryz.underlying186 hj (by rw [hjs]; decide) hsh (Nat.zero_lt_succ 1)
  have hc2 := Lib.run_from_unsafe w ⟨b, 0, none⟩ Tryz.underlying186 Tryz.underlying132 hj hsh liesBuilder
  have hne : (callFunc 120 #[.pointer (some ⟨b, 0, none⟩)]).run Tryz.prog w = .ok (.value (.pointer (some ⟨b, 0, none⟩))) w := by
   rw [run_callFunc_extern Tryz.func120 (by kernel_rfl) (by kernel_rfl) (by kernel_rfl) (e := Extern.AbiNoEscape.same) (by kernel_rfl), Lib.run_noEscape]
   rfl
  have H := hid h
  clear hsh hj hjs h
  go_enter Tryz.func98, Tryz.ntmps98
  go_wp2
  go_end0
  exact ⟨rfl, H.out.used _, (Below.refl B w).setCell (p := ⟨b, 0, none⟩) H.out.1 _, fun k cs T h1 _ h3 => h3.set_other (a := ⟨b, 0, none⟩) h1 _⟩
 ·have h0 := h.cell0
  have hq := Lib.run_neq_ptr_same w ⟨b, 0, none⟩ Tryz.underlying132 hj
  have H := hid h
  clear hj hjs h
  go_enter Tryz.func98, Tryz.ntmps98
  go_wp2
  go_end0
  exact ⟨rfl, H.out, Below.refl _ _, KeepB.refl _ _⟩
theorem zCw (B b : Nat) (bs : List Value) (s : ByteArray) (w : World) (h : Lib.IsBuilder 134 5 B b bs w) (hlen : bs.length + s.size ≤ 140737488355328) (hBw : B ≤ w.heap.size) :
  Calls Tryz.prog 68 #[.pointer (some ⟨b, 0, none⟩), .string s] w fun e w' => e = .returned (.tuple #[.int .i64 s.size, .nilIface]) ∧ (Lib.BuilderAt 134 5 B b (.pointer (some ⟨b, 0, none⟩)) (bs ++ Lib.strCells s) w' ∧ Below B w w' ∧ KeepB b w w') := by
 obtain ⟨i0, hi, hz0, hz1, hz2⟩ := info_parts zHp
 go_enter Tryz.func68, Tryz.ntmps68
 go_wp2_with fail
 refine (zFu B b bs _ h).mono ?_
 rintro e w1 ⟨rfl, h1, hb1, hk1⟩
 have HK1 := hid hk1
 clear hk1
 obtain ⟨hB, v, hbk, hown, hne⟩ := h1
 have c1 : w1.cell? ⟨b, 1, none⟩ = some v := by rw [Lib.cell_of_heap hbk]; rfl
 have hs1 := hb1.size
 have Hbk := hid hbk
 clear hbk
 go_wp2_with (at_builtin; refine Lib.wpList_append_own_string _ rfl _ _ 108 9 rfl B 5 i0 Tryz.underlying108 Tryz.underlying9 hi hz0 hz1 hz2 _ _ _ rfl hown s rfl ?c3 ?c4 ?c5 ?_)
 case c3 => unfold maxLen; omega
 case c4 => omega
 case c5 => omega
 intro v' w2 hown' hgrow _
 have hlt : b < w1.heap.size := Lib.BuilderAt.lt ⟨hB, v, Hbk.out, hown, hne⟩
 have hb2 : w2.heap[b]? = some (.cells #[.pointer (some ⟨b, 0, none⟩), v] 134 (0, 0)) := by
  rw [hgrow.block b hlt (fun e => hne e.symm)]
  exact Hbk.out
 have d1 : w2.cell? ⟨b, 1, none⟩ = some v := by rw [Lib.cell_of_heap hb2]; rfl
 have f1 : w2.frozen? ⟨b, 1, none⟩ = false := Lib.frozen_of_heap hb2 1
 have Hb2 := hid hb2
 clear hb2
 have HK2 := hid (show KeepB b w1 w2 from fun k cs T h1 h2 h3 => zAr h3 hgrow (zAp hown h3 (fun e => h2 e.symm)))
 obtain ⟨ao, n', cap, rfl⟩ : ∃ ao n' cap, v' = .slice ao n' cap := by
  rcases hown'.2 with ⟨hv, _⟩ | ⟨g, cap, cur, hv, _⟩
  ·exact ⟨_, _, _, hv⟩
  ·exact ⟨_, _, _, hv⟩
 go_wp2
 go_ret2
 exact ⟨rfl, Lib.BuilderAt.put hB Hb2.out (bs' := bs ++ Lib.strCells s) (by simpa [Lib.strCells_length] using hown') (by decide), (hb1.grown hgrow (by omega) (fun k hk => (hown.lt k hk).1)).setCell (p := ⟨b, 1, none⟩) hB _, (HK1.out.trans HK2.out).trans (fun k cs T h1 _ h3 => h3.set_other (a := ⟨b, 1, none⟩) h1 _)⟩
def isW (B : Nat) (bs : List UInt8) (w : World) : Prop := Lib.IsBuilder 134 5 B B (Lib.byteCells bs) w
theorem zGE (l r : List UInt8) : Lib.byteCells (l ++ r) = Lib.byteCells l ++ Lib.byteCells r := by simp [Lib.byteCells]
theorem zCg {B : Nat} (h : isW B bs w) (hb : Below w.heap.size w w') : isW B bs w' := zAW h hb
theorem zEk {B : Nat} (h : isW B bs w) : B < w.heap.size := by
 rcases h with h | h
 ·exact h.lt
 ·exact h.lt
theorem zHW {S : Nat → Prop} {B : Nat} (h : isW B bs w) (ht : Touch S w w') (hS : ∀ k, S k → ∃ cs T, Blk w k cs T ∧ T ≠ 134 ∧ T ≠ 5) : isW B bs w' := by
 have key : ∀ p, Lib.BuilderAt 134 5 B B p (Lib.byteCells bs) w → Lib.BuilderAt 134 5 B B p (Lib.byteCells bs) w' := by
  intro p h
  have hlt := h.lt
  obtain ⟨hB, v, hbk, hown, hne⟩ := h
  have hBlk : Blk w B [p, v] 134 := hbk
  have hnB : ¬ S B := fun hs => by
   obtain ⟨cs, T, hk, h1, _⟩ := hS B hs
   exact hk.ne hBlk h1 rfl
  exact ⟨hB, v, by rw [ht.block B hlt hnB]; exact hbk, zAj hown ht (fun g hg hs => by
   obtain ⟨cs, T, hk, _, h2⟩ := hS g hs
   exact zAp hown hk (Ne.symm h2) hg), hne⟩
 exact h.imp (key _) (key _)
theorem isW_new (w : World) : isW w.heap.size [] (w.alloc (.cells #[.pointer none, .slice none 0 0] 134)) := Lib.fresh_isBuilder _ _ _
theorem zFm (B : Nat) (bs l : List UInt8) (w : World) (h : isW B bs w) (hlen : bs.length + l.length ≤ 100000000000) (hBw : B ≤ w.heap.size) :
  Calls Tryz.prog 68 #[.pointer (some ⟨B, 0, none⟩), .string (ba l)] w fun e w' => e = .returned (.tuple #[.int .i64 (l.length : Nat), .nilIface]) ∧ isW B (bs ++ l) w' ∧ Below B w w' ∧ KeepB B w w' := by
 have hz := zAl l
 refine (zCw B B _ (ba l) w h (by rw [Lib.byteCells_length]; omega) hBw).mono ?_
 rintro e w' ⟨he, h1, h2, h3⟩
 refine ⟨by rw [he, hz], Or.inr ?_, h2, h3⟩
 rw [zGE]
 exact h1
theorem string_w (B : Nat) (bs : List UInt8) (w : World) (h : isW B bs w) :
  Calls Tryz.prog 70 #[.pointer (some ⟨B, 0, none⟩)] w fun e w' => e = .returned (.string (ba bs)) ∧ Below B w w' := by
 have hlt := zEk h
 refine (Tryz.Builder_String_any B B bs w h (by omega)).mono ?_
 rintro e w' ⟨he, hb⟩
 exact ⟨he, hb⟩
end Go.Proofs.YtaemlplcjjbamaaGreatDoor
