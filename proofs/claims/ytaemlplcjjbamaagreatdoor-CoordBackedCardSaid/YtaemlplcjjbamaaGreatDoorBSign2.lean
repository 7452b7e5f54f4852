/- The walk of sign.Sign: a text's signature by an ideal book.  -/
import Derived.Test.YtaemlplcjjbamaaGreatDoorBMarked
import Derived.Deep.RegionLaw
namespace Go.Proofs.YtaemlplcjjbamaaGreatDoor
open Go.Lib (hid)
set_option maxRecDepth 100000
set_option maxHeartbeats 8000000
open Go Go.RowKit
set_option linter.unusedVariables false
variable {A B B' C : List ByteArray} {S : List UInt8} {T e : TypeId} {base bl k mb n q size sz : Nat} {cs xs : List Value} {v : Value} {w w' : World}
def Ext (B B' : List ByteArray) : Prop := ∀ t ∈ B, t ∈ B' ∧ pos B' t = pos B t
theorem Ext.refl (B : List ByteArray) : Ext B B := fun t h => ⟨h, rfl⟩
theorem Ext.trans (h : Ext A B) (k : Ext B C) : Ext A C := fun t ht => ⟨(k t (h t ht).1).1, ((k t (h t ht).1).2).trans (h t ht).2⟩
theorem Ext.seen (B : List ByteArray) (s : ByteArray) : Ext B (seen B s) := fun t ht => seen_old s ht
theorem Ext.mark (h : Ext B B') {t : ByteArray} (ht : t ∈ B) : zAt B' t = zAt B t := by unfold zAt; rw [(h t ht).2]
theorem zAM (B : List ByteArray) (s : ByteArray) : (seen B s).length ≤ B.length + 1 := by
 unfold seen
 by_cases h : known B s = true
 ·rw [if_pos h]; omega
 ·rw [if_neg h, List.length_append]; simp
def weakV (S : List UInt8) (bl n : Nat) : List Value := (List.range n).map fun i => .int .i64 (wsum (pcB S bl i) : Nat)
def zAO (B : List ByteArray) (S : List UInt8) (bl n : Nat) : List Value := (List.range n).map fun i => .string (zAt B (pcB S bl i))
theorem weakV_snoc (S : List UInt8) (bl n : Nat) : weakV S bl (n + 1) = weakV S bl n ++ [.int .i64 (wsum (pcB S bl n) : Nat)] := by unfold weakV; rw [List.range_succ, List.map_append]; rfl
theorem zHE (B : List ByteArray) (S : List UInt8) (bl n : Nat) : zAO B S bl (n + 1) = zAO B S bl n ++ [.string (zAt B (pcB S bl n))] := by unfold zAO; rw [List.range_succ, List.map_append]; rfl
theorem zII (h : Ext B B') (hm : ∀ i, i < n → pcB S bl i ∈ B) : zAO B' S bl n = zAO B S bl n := by
 unfold zAO
 apply List.map_congr_left
 intro i hi
 rw [h.mark (hm i (List.mem_range.1 hi))]
theorem zHM (S : List UInt8) (bl n : Nat) : (weakV S bl n).length = n := by unfold weakV; rw [List.length_map, List.length_range]
theorem zFz (B : List ByteArray) (S : List UInt8) (bl n : Nat) : (zAO B S bl n).length = n := by unfold zAO; rw [List.length_map, List.length_range]
theorem zCl : (Tryz.prog.info? 3).map (fun i => (i.zero, i.size, i.bytes)) = some (some (.int .i64 0), 1, 8) := by kernel_rfl
theorem info_strS : (Tryz.prog.info? 9).map (fun i => (i.zero, i.size, i.bytes)) = some (some (.string ByteArray.empty), 1, 16) := by kernel_rfl
theorem npc_lt (h1 : 1 ≤ bl) (h : k < npc size bl) : k * bl ≤ size := by
 unfold npc at h
 have h2 : k + 1 ≤ (size + bl - 1) / bl := h
 rw [Nat.le_div_iff_mul_le (by omega), Nat.add_mul] at h2
 omega
theorem zFK (h1 : 1 ≤ bl) : npc size bl ≤ size := by
 unfold npc
 rcases Nat.eq_zero_or_pos size with h | h
 ·subst h
  rw [Nat.div_eq_of_lt (by omega)]
  exact Nat.le_refl _
 ·have : (size + bl - 1) / bl < size + 1 := by
   rw [Nat.div_lt_iff_lt_mul (by omega), Nat.add_mul]
   have := Nat.le_mul_of_pos_right size (show 0 < bl by omega)
   omega
  omega
theorem zEY {S T : Nat → Prop} {a b c : World} (h : Touch S a b) (k : Touch T b c) (hT : ∀ j, T j → a.heap.size ≤ j) : Touch S a c :=
 ⟨k.os.trans h.os, k.tape.trans h.tape, k.output.trans h.output, Nat.le_trans h.size k.size, fun j hj hn => by
  rw [k.block j (Nat.lt_of_lt_of_le hj h.size) (fun ht => by have := hT j ht; omega)]
  exact h.block j hj hn⟩
theorem zAo.touch {T : Nat → Prop} (h : zAo w k mb B) (ht : Touch T w w') (hk : ¬ T k) (hm : ¬ T mb) : zAo w' k mb B := by
 obtain ⟨D, ⟨es, clock, k1, k2, k3, k4⟩, h2⟩ := h.own
 have hlt : mb < w.heap.size := World.ownsMap.lt ⟨es, clock, k1, k2, k3, k4⟩
 exact ⟨Blk.touch h.at_ ht hk, D, ⟨es, clock, (ht.block mb hlt hm).trans k1, k2, k3, k4⟩, h2⟩
theorem zAo.ne_row (h : zAo w k mb B) (hr : w.ownsRow base e sz v n xs) (he : e ≠ 91) : v.ownBlock ≠ some k ∧ v.ownBlock ≠ some mb := by
 refine ⟨zAp hr h.at_ he, fun hm => ?_⟩
 obtain ⟨D, ⟨es, clock, k1, _⟩, _⟩ := h.own
 rcases hr.2 with ⟨rfl, _⟩ | ⟨g, cap, cur, rfl, _, hb, _⟩
 ·cases hm
 ·have hg : g = mb := by simpa [Value.ownBlock] using hm
  subst hg
  rw [k1] at hb
  cases hb
theorem zAo.ne_blk (h : zAo w k mb B) (hb : Blk w q cs T) (hT : T ≠ 91) : k ≠ q ∧ mb ≠ q := by
 refine ⟨fun e => h.at_.ne hb (Ne.symm hT) e, fun e => ?_⟩
 obtain ⟨D, ⟨es, clock, k1, _⟩, _⟩ := h.own
 subst e
 unfold Blk at hb
 rw [k1] at hb
 cases hb
theorem zAo.map_lt (h : zAo w k mb B) : mb < w.heap.size := by
 obtain ⟨D, ⟨es, clock, k1, k2, k3, k4⟩, _⟩ := h.own
 exact World.ownsMap.lt ⟨es, clock, k1, k2, k3, k4⟩
theorem sign_any (kb mb : Nat) (B : List ByteArray) (S : List UInt8) (bl : Nat) (w : World) (h : zAo w kb mb B) (hne : kb ≠ mb) (hS : S.length ≤ 524288) (h1 : 16 ≤ bl) (h2 : bl ≤ 1024) (hB : B.length ≤ 900000000) :
  Calls Tryz.prog 151 #[.pointer (some ⟨kb, 0, none⟩), .string (ba S), .int .i64 (bl : Int)] w fun e w' => ∃ wv sv B', e = .returned (.tuple #[.agg #[.int .i64 (bl : Int), .int .i64 (S.length : Int), wv, sv], .int .i64 0]) ∧
   w'.ownsRow w.heap.size 3 1 wv (npc S.length bl) (weakV S bl (npc S.length bl)) ∧ w'.ownsRow w.heap.size 9 1 sv (npc S.length bl) (zAO B' S bl (npc S.length bl)) ∧ (∀ i, i < npc S.length bl → pcB S bl i ∈ B') ∧
   zAo w' kb mb B' ∧ Ext B B' ∧ B'.length ≤ B.length + npc S.length bl ∧ Touch (fun j => j = mb) w w' := by
 have hsz := zAl S
 have H := hid h
 clear h
 go_enter Tryz.func151, Tryz.ntmps151
 go_wp2_with fail
 refine (zEg bl _ h1 h2).mono ?_
 rintro e w1 ⟨rfl, rfl⟩
 go_wp2_with fail
 refine (zDE S.length bl _ (by omega) h2 (by omega)).mono ?_
 rintro e w1 ⟨rfl, rfl⟩
 have hb0 : Below w.heap.size w ((w.alloc (.cells #[.int .i64 0, .int .i64 0, .slice none 0 0, .slice none 0 0] 214)).alloc (.cells #[.int .i64 (bl : Int), .int .i64 (S.length : Int), .slice none 0 0, .slice none 0 0] 214)) := ((Below.refl _ _).alloc (Nat.le_refl _) _).alloc (by simp) _
 have HQ6 := hid ((Blk.new w [.int .i64 0, .int .i64 0, .slice none 0 0, .slice none 0 0] 214).alloc (.cells #[.int .i64 (bl : Int), .int .i64 (S.length : Int), .slice none 0 0, .slice none 0 0] 214))
 have hq8 := Blk.new (w.alloc (.cells #[.int .i64 0, .int .i64 0, .slice none 0 0, .slice none 0 0] 214)) [.int .i64 (bl : Int), .int .i64 (S.length : Int), .slice none 0 0, .slice none 0 0] 214
 rw [World.size_alloc] at hq8
 have HQ8 := hid hq8
 have HK := hid (H.out.below hb0)
 have HT := hid (show Touch (fun j => j = mb) w _ from Touch.of_below hb0)
 have hml := H.out.map_lt
 clear hb0 hq8 H
 generalize (w.alloc (.cells #[.int .i64 0, .int .i64 0, .slice none 0 0, .slice none 0 0] 214)).alloc (.cells #[.int .i64 (bl : Int), .int .i64 (S.length : Int), .slice none 0 0, .slice none 0 0] 214) = w0 at HQ6 HQ8 HK HT ⊢
 obtain ⟨q6, hq6⟩ : ∃ q6, w.heap.size = q6 := ⟨_, rfl⟩
 rw [hq6] at HQ6 HQ8 hml ⊢
 have hq6h := hid hq6
 clear hq6
 obtain ⟨q8, hq8⟩ : ∃ q8, q6 + 1 = q8 := ⟨_, rfl⟩
 rw [hq8] at HQ8 ⊢
 have hq8h := hid hq8
 have hq68 : q6 < q8 := by omega
 clear hq8
 have hnl := zFK (size := S.length) (bl := bl) (by omega)
 have Hnk := hid (fun k (h : k < npc S.length bl) => npc_lt (size := S.length) (bl := bl) (by omega) h)
 obtain ⟨n, hn⟩ : ∃ n, n = npc S.length bl := ⟨_, rfl⟩
 rw [← hn] at hnl Hnk ⊢
 have Hn := hid hn
 clear hn
 go_wp2_with fail
 go_loopw [27] (fun iv_ wr => ∃ (k : Nat) (Bk : List ByteArray) (wv sv : Value), iv_ = .int .i64 (k : Int) ∧ k ≤ n ∧ Hid (Blk wr q8 [.int .i64 (bl : Int), .int .i64 (S.length : Int), wv, sv] 214) ∧ Hid (Blk wr q6 [.int .i64 0, .int .i64 0, .slice none 0 0, .slice none 0 0] 214) ∧
  Hid (wr.ownsRow q6 3 1 wv k (weakV S bl k)) ∧ Hid (wr.ownsRow q6 9 1 sv k (zAO Bk S bl k)) ∧ Hid (∀ i, i < k → pcB S bl i ∈ Bk) ∧ Hid (zAo wr kb mb Bk) ∧ Hid (Ext B Bk) ∧ Bk.length ≤ B.length + k ∧ Hid (Touch (fun j => j = mb) w wr)) (fun iv_ _ => n - (intOf iv_).toNat)
 case atStart => exact ⟨0, B, _, _, rfl, Nat.zero_le _, HQ8, HQ6, hid (World.ownsRow_nil _ _ _ _), hid (World.ownsRow_nil _ _ _ _), hid (fun i hi => absurd hi (Nat.not_lt_zero _)), HK, hid (Ext.refl B), Nat.le_refl _, HT⟩
 case round =>
  obtain ⟨k, Bk, wv, sv, rfl, hk, HQ8, HQ6, HWr, HSr, HM, HKb, HX, hbl, HT⟩ := hrel
  by_cases hlt : k < n
  ·have HPc := hid (fun w' => piece_any S bl k w' (by omega) (by omega) h2 (Hnk.out k hlt))
   have HSm := hid (fun w' => zBK (pcB S bl k) w' (by unfold pcB; rw [ByteArray.size_extract]; omega))
   have hwvn : ∀ c, wv.ownBlock = some c → c ≠ q8 := fun c hc e => zAp HWr.out HQ8.out (by decide) (by rw [hc, e])
   obtain ⟨wa, wc, rfl⟩ := zAe HWr.out
   obtain ⟨sa, sc, rfl⟩ := zAe HSr.out
   have hrw : (Value.slice wa k wc).ownBlock ≠ some q8 := zAp HWr.out HQ8.out (by decide)
   have hq8l := HQ8.out.lt
   have hq6w : q6 ≤ wr.heap.size := by omega
   go_wp2_with fail
   refine (HPc.out wr).mono ?_
   rintro e w1 ⟨rfl, rfl⟩
   obtain ⟨i0, hi0, hz0, hz1, hz2⟩ := info_parts zCl
   have hown := HWr.out
   have c82 : wr.cell? ⟨q8, 2, none⟩ = some (.slice wa k wc) := HQ8.out.cell 2
   have f82 : wr.frozen? ⟨q8, 2, none⟩ = false := HQ8.out.free 2
   have hxw := zHM S bl k
   go_upto_region 10 with fail
   go_region_law (first
    | (refine step_append_lies _ (by rfl) _ _ _ (by rfl) q6 3 i0 _ 1 8 Tryz.underlying130 hi0 hz0 hz1 hz2 rfl (by omega) (.slice wa k wc) k (weakV S bl k) (by rfl) ((hown.alloc _).drew) ⟨wr.heap.size, 0, none⟩ 1 1 [.int .i64 (wsum (pcB S bl k) : Nat)] (by rfl) (by rfl) (World.news_of_block (cs := #[.int .i64 (wsum (pcB S bl k) : Nat)]) (t := 3) (fr := (0, 0)) (heap_alloc_new wr _)) (by simp [Value.oneCell']) (by omega) (by unfold maxLen; omega) (by omega) (by simp; omega) (wr.heap.size + 1) (by simp) ?_; intro gg ucap w4 hown4 hgrow hat hlt4; have hc4 := hgrow.cell_far ⟨q8, 2, none⟩ (by simp; omega) (Ne.symm hrw); have hf4 := hgrow.frozen_far ⟨q8, 2, none⟩ (by simp; omega) (Ne.symm hrw))
    | (go_simp; go_at_call 173; refine (HSm.out _).mono ?_; rintro e w4 ⟨rfl, rfl⟩))
   all_goals
    have HT5 := hid (((zAm (((Touch.refl (fun j => (Value.slice wa k wc).ownBlock = some j ∨ j = q8) wr).alloc (.cells #[.int .i64 (wsum (pcB S bl k) : Nat)] 3)).drew) hgrow (fun g hg => Or.inl (Or.inl hg))).set (p := ⟨q8, 2, none⟩) (Or.inl (Or.inr rfl)) (.slice (some ⟨gg, 0, none⟩) (k + 1) ucap)))
    have hggq : gg ≠ q8 := by
     rcases hat with e | e
     ·intro e2; exact hrw (by rw [e, e2])
     ·omega
    have HQ8b := hid ((zAr ((HQ8.out.alloc (.cells #[.int .i64 (wsum (pcB S bl k) : Nat)] 3)).drew) hgrow hrw).set 2 (.slice (some ⟨gg, 0, none⟩) (k + 1) ucap))
    have HWb := hid (show (w4.setCell ⟨q8, 2, none⟩ (.slice (some ⟨gg, 0, none⟩) (k + 1) ucap)).ownsRow q6 3 1 (.slice (some ⟨gg, 0, none⟩) (k + 1) ucap) (k + 1) (weakV S bl (k + 1)) by
     rw [weakV_snoc]
     exact zAj hown4 ((Touch.refl (fun j => j = q8) w4).set (p := ⟨q8, 2, none⟩) (Or.inl rfl) _) (fun g hg e => hggq (by simp [Value.ownBlock] at hg; omega)))
    clear hown4 hgrow hat hlt4 hc4 hf4 hggq
    generalize w4.setCell ⟨q8, 2, none⟩ (.slice (some ⟨gg, 0, none⟩) (k + 1) ucap) = w5 at HT5 HQ8b HWb ⊢
    have HQ6b := hid (HQ6.out.touch HT5.out (fun e => e.elim (fun e => zAp HWr.out HQ6.out (by decide) e) (fun e => by omega)))
    have HSb := hid (zAj HSr.out HT5.out (fun g hg e => e.elim (fun e => zCf HWr.out HSr.out (by decide) e hg) (fun e => zAp HSr.out HQ8.out (by decide) (by rw [hg, e]))))
    have HKb5 := hid (HKb.out.touch HT5.out (fun e => e.elim (fun e => (HKb.out.ne_row HWr.out (by decide)).1 e) (fun e => (HKb.out.ne_blk HQ8.out (by decide)).1 e)) (fun e => e.elim (fun e => (HKb.out.ne_row HWr.out (by decide)).2 e) (fun e => (HKb.out.ne_blk HQ8.out (by decide)).2 e)))
    have HT5w := hid (zEY HT.out HT5.out (fun j hj => by
     rw [hq6h.out]
     rcases hj with e | e
     ·exact (HWr.out.lt j e).1
     ·omega))
    clear HT5 HQ8 HQ6 HWr HSr HKb HT hown c82 f82 hrw hwvn
   all_goals
    have hsz5 : q6 ≤ w5.heap.size := by have := HQ8b.out.lt; omega
    have HMk := hid (fun w' (hK : zAo w' kb mb Bk) => zBF kb mb Bk (pcB S bl k) w' hK (by unfold pcB maxLen; rw [ByteArray.size_extract]; omega) (by omega) hne)
    have c83 : w5.cell? ⟨q8, 3, none⟩ = some (.slice sa k sc) := HQ8b.out.cell 3
    have f83 : w5.frozen? ⟨q8, 3, none⟩ = false := HQ8b.out.free 3
    have hq8b := HQ8b.out.lt
    have hrs : (Value.slice sa k sc).ownBlock ≠ some q8 := zAp HSb.out HQ8b.out (by decide)
    have hmq : mb ≠ q8 := (HKb5.out.ne_blk HQ8b.out (by decide)).2
    obtain ⟨j0, hj0, jz0, jz1, jz2⟩ := info_parts info_strS
    have hxs := zFz Bk S bl k
    clear HSm hi0 hz0 hz1 hz2 hq8l hq6w hxw
    go_upto_region 11 with fail
    go_region_law (first
     | (refine step_append_lies _ (by rfl) _ _ _ (by rfl) q6 9 j0 _ 1 16 Tryz.underlying49 hj0 jz0 jz1 jz2 rfl (by omega) (.slice sa k sc) k (zAO Bk S bl k) (by rfl) ((hSM.alloc _).drew) ⟨wM.heap.size, 0, none⟩ 1 1 [.string (zAt (seen Bk (pcB S bl k)) (pcB S bl k))] (by rfl) (by rfl) (World.news_of_block (cs := #[.string (zAt (seen Bk (pcB S bl k)) (pcB S bl k))]) (t := 9) (fr := (0, 0)) (heap_alloc_new wM _)) (by simp [Value.oneCell']) (by omega) (by unfold maxLen; omega) (by omega) (by simp; omega) (wM.heap.size + 1) (by simp) ?_; intro gg ucap w7 hown7 hgrow hat hlt7; have hc7 := hgrow.cell_far ⟨q8, 3, none⟩ (by simp; omega) (Ne.symm hrs); have hf7 := hgrow.frozen_far ⟨q8, 3, none⟩ (by simp; omega) (Ne.symm hrs))
     | (go_simp; go_at_call 11; refine (HMk.out _ (by first | exact HKb5.out | exact HKb5.out.below (Below.refl _ _).drew)).mono ?_; rintro e wM ⟨rfl, hKM, hTM0⟩; have hTM : Touch (fun j => j = mb) w5 wM := (by first | exact hTM0 | exact ((Touch.refl _ w5).drew).trans hTM0); have hqM := HQ8b.out.touch (T := 214) hTM (fun e => hmq e.symm); have c83M : wM.cell? ⟨q8, 3, none⟩ = some (.slice sa k sc) := hqM.cell 3; have f83M : wM.frozen? ⟨q8, 3, none⟩ = false := hqM.free 3; have hlM := hqM.lt; have hsM : q6 ≤ wM.heap.size := Nat.le_trans hsz5 hTM.size; have hSM := zAj HSb.out hTM (fun g hg e => (HKb5.out.ne_row HSb.out (by decide)).2 (by rw [hg, e]))))
    all_goals
     have hT7 : Touch (fun j => (Value.slice sa k sc).ownBlock = some j ∨ j = q8) wM (w7.setCell ⟨q8, 3, none⟩ (.slice (some ⟨gg, 0, none⟩) (k + 1) ucap)) := (zAm (S := fun j => (Value.slice sa k sc).ownBlock = some j ∨ j = q8) (a := wM) (by first | exact (Touch.refl _ wM).alloc _ | exact ((Touch.refl _ wM).alloc _).drew) hgrow (fun g hg => Or.inl (Or.inl hg))).set (p := ⟨q8, 3, none⟩) (Or.inl (Or.inr rfl)) _
     have hggq : gg ≠ q8 := by
      rcases hat with e | e
      ·intro e2; exact hrs (by rw [e, e2])
      ·omega
     have HQ8c := hid ((zAr (by first | exact hqM.alloc _ | exact (hqM.alloc _).drew) hgrow hrs).set 3 (.slice (some ⟨gg, 0, none⟩) (k + 1) ucap))
     have HSc := hid (show (w7.setCell ⟨q8, 3, none⟩ (.slice (some ⟨gg, 0, none⟩) (k + 1) ucap)).ownsRow q6 9 1 (.slice (some ⟨gg, 0, none⟩) (k + 1) ucap) (k + 1) (zAO (seen Bk (pcB S bl k)) S bl (k + 1)) by
      rw [zHE, zII (Ext.seen Bk (pcB S bl k)) HM.out]
      exact zAj hown7 ((Touch.refl (fun j => j = q8) w7).set (p := ⟨q8, 3, none⟩) (Or.inl rfl) _) (fun g hg e => hggq (by simp [Value.ownBlock] at hg; omega)))
     have HQ6c := hid ((HQ6b.out.touch hTM (fun e => (HKb5.out.ne_blk HQ6b.out (by decide)).2 e.symm)).touch hT7 (fun e => e.elim (fun e => zAp hSM (HQ6b.out.touch hTM (fun e => (HKb5.out.ne_blk HQ6b.out (by decide)).2 e.symm)) (by decide) e) (fun e => by omega)))
     have hWM := zAj HWb.out hTM (fun g hg e => (HKb5.out.ne_row HWb.out (by decide)).2 (by rw [hg, e]))
     have HWc := hid (zAj hWM hT7 (fun g hg e => e.elim (fun e => zCf hSM hWM (by decide) e hg) (fun e => zAp hWM hqM (by decide) (by rw [hg, e]))))
     have HKc := hid (hKM.touch hT7 (fun e => e.elim (fun e => (hKM.ne_row hSM (by decide)).1 e) (fun e => (hKM.ne_blk hqM (by decide)).1 e)) (fun e => e.elim (fun e => (hKM.ne_row hSM (by decide)).2 e) (fun e => (hKM.ne_blk hqM (by decide)).2 e)))
     have HTc := hid (zEY (HT5w.out.trans hTM) hT7 (fun j hj => by
      rw [hq6h.out]
      rcases hj with e | e
      ·exact (hSM.lt j e).1
      ·omega))
     have HXc := hid (HX.out.trans (Ext.seen Bk (pcB S bl k)))
     have HMc := hid (show ∀ i, i < k + 1 → pcB S bl i ∈ seen Bk (pcB S bl k) from fun i hi => by
      by_cases e : i = k
      ·subst e; exact zCN _ _
      ·exact (Ext.seen Bk (pcB S bl k) _ (HM.out i (by omega))).1)
     have hsl := zAM Bk (pcB S bl k)
     clear hown7 hgrow hat hlt7 hc7 hf7 hT7 hqM c83M f83M hlM hsM hSM hKM hTM hTM0 hWM HQ8b HWb HQ6b HSb HKb5 HT5w
     generalize w7.setCell ⟨q8, 3, none⟩ (.slice (some ⟨gg, 0, none⟩) (k + 1) ucap) = w8 at HQ8c HSc HQ6c HWc HKc HTc ⊢
     go_wp2_with fail
     go_roundw
    all_goals first
     | (exact ⟨k + 1, seen Bk (pcB S bl k), _, _, by go_num, by omega, HQ8c, HQ6c, HWc, HSc, HMc, HKc, HXc, by omega, HTc⟩)
     | (simp [intOf]; omega)
  ·have hkn : k = n := by omega
   subst hkn
   obtain ⟨wa, wc, rfl⟩ := zAe HWr.out
   obtain ⟨sa, sc, rfl⟩ := zAe HSr.out
   have g0 : wr.cell? ⟨q8, 0, none⟩ = some (.int .i64 (bl : Int)) := HQ8.out.cell 0
   have g1 : wr.cell? ⟨q8, 1, none⟩ = some (.int .i64 (S.length : Int)) := HQ8.out.cell 1
   have g2 : wr.cell? ⟨q8, 2, none⟩ = some (.slice wa k wc) := HQ8.out.cell 2
   have g3 : wr.cell? ⟨q8, 3, none⟩ = some (.slice sa k sc) := HQ8.out.cell 3
   have e0 : wr.cell? ⟨q6, 0, none⟩ = some (.int .i64 0) := HQ6.out.cell 0
   have e1 : wr.cell? ⟨q6, 1, none⟩ = some (.int .i64 0) := HQ6.out.cell 1
   have e2 : wr.cell? ⟨q6, 2, none⟩ = some (.slice none 0 0) := HQ6.out.cell 2
   have e3 : wr.cell? ⟨q6, 3, none⟩ = some (.slice none 0 0) := HQ6.out.cell 3
   have f0 := HQ6.out.free 0
   have f1 := HQ6.out.free 1
   have f2 := HQ6.out.free 2
   have f3 := HQ6.out.free 3
   have hl6 := HQ6.out.lt
   go_wp2_with fail
   have HQ9 := hid ((((HQ6.out.set 0 (.int .i64 (bl : Int))).set 1 (.int .i64 (S.length : Int))).set 2 (.slice wa k wc)).set 3 (.slice sa k sc))
   have hT9 : Touch (fun j => j = q6) wr ((((wr.setCell ⟨q6, 0, none⟩ (.int .i64 (bl : Int))).setCell ⟨q6, 1, none⟩ (.int .i64 (S.length : Int))).setCell ⟨q6, 2, none⟩ (.slice wa k wc)).setCell ⟨q6, 3, none⟩ (.slice sa k sc)) := zAA (zAA (zAA (zAA (Touch.refl _ _) _) _) _) _
   have HW9 := hid (zAj HWr.out hT9 (fun g hg e => zAp HWr.out HQ6.out (by decide) (by rw [hg, e])))
   have HS9 := hid (zAj HSr.out hT9 (fun g hg e => zAp HSr.out HQ6.out (by decide) (by rw [hg, e])))
   have HK9 := hid (HKb.out.touch hT9 (fun e => (HKb.out.ne_blk HQ6.out (by decide)).1 e) (fun e => (HKb.out.ne_blk HQ6.out (by decide)).2 e))
   have HT9 := hid (zEY HT.out hT9 (fun j hj => by rw [hq6h.out, hj]; exact Nat.le_refl _))
   clear g0 g1 g2 g3 e0 e1 e2 e3 f0 f1 f2 f3 hl6 hT9
   generalize (((wr.setCell ⟨q6, 0, none⟩ (.int .i64 (bl : Int))).setCell ⟨q6, 1, none⟩ (.int .i64 (S.length : Int))).setCell ⟨q6, 2, none⟩ (.slice wa k wc)).setCell ⟨q6, 3, none⟩ (.slice sa k sc) = w9 at HQ9 HW9 HS9 HK9 HT9 ⊢
   have g0 : w9.cell? ⟨q6, 0, none⟩ = some (.int .i64 (bl : Int)) := HQ9.out.cell 0
   have g1 : w9.cell? ⟨q6, 1, none⟩ = some (.int .i64 (S.length : Int)) := HQ9.out.cell 1
   have g2 : w9.cell? ⟨q6, 2, none⟩ = some (.slice wa k wc) := HQ9.out.cell 2
   have g3 : w9.cell? ⟨q6, 3, none⟩ = some (.slice sa k sc) := HQ9.out.cell 3
   refine bodyPost_ret (v := .tuple #[.agg #[.int .i64 (bl : Int), .int .i64 (S.length : Int), .slice wa k wc, .slice sa k sc], .int .i64 0]) (by simp [results, Tryz.results151, go_sem, g0, g1, g2, g3]) rfl ?_
   rw [← Hn.out, hq6h.out]
   exact ⟨_, _, Bk, rfl, HW9.out, HS9.out, HM.out, HK9.out, HX.out, hbl, HT9.out⟩
end Go.Proofs.YtaemlplcjjbamaaGreatDoor
