/- The statement's step at 0 (a tick), at 1 (a message as it is -/
import Derived.Test.YtaemlplcjjbamaaGreatDoorBLSends
namespace Go.Proofs.YtaemlplcjjbamaaGreatDoor
open Go.Lib (hid)
set_option maxRecDepth 100000
set_option maxHeartbeats 8000000
open Go Go.RowKit
set_option linter.unusedVariables false
variable {K Z Z' bb bb' c kb mb n p q wb : Nat} {bal gk id : Int} {cs : List Value} {gb : Prop} {gm : ByteArray} {sv : Value} {w w0 w1 w2 w3 : World}
def zEP (w0 : World) (c wb kb mb n : Nat) (id bal : Int) (gb : Prop) (gk : Int) (gm : ByteArray) (bb Z : Nat) (T : List Tl) (w : World) (e : Ending) (w' : World) : Prop :=
 ∃ (r : Bool) (T' : List Tl) (L' : List MG) (sv' : Value), e = .returned (.bool r) ∧ (∀ x ∈ T, x ∈ T') ∧ T'.length ≤ T.length + 585 ∧ Lw w0 c wb kb mb n id bal gb gk gm (bb + 9437213) (Z + 585) T' L' sv' w' ∧ FrW w0 w w'
theorem Gf.upto2 {G : Gh} {D : Dt} {S : CSt} (h : Gf w0 c kb mb n id bal G Z D S w) (hz : Z ≤ Z') : Gf w0 c kb mb n id bal G Z' D S w :=
 { h with
  left := ⟨by have := h.left.1; omega, h.left.2⟩
  read := ⟨h.read.1, by have := h.read.2; omega⟩
  choL := Nat.le_trans h.choL (Nat.mul_le_mul_left _ hz)
  pmsL := Nat.le_trans h.pmsL hz }
theorem Lw.upto {T : List Tl} {L : List MG} (h : Lw w0 c wb kb mb n id bal gb gk gm bb Z T L sv w) (hb : bb ≤ bb') (hz : Z ≤ Z') : Lw w0 c wb kb mb n id bal gb gk gm bb' Z' T L sv w := by
 obtain ⟨D, S, hG⟩ := h.gs.told (T' := T) (fun x hx => hx) hb
 exact ⟨⟨D, S, hG.at_, hG.gf.upto2 hz⟩, h.world, h.sent, h.sentL, h.wb0⟩
theorem Lw.setSent {T : List Tl} {L : List MG} (h : Lw w0 c wb kb mb n id bal gb gk gm bb Z T L sv w) (v : Value) (ms : List MG) (hrow : w.ownsRow w0.heap.size 30 14 v ms.length (msgsV ms)) (hs : ∀ m ∈ ms, SentM m) (hl : ms.length ≤ 585) :
  Lw w0 c wb kb mb n id bal gb gk gm bb Z T ms v (w.setCell ⟨wb, 4, none⟩ v) ∧ FrW w0 w (w.setCell ⟨wb, 4, none⟩ v) := by
 obtain ⟨av, hW, hA, hS⟩ := h.world
 obtain ⟨D, S, hG⟩ := h.gs
 have hwb := h.wb0
 have hT : Touch (fun k => k = wb) w (w.setCell ⟨wb, 4, none⟩ v) := zAa (Touch.refl (fun k => k = wb) w) _
 have hK : Keep [43] w (w.setCell ⟨wb, 4, none⟩ v) := Keep.of_touch hT (fun q _ e => by subst e; exact Tyd.blk hW (by simp)) (by decide)
 have hab : Abw w0 w (w.setCell ⟨wb, 4, none⟩ v) := hT.mono (fun q _ e => by omega)
 exact ⟨⟨⟨D, S, hG.keep hK (hab.below hG.gf.below) (by decide)⟩, ⟨av, hW.set 4 v, hK.1.2 _ _ _ _ _ _ (by decide) hA, hK.1.2 _ _ _ _ _ _ (by decide) hrow⟩, hs, hl, hwb⟩, ⟨hK.1.mono (fun t ht => by rw [List.mem_singleton.1 ht]; exact List.mem_cons_self), hab⟩⟩
theorem lw_zero {T : List Tl} {L : List MG} (h : Lw w0 c wb kb mb n id bal gb gk gm bb Z T L sv w) (hZ : Z ≤ 80000) (hbb : bb ≤ 590000000)
  (o1 m0 m1 m2 m3 m4 m5 m6 m7 m8 m9 m10 m11 m12 m13 tx k0 k1 k2 : Value) :
  Calls Tryz.prog 12 #[.pointer (some ⟨wb, 0, none⟩), .agg #[.int .i64 0, o1, m0, m1, m2, m3, m4, m5, m6, m7, m8, m9, m10, m11, m12, m13, tx, k0, k1, k2]] w (zEP w0 c wb kb mb n id bal gb gk gm bb Z T w) := by
 have hb1 := (Below.refl w.heap.size w).alloc (Nat.le_refl _) (.cells #[.int .i64 0, o1, m0, m1, m2, m3, m4, m5, m6, m7, m8, m9, m10, m11, m12, m13, tx, k0, k1, k2] 35)
 have h1 := h.quiet hb1
 obtain ⟨D, S, hG⟩ := h1.gs
 obtain ⟨av, hW, _, _⟩ := h.world
 have hwl := hW.lt
 have w01 : w.cell? ⟨wb, 0, none⟩ = some (.pointer (some ⟨c, 0, none⟩)) := hW.cell 0
 have HT := hid (gc_tick hG hZ hbb)
 have HL := hid h1
 have HB := hid hb1
 have hw0 := hG.gf.below.size
 clear h hW hG hb1 h1
 go_enter Tryz.func12, Tryz.ntmps12
 go_wp2_with fail
 refine HT.out.mono ?_
 rintro e w1 ⟨x, ms, rfl, hrow, hlen, hsent, hgs, hfr⟩
 obtain ⟨av1, hW1, hA1, hS1⟩ := HL.out.world
 have hb9 : bb ≤ bb + 9437212 := Nat.le_add_right _ _
 have L1 : Lw w0 c wb kb mb n id bal gb gk gm (bb + 9437212) (Z + 2) T L sv w1 := ⟨hgs, ⟨av1, hfr.1.1 _ _ _ (by decide) hW1, hfr.1.2 _ _ _ _ _ _ (by decide) hA1, hfr.1.2 _ _ _ _ _ _ (by decide) hS1⟩, HL.out.sent, HL.out.sentL, HL.out.wb0⟩
 have hF1 := (FrW.of_below (w0 := w0) HB.out).trans (FrW.of_fr hfr)
 obtain ⟨sa, sc, rfl⟩ := zAe hrow
 have hrow0 := zAB hrow hw0
 obtain ⟨L2, F2⟩ := L1.setSent (.slice sa ms.length sc) ms hrow0 hsent hlen
 have c4 : w1.cell? ⟨wb, 4, none⟩ = some sv := (hfr.1.1 _ _ _ (by decide) hW1).cell 4
 have f4 := (hfr.1.1 _ _ _ (by decide) hW1).free 4
 have HL2 := hid L2
 have HF2 := hid (hF1.trans F2)
 clear HL HB HT hfr hW1 hA1 hS1 L1 hF1 hrow hrow0 L2 F2 hgs w01 hb9
 go_wp2_with fail
 generalize w1.setCell ⟨wb, 4, none⟩ (.slice sa ms.length sc) = w2 at HL2 HF2 ⊢
 obtain ⟨av2, hW2, hA2, hS2⟩ := HL2.out.world
 obtain ⟨D2, S2, hG2⟩ := HL2.out.gs
 have hn1 := hG2.gf.n1
 have HSe := hid (lsends_any wb c kb w0.heap.size n sa sc id av2 ms S2 w2 hW2 hG2.at_ (by rw [hG2.gf.n_]; omega) hS2 (fun m hm => (HL2.out.sent m hm).2.1) (by omega))
 clear hW2 hA2 hS2 hG2
 refine HSe.out.mono ?_
 rintro e w3 ⟨⟨r, rfl⟩, hb3⟩
 have H3 := hid (HL2.out.quiet hb3)
 have HF3 := hid (HF2.out.trans (FrW.of_below hb3))
 clear HSe hb3 HL2 HF2
 go_wp2_with fail
 go_ret
 exact ⟨r, T, ms, _, rfl, fun x hx => hx, Nat.le_add_right _ _, H3.out.upto (by omega) (by omega), HF3.out⟩
theorem LwGo.step {T : List Tl} {L : List MG} (h : LwGo w0 c wb kb mb n id bal gb gk gm bb' Z' T K L sv w1 w2) (hf : FrW w0 w w1) (hb : Below w2.heap.size w2 w3) (hk : K ≤ 585) (hbb : bb' ≤ bb + 9437213) (hz : Z' ≤ Z + 585) :
  zEP w0 c wb kb mb n id bal gb gk gm bb Z T w (.returned (.bool true)) w3 := by
 obtain ⟨T', a1, a2, a3, a4⟩ := h
 exact ⟨true, T', L, sv, rfl, a1, by omega, (a3.quiet hb).upto hbb hz, (hf.trans a4).trans (FrW.of_below hb)⟩
theorem lw_one {T : List Tl} {L : List MG} (h : Lw w0 c wb kb mb n id bal gb gk gm bb Z T L sv w) (hZ : Z ≤ 80000) (hbb : bb ≤ 590000000) (hTl : T.length ≤ 900000) (hb0 : bal ≠ 0)
  (m : MG) (es : List Ent) (hes : zBf w0 m.la es) (hel : es.length = m.ll) (hlc : m.ll ≤ m.lc) (hpt : m.pt.size ≤ 9223372036854775807) (o1 tx k0 k1 k2 : Value) :
  Calls Tryz.prog 12 #[.pointer (some ⟨wb, 0, none⟩), .agg #[.int .i64 1, o1, .int .i64 m.k, .int .i64 m.fr, .int .i64 m.to_, .int .i64 m.bal, .int .i64 m.gen, .int .i64 m.bas, .int .i64 m.fl, .int .i64 m.tp, .int .i64 m.rd, .string m.mrk, .int .i64 m.pa, .int .i64 m.po, .string m.pt, .slice m.la m.ll m.lc, tx, k0, k1, k2]] w (zEP w0 c wb kb mb n id bal gb gk gm bb Z T w) := by
 have hb1 := (Below.refl w.heap.size w).alloc (Nat.le_refl _) (.cells #[.int .i64 1, o1, .int .i64 m.k, .int .i64 m.fr, .int .i64 m.to_, .int .i64 m.bal, .int .i64 m.gen, .int .i64 m.bas, .int .i64 m.fl, .int .i64 m.tp, .int .i64 m.rd, .string m.mrk, .int .i64 m.pa, .int .i64 m.po, .string m.pt, .slice m.la m.ll m.lc, tx, k0, k1, k2] 35)
 have HH := hid (zDn (h.quiet hb1) (by omega) (by omega) hTl hb0 m es hes hel hlc hpt)
 have HB := hid hb1
 clear h hb1
 go_enter Tryz.func12, Tryz.ntmps12
 go_wp2_with fail
 refine HH.out.mono ?_
 rintro e w2 ⟨rfl, hgo⟩
 have HG := hid hgo
 clear hgo HH
 go_wp2_with fail
 go_ret
 exact HG.out.step (FrW.of_below HB.out) (Below.refl _ _) (by omega) (by omega) (by omega)
theorem lw_other {T : List Tl} {L : List MG} (h : Lw w0 c wb kb mb n id bal gb gk gm bb Z T L sv w) (k : Int) (hk : k ≠ 0 ∧ k ≠ 1 ∧ k ≠ 2 ∧ k ≠ 5)
  (o1 m0 m1 m2 m3 m4 m5 m6 m7 m8 m9 m10 m11 m12 m13 tx k0 k1 k2 : Value) :
  Calls Tryz.prog 12 #[.pointer (some ⟨wb, 0, none⟩), .agg #[.int .i64 k, o1, m0, m1, m2, m3, m4, m5, m6, m7, m8, m9, m10, m11, m12, m13, tx, k0, k1, k2]] w (zEP w0 c wb kb mb n id bal gb gk gm bb Z T w) := by
 have hb1 := (Below.refl w.heap.size w).alloc (Nat.le_refl _) (.cells #[.int .i64 k, o1, m0, m1, m2, m3, m4, m5, m6, m7, m8, m9, m10, m11, m12, m13, tx, k0, k1, k2] 35)
 have HB := hid hb1
 have H0 := hid h
 have e0 : (k == 0) = false := by rw [beq_eq_false_iff_ne]; exact hk.1
 have e1 : (k == 1) = false := by rw [beq_eq_false_iff_ne]; exact hk.2.1
 have e2 : (k == 2) = false := by rw [beq_eq_false_iff_ne]; exact hk.2.2.1
 have e5 : (k == 5) = false := by rw [beq_eq_false_iff_ne]; exact hk.2.2.2
 clear h hb1 hk
 go_enter Tryz.func12, Tryz.ntmps12
 go_wp2_with fail
 go_ret
 exact ⟨true, T, L, sv, rfl, fun x hx => hx, Nat.le_add_right _ _, (H0.out.quiet HB.out).upto (by omega) (by omega), FrW.of_below HB.out⟩
theorem lw_mark {T : List Tl} {L : List MG} (h : Lw w0 c wb kb mb n id bal gb gk gm bb Z T L sv w) (hbb : bb ≤ 900000000) (s : ByteArray) (hs : s.size ≤ maxLen) :
  Calls Tryz.prog 11 #[.pointer (some ⟨kb, 0, none⟩), .string s] w fun e w' => ∃ r : ByteArray, e = .returned (.string r) ∧ Lw w0 c wb kb mb n id bal gb gk gm (bb + 1) Z T L sv w' ∧ KeepT [] w w' ∧ FrW w0 w w' := by
 obtain ⟨D, S, hG⟩ := h.gs
 obtain ⟨av, hW, hA, hSv⟩ := h.world
 have hbl : D.Bk.length ≤ bb := hG.gf.bokL
 refine (zBF kb mb D.Bk s w hG.gf.bok hs (by omega) hG.gf.bok.self_ne).mono ?_
 rintro e w' ⟨rfl, hK, hT⟩
 obtain ⟨g1, f1, k1⟩ := hG.gf.book hT (seen D.Bk s) hK (Ext.seen _ _) 1 (by have := zAM D.Bk s; show _ ≤ bb + 1; omega)
 exact ⟨_, rfl, ⟨⟨_, S, hG.at_.keep k1 (by simp), g1⟩, ⟨av, k1.1 _ _ _ (by simp) hW, k1.2 _ _ _ _ _ _ (by simp) hA, k1.2 _ _ _ _ _ _ (by simp) hSv⟩, h.sent, h.sentL, h.wb0⟩, k1, FrW.of_fr f1⟩
theorem zFW (m : MG) (F : ByteArray) : ∀ k, (((zAG m F k).la = none ∧ (zAG m F k).ll = 0 ∧ (zAG m F k).lc = 0) ∨ ((zAG m F k).la = m.la ∧ (zAG m F k).ll = m.ll ∧ (zAG m F k).lc = m.lc)) ∧ ((zAG m F k).pt = ⟨#[]⟩ ∨ (zAG m F k).pt = m.pt)
 | 0 => ⟨Or.inl ⟨rfl, rfl, rfl⟩, Or.inl rfl⟩
 | k + 1 => by
  have ih := zFW m F k
  show _ ∧ _
  unfold zAG
  split
  ·unfold cleanStep
   split
   ·exact ih
   ·split
    ·exact ⟨ih.1, Or.inr rfl⟩
    ·split
     ·exact ⟨Or.inr ⟨rfl, rfl, rfl⟩, ih.2⟩
     ·unfold MG.setN
      split
      ·exact ih
      ·split
       ·exact ih
       ·split
        ·exact ih
        ·split
         ·exact ih
         ·split
          ·exact ih
          ·exact ih
  ·exact ih
theorem FrW.setNew {w0 w a b : World} (h : FrW w0 w a) (hp : w.heap.size ≤ p) (hp0 : w0.heap.size ≤ p) (hT : Touch (fun k => k = p) a b) : FrW w0 w b :=
 ⟨⟨fun q cs T hT' hq => (h.1.1 q cs T hT' hq).touch hT (fun e => by have := hq.lt; omega), fun B T sz v k xs hT' hr => zAj (h.1.2 B T sz v k xs hT' hr) hT (fun g hg e => by have := (zCe hr hg).2; omega)⟩, Touch.trans h.2 (hT.mono (fun j _ e => by omega))⟩
theorem Lw.setMsg {T : List Tl} {L : List MG} (h : Lw w0 c wb kb mb n id bal gb gk gm bb Z T L sv w) (hB : Blk w q cs 30) (hq : w0.heap.size ≤ q) (hr : ∀ g, sv.ownBlock = some g → g ≠ q) (k : Nat) (v : Value) : Lw w0 c wb kb mb n id bal gb gk gm bb Z T L sv (w.setCell ⟨q, k, none⟩ v) ∧ Abw w0 w (w.setCell ⟨q, k, none⟩ v) := by
 obtain ⟨av, hW, hA, hS⟩ := h.world
 obtain ⟨D, S, hG⟩ := h.gs
 have hT : Touch (fun k => k = q) w (w.setCell ⟨q, k, none⟩ v) := zAa (Touch.refl (fun k => k = q) w) _
 have hK : Keep [30] w (w.setCell ⟨q, k, none⟩ v) := Keep.of_touch hT (fun q' _ e => by subst e; exact Tyd.blk hB (by simp)) (by decide)
 have hab : Abw w0 w (w.setCell ⟨q, k, none⟩ v) := hT.mono (fun q' _ e => by omega)
 exact ⟨⟨⟨D, S, hG.keep hK (hab.below hG.gf.below) (by decide)⟩, ⟨av, hK.1.1 _ _ _ (by decide) hW, hK.1.2 _ _ _ _ _ _ (by decide) hA, zAj hS hT (fun g hg e => hr g hg e)⟩, h.sent, h.sentL, h.wb0⟩, hab⟩
theorem lw_two {T : List Tl} {L : List MG} (h : Lw w0 c wb kb mb n id bal gb gk gm bb Z T L sv w) (hZ : Z ≤ 80000) (hbb : bb ≤ 590000000) (hTl : T.length ≤ 800000) (hb0 : bal ≠ 0)
  (m : MG) (es : List Ent) (hes : zBf w0 m.la es) (hel : es.length = m.ll) (hlc : m.ll ≤ m.lc) (hpt : m.pt.size ≤ 9223372036854775807) (o1 : Value) (tx : ByteArray) (htx : tx.size ≤ maxLen) (k0 k1 k2 : Value) :
  Calls Tryz.prog 12 #[.pointer (some ⟨wb, 0, none⟩), .agg #[.int .i64 2, o1, .int .i64 m.k, .int .i64 m.fr, .int .i64 m.to_, .int .i64 m.bal, .int .i64 m.gen, .int .i64 m.bas, .int .i64 m.fl, .int .i64 m.tp, .int .i64 m.rd, .string m.mrk, .int .i64 m.pa, .int .i64 m.po, .string m.pt, .slice m.la m.ll m.lc, .string tx, k0, k1, k2]] w (zEP w0 c wb kb mb n id bal gb gk gm bb Z T w) := by
 have hb1 := (Below.refl w.heap.size w).alloc (Nat.le_refl _) (.cells #[.int .i64 2, o1, .int .i64 m.k, .int .i64 m.fr, .int .i64 m.to_, .int .i64 m.bal, .int .i64 m.gen, .int .i64 m.bas, .int .i64 m.fl, .int .i64 m.tp, .int .i64 m.rd, .string m.mrk, .int .i64 m.pa, .int .i64 m.po, .string m.pt, .slice m.la m.ll m.lc, .string tx, k0, k1, k2] 35)
 have Q1 := Blk.new w [.int .i64 2, o1, .int .i64 m.k, .int .i64 m.fr, .int .i64 m.to_, .int .i64 m.bal, .int .i64 m.gen, .int .i64 m.bas, .int .i64 m.fl, .int .i64 m.tp, .int .i64 m.rd, .string m.mrk, .int .i64 m.pa, .int .i64 m.po, .string m.pt, .slice m.la m.ll m.lc, .string tx, k0, k1, k2] 35
 have hb2 := hb1.alloc hb1.size (.cells #[.int .i64 m.k, .int .i64 m.fr, .int .i64 id, .int .i64 m.bal, .int .i64 m.gen, .int .i64 m.bas, .int .i64 m.fl, .int .i64 m.tp, .int .i64 m.rd, .string m.mrk, .int .i64 m.pa, .int .i64 m.po, .string m.pt, .slice m.la m.ll m.lc] 30)
 have Q2 := Q1.alloc (.cells #[.int .i64 m.k, .int .i64 m.fr, .int .i64 id, .int .i64 m.bal, .int .i64 m.gen, .int .i64 m.bas, .int .i64 m.fl, .int .i64 m.tp, .int .i64 m.rd, .string m.mrk, .int .i64 m.pa, .int .i64 m.po, .string m.pt, .slice m.la m.ll m.lc] 30)
 have M2 := Blk.new (w.alloc (.cells #[.int .i64 2, o1, .int .i64 m.k, .int .i64 m.fr, .int .i64 m.to_, .int .i64 m.bal, .int .i64 m.gen, .int .i64 m.bas, .int .i64 m.fl, .int .i64 m.tp, .int .i64 m.rd, .string m.mrk, .int .i64 m.pa, .int .i64 m.po, .string m.pt, .slice m.la m.ll m.lc, .string tx, k0, k1, k2] 35)) [.int .i64 m.k, .int .i64 m.fr, .int .i64 id, .int .i64 m.bal, .int .i64 m.gen, .int .i64 m.bas, .int .i64 m.fl, .int .i64 m.tp, .int .i64 m.rd, .string m.mrk, .int .i64 m.pa, .int .i64 m.po, .string m.pt, .slice m.la m.ll m.lc] 30
 rw [show (w.alloc (.cells #[.int .i64 2, o1, .int .i64 m.k, .int .i64 m.fr, .int .i64 m.to_, .int .i64 m.bal, .int .i64 m.gen, .int .i64 m.bas, .int .i64 m.fl, .int .i64 m.tp, .int .i64 m.rd, .string m.mrk, .int .i64 m.pa, .int .i64 m.po, .string m.pt, .slice m.la m.ll m.lc, .string tx, k0, k1, k2] 35)).heap.size = w.heap.size + 1 by simp] at M2
 have HL0 := hid h
 have HB2 := hid hb2
 have HQ2 := hid Q2
 have HM2 := hid M2
 have HX := hid (And.intro hes (And.intro hel (And.intro hlc (And.intro hpt htx))))
 obtain ⟨av, hW, hA, hSv⟩ := h.world
 have hwl := hW.lt
 have w01 : w.cell? ⟨wb, 2, none⟩ = some (.int .i64 id) := hW.cell 2
 have HSv := hid hSv
 clear h hb1 Q1 hb2 Q2 M2 hW hA hSv hes hel hlc hpt htx
 go_enter Tryz.func12, Tryz.ntmps12
 go_upto_region 10 with fail
 have b2 := HB2.out
 have q2b := HQ2.out
 have m2b := HM2.out
 clear HB2 HQ2 HM2
 generalize (w.alloc (.cells #[.int .i64 2, o1, .int .i64 m.k, .int .i64 m.fr, .int .i64 m.to_, .int .i64 m.bal, .int .i64 m.gen, .int .i64 m.bas, .int .i64 m.fl, .int .i64 m.tp, .int .i64 m.rd, .string m.mrk, .int .i64 m.pa, .int .i64 m.po, .string m.pt, .slice m.la m.ll m.lc, .string tx, k0, k1, k2] 35)).alloc (.cells #[.int .i64 m.k, .int .i64 m.fr, .int .i64 id, .int .i64 m.bal, .int .i64 m.gen, .int .i64 m.bas, .int .i64 m.fl, .int .i64 m.tp, .int .i64 m.rd, .string m.mrk, .int .i64 m.pa, .int .i64 m.po, .string m.pt, .slice m.la m.ll m.lc] 30) = w2 at b2 q2b m2b ⊢
 obtain ⟨q, hq⟩ : ∃ q, q = w.heap.size := ⟨_, rfl⟩
 rw [← hq] at q2b m2b ⊢
 obtain ⟨p, hp⟩ : ∃ p, p = q + 1 := ⟨_, rfl⟩
 rw [← hp] at m2b ⊢
 have Hq := hid (And.intro hq hp)
 clear hq hp w01
 have hwl0 := hwl
 clear hwl
 have HL2 := hid (HL0.out.quiet b2)
 obtain ⟨D, S, hG⟩ := HL2.out.gs
 have hn1 := hG.gf.n1
 have HBl := hid (zBP c S w2 hG.at_ (by rw [hG.gf.n_]; omega))
 rw [hG.gf.bal_] at HBl
 obtain ⟨av2, hW2, _, _⟩ := HL2.out.world
 have c0 : w2.cell? ⟨wb, 0, none⟩ = some (.pointer (some ⟨c, 0, none⟩)) := hW2.cell 0
 have p3 : w2.cell? ⟨p, 3, none⟩ = some (.int .i64 m.bal) := m2b.cell 3
 have f3 := m2b.free 3
 have hpl := m2b.lt
 have b3 := b2.setCell (p := ⟨p, 3, none⟩) (show w.heap.size ≤ p by have := Hq.out; omega) (.int .i64 bal)
 have M3 := m2b.set 3 (.int .i64 bal)
 have hqp : q ≠ p := by have := Hq.out; omega
 have Q3 := q2b.set_other (a := ⟨p, 3, none⟩) hqp (.int .i64 bal)
 clear hW2 hG b2 q2b m2b
 go_wp2_with fail
 refine HBl.out.mono ?_
 rintro e wB ⟨rfl, rfl⟩
 go_upto_region 11 with fail
 generalize w2.setCell ⟨p, 3, none⟩ (.int .i64 bal) = w3 at b3 M3 Q3 ⊢
 clear c0 p3 f3 hpl HBl
 have L3 := HL0.out.quiet b3.drew
 obtain ⟨av3, hW3, _, _⟩ := L3.world
 have HMk := hid (lw_mark L3 (by omega) tx HX.out.2.2.2.2)
 have HM3 := hid (show Blk w3.drew p [.int .i64 m.k, .int .i64 m.fr, .int .i64 id, .int .i64 bal, .int .i64 m.gen, .int .i64 m.bas, .int .i64 m.fl, .int .i64 m.tp, .int .i64 m.rd, .string m.mrk, .int .i64 m.pa, .int .i64 m.po, .string m.pt, .slice m.la m.ll m.lc] 30 from M3.drew)
 have HQ3 := hid Q3.drew
 have HW3 := hid hW3
 have HK := hid (show ∀ w', KeepT [] w3.drew w' → (w'.cell? ⟨wb, 1, none⟩ = some (.pointer (some ⟨kb, 0, none⟩)) ∧ w'.cell? ⟨q, 16, none⟩ = some (.string tx)) from fun w' k => ⟨(k.1 _ _ _ (by simp) HW3.out).cell 1, (k.1 _ _ _ (by simp) HQ3.out).cell 16⟩)
 have hwbp : wb ≠ p := by have := hwl0; have := Hq.out; omega
 have HKS := hid (show ∀ w4 v4, KeepT [] w3.drew w4 → ((w4.setCell ⟨p, 9, none⟩ v4).cell? ⟨wb, 1, none⟩ = some (.pointer (some ⟨kb, 0, none⟩)) ∧ (w4.setCell ⟨p, 9, none⟩ v4).cell? ⟨q, 16, none⟩ = some (.string tx)) from fun w4 v4 k => ⟨((k.1 _ _ _ (by simp) HW3.out).set_other (a := ⟨p, 9, none⟩) hwbp v4).cell 1, ((k.1 _ _ _ (by simp) HQ3.out).set_other (a := ⟨p, 9, none⟩) hqp v4).cell 16⟩)
 have hk0 := HK.out w3.drew (KeepT.of_below (Below.refl _ _))
 have HB3 := hid (FrW.of_below (w0 := w0) b3.drew)
 have hwq : w0.heap.size ≤ p := by have := HL0.out.gs; obtain ⟨_, _, g⟩ := this; have := g.gf.below.size; have := Hq.out; omega
 have hrn : ∀ g, sv.ownBlock = some g → g ≠ p := fun g hg e => by have := (zCe HSv.out hg).2; have := Hq.out; omega
 clear hW3 L3 b3 M3 Q3
 go_cut [] (fun wx => ∃ r : ByteArray, Hid (Blk wx p [.int .i64 m.k, .int .i64 m.fr, .int .i64 id, .int .i64 bal, .int .i64 m.gen, .int .i64 m.bas, .int .i64 m.fl, .int .i64 m.tp, .int .i64 m.rd, .string r, .int .i64 m.pa, .int .i64 m.po, .string m.pt, .slice m.la m.ll m.lc] 30) ∧ Hid (Lw w0 c wb kb mb n id bal gb gk gm (bb + 1) Z T L sv wx) ∧ Hid (FrW w0 w wx))
 case first =>
  go_region_held3 (fun w' => w'.cell? ⟨wb, 1, none⟩ = some (.pointer (some ⟨kb, 0, none⟩)) ∧ w'.cell? ⟨q, 16, none⟩ = some (.string tx))
   (first | with_reducible exact hk0 | with_reducible exact HK.out _ (by assumption) | with_reducible exact HKS.out _ _ (by assumption) | go_keep)
   ((go_at_call 11; refine HMk.out.mono ?_; rintro e w4 ⟨r, rfl, hL4, k4, f4⟩; have M4 := k4.1 _ _ _ (by simp) HM3.out; have m9 : w4.cell? ⟨p, 9, none⟩ = some (.string m.mrk) := M4.cell 9; have g9 := M4.free 9; have hpl4 := M4.lt))
  all_goals
   obtain ⟨L5, a5⟩ := hL4.setMsg M4 hwq hrn 9 (.string r)
   have HO := hid (And.intro (M4.set 9 (.string r)) (And.intro L5 (show FrW w0 w (w4.setCell ⟨p, 9, none⟩ (.string r)) from (HB3.out.trans f4).setNew (by have := Hq.out; omega) hwq (zAa (Touch.refl (fun k => k = p) w4) _))))
   clear M4 m9 g9 hpl4 L5 a5 hL4 k4 f4 hk0 HK HMk HKS
   go_wp2_with fail
   go_meet
   exact ⟨r, hid HO.out.1, hid HO.out.2.1, hid HO.out.2.2⟩
 case rest =>
  obtain ⟨r, HM5, HL5, HF5⟩ := hcut
  clear hk0 HK HMk HKS HM3 HQ3 HW3 HB3 hwq hrn HSv HL2
  have hM5 := HM5.out
  have n0 : wc.cell? ⟨p, 0, none⟩ = some (.int .i64 m.k) := hM5.cell 0
  have n1 : wc.cell? ⟨p, 1, none⟩ = some (.int .i64 m.fr) := hM5.cell 1
  have n2 : wc.cell? ⟨p, 2, none⟩ = some (.int .i64 id) := hM5.cell 2
  have n3 : wc.cell? ⟨p, 3, none⟩ = some (.int .i64 bal) := hM5.cell 3
  have n4 : wc.cell? ⟨p, 4, none⟩ = some (.int .i64 m.gen) := hM5.cell 4
  have n5 : wc.cell? ⟨p, 5, none⟩ = some (.int .i64 m.bas) := hM5.cell 5
  have n6 : wc.cell? ⟨p, 6, none⟩ = some (.int .i64 m.fl) := hM5.cell 6
  have n7 : wc.cell? ⟨p, 7, none⟩ = some (.int .i64 m.tp) := hM5.cell 7
  have n8 : wc.cell? ⟨p, 8, none⟩ = some (.int .i64 m.rd) := hM5.cell 8
  have n9 : wc.cell? ⟨p, 9, none⟩ = some (.string r) := hM5.cell 9
  have n10 : wc.cell? ⟨p, 10, none⟩ = some (.int .i64 m.pa) := hM5.cell 10
  have n11 : wc.cell? ⟨p, 11, none⟩ = some (.int .i64 m.po) := hM5.cell 11
  have n12 : wc.cell? ⟨p, 12, none⟩ = some (.string m.pt) := hM5.cell 12
  have n13 : wc.cell? ⟨p, 13, none⟩ = some (.slice m.la m.ll m.lc) := hM5.cell 13
  have hpl5 := hM5.lt
  have HC := hid (zBz ⟨m.k, m.fr, id, bal, m.gen, m.bas, m.fl, m.tp, m.rd, r, m.pa, m.po, m.pt, m.la, m.ll, m.lc⟩ wc)
  clear hM5
  go_wp2_with fail
  refine HC.out.mono ?_
  rintro e w6 ⟨o, ho, rfl, hb6⟩
  clear n0 n1 n2 n3 n4 n5 n6 n7 n8 n9 n10 n11 n12 n13 hpl5 HC
  have hcl := zFW ⟨m.k, m.fr, id, bal, m.gen, m.bas, m.fl, m.tp, m.rd, r, m.pa, m.po, m.pt, m.la, m.ll, m.lc⟩ (fieldsOf m.k) (fieldsOf m.k).size
  rw [← ho.out] at hcl
  have hHd : Calls Tryz.prog 29 #[.pointer (some ⟨wb, 0, none⟩), .agg #[.int .i64 o.k, .int .i64 o.fr, .int .i64 o.to_, .int .i64 o.bal, .int .i64 o.gen, .int .i64 o.bas, .int .i64 o.fl, .int .i64 o.tp, .int .i64 o.rd, .string o.mrk, .int .i64 o.pa, .int .i64 o.po, .string o.pt, .slice o.la o.ll o.lc]] w6 (fun e w' => e = .returned (.tuple #[]) ∧ LwGo w0 c wb kb mb n id bal gb gk gm (bb + 1) (Z + 1) T 1 L sv w6 w') := by
   obtain ⟨x1, x2, x3, x4, x5⟩ := HX.out
   have hpo : o.pt.size ≤ 9223372036854775807 := by
    rcases hcl.2 with e | e
    ·rw [e]; decide
    ·rw [e]; exact x4
   rcases hcl.1 with ⟨e1, e2, e3⟩ | ⟨e1, e2, e3⟩
   ·exact zDn (HL5.out.quiet hb6) (by omega) (by omega) (by omega) hb0 o [] (Or.inl rfl) (by rw [e2]; rfl) (by omega) hpo
   ·exact zDn (HL5.out.quiet hb6) (by omega) (by omega) (by omega) hb0 o es (by rw [e1]; exact x1) (by rw [e2]; exact x2) (by rw [e2, e3]; exact x3) hpo
  have HHd := hid hHd
  have HF6 := hid (HF5.out.trans (FrW.of_below hb6))
  clear hHd hcl ho hb6 HL5 HF5 HM5
  go_wp2_with fail
  refine HHd.out.mono ?_
  rintro e w7 ⟨rfl, hgo⟩
  have HG := hid hgo
  clear hgo HHd
  go_wp2_with fail
  go_ret
  exact HG.out.step HF6.out (Below.refl _ _) (by omega) (by omega) (by omega)
end Go.Proofs.YtaemlplcjjbamaaGreatDoor
