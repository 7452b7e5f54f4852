/- The statement's step at 5: a vault answers all that was sent -/
import Derived.Test.YtaemlplcjjbamaaGreatDoorBLTwo
import Derived.Test.YtaemlplcjjbamaaGreatDoorBLReply
import Derived.Deep.Fields
import Derived.ProofKit
namespace Go.Proofs.YtaemlplcjjbamaaGreatDoor
open Go.Lib (hid)
set_option maxRecDepth 100000
set_option maxHeartbeats 8000000
open Go Go.RowKit
set_option linter.unusedVariables false
variable {K Z bb c g k kb mb n sc wb : Nat} {bal gk id kind stamp : Int} {gb : Prop} {gm : ByteArray} {sv : Value} {w w' w0 w1 w2 ws : World}
def LwC (w' : World) (wb g k sc : Nat) (id : Int) (L : List MG) (m : MG) : Prop := w'.cell? ⟨wb, 4, none⟩ = some (.slice (some ⟨g, 0, none⟩) L.length sc) ∧ w'.cell? ⟨wb, 2, none⟩ = some (.int .i64 id) ∧ w'.cell? ⟨g, k * 14, none⟩ = some (.int .i64 m.k) ∧ w'.cell? ⟨g, k * 14 + 1, none⟩ = some (.int .i64 m.fr) ∧ w'.cell? ⟨g, k * 14 + 2, none⟩ = some (.int .i64 m.to_) ∧ w'.cell? ⟨g, k * 14 + 3, none⟩ = some (.int .i64 m.bal) ∧ w'.cell? ⟨g, k * 14 + 4, none⟩ = some (.int .i64 m.gen) ∧ w'.cell? ⟨g, k * 14 + 5, none⟩ = some (.int .i64 m.bas) ∧ w'.cell? ⟨g, k * 14 + 6, none⟩ = some (.int .i64 m.fl) ∧ w'.cell? ⟨g, k * 14 + 7, none⟩ = some (.int .i64 m.tp) ∧ w'.cell? ⟨g, k * 14 + 8, none⟩ = some (.int .i64 m.rd) ∧ w'.cell? ⟨g, k * 14 + 9, none⟩ = some (.string m.mrk) ∧ w'.cell? ⟨g, k * 14 + 10, none⟩ = some (.int .i64 m.pa) ∧ w'.cell? ⟨g, k * 14 + 11, none⟩ = some (.int .i64 m.po) ∧ w'.cell? ⟨g, k * 14 + 12, none⟩ = some (.string m.pt) ∧ w'.cell? ⟨g, k * 14 + 13, none⟩ = some (.slice m.la m.ll m.lc)
theorem Lw.cells {T : List Tl} {L : List MG} (h : Lw w0 c wb kb mb n id bal gb gk gm bb Z T L (.slice (some ⟨g, 0, none⟩) L.length sc) w) {m : MG} (hm : L[k]? = some m) : LwC w wb g k sc id L m := by
 obtain ⟨av, hW, hA, hS⟩ := h.world
 have hk : k < L.length := (List.getElem?_eq_some_iff.1 hm).1
 obtain ⟨g', cap, hsv, hg0, hg, _, _, hcell⟩ := zAz hS (by omega)
 have hsa : g = g' := by injection hsv with h1 _; injection h1 with h1; injection h1
 subst hsa
 have hx : ∀ i, i < 14 → w.cell? ⟨g, k * 14 + i, none⟩ = m.vals[i]? := fun i hi => (hcell (k * 14 + i) (by omega)).trans (msgsL_at hm i hi)
 exact ⟨hW.cell 4, hW.cell 2, hx 0 (by omega), hx 1 (by omega), hx 2 (by omega), hx 3 (by omega), hx 4 (by omega), hx 5 (by omega), hx 6 (by omega), hx 7 (by omega), hx 8 (by omega), hx 9 (by omega), hx 10 (by omega), hx 11 (by omega), hx 12 (by omega), hx 13 (by omega)⟩
theorem LwGo.quiet {T : List Tl} {L : List MG} (h : LwGo w0 c wb kb mb n id bal gb gk gm bb Z T K L sv w w1) (hb : Below w1.heap.size w1 w2) : LwGo w0 c wb kb mb n id bal gb gk gm bb Z T K L sv w w2 := by
 obtain ⟨T', a1, a2, a3, a4⟩ := h
 exact ⟨T', a1, a2, a3.quiet hb, a4.trans (FrW.of_below hb)⟩
theorem LwGo.next {T : List Tl} {L : List MG} (h : LwGo w0 c wb kb mb n id bal gb gk gm bb (Z + K) T K L sv w w1) : LwGo w0 c wb kb mb n id bal gb gk gm bb (Z + (K + 1)) T (K + 1) L sv w w1 := by
 obtain ⟨T', a1, a2, a3, a4⟩ := h
 exact ⟨T', a1, by omega, a3.upto (Nat.le_refl _) (by omega), a4⟩
theorem lw_bare {T : List Tl} {L : List MG} (h : LwGo w0 c wb kb mb n id bal gb gk gm bb (Z + K) T K L sv ws w) (hZ : Z + K ≤ 100000) (hbb : bb ≤ 900000000) (hTl : T.length + K ≤ 900000) (hb0 : bal ≠ 0) (o : MG) (ho : Bare o) :
  Calls Tryz.prog 29 #[.pointer (some ⟨wb, 0, none⟩), .agg #[.int .i64 o.k, .int .i64 o.fr, .int .i64 o.to_, .int .i64 o.bal, .int .i64 o.gen, .int .i64 o.bas, .int .i64 o.fl, .int .i64 o.tp, .int .i64 o.rd, .string o.mrk, .int .i64 o.pa, .int .i64 o.po, .string o.pt, .slice o.la o.ll o.lc]] w
   (fun e w' => e = .returned (.tuple #[]) ∧ LwGo w0 c wb kb mb n id bal gb gk gm bb (Z + (K + 1)) T (K + 1) L sv ws w' ∧ FrW w0 w w') := by
 obtain ⟨T', a1, a2, a3, a4⟩ := h
 obtain ⟨b1, b2, b3, b4⟩ := ho
 refine (zDn a3 hZ hbb (by omega) hb0 o [] (Or.inl rfl) (by rw [b2]; rfl) (by omega) (by rw [b4]; decide)).mono (fun e w' hd => ?_)
 obtain ⟨rfl, T2, c1, c2, c3, c4⟩ := hd
 exact ⟨rfl, ⟨T2, fun x hx => c1 x (a1 x hx), by omega, c3, a4.trans c4⟩, c4⟩
theorem lw_five {T : List Tl} {L : List MG} (h : Lw w0 c wb kb mb n id bal gb gk gm bb Z T L sv w) (hZ : Z ≤ 80000) (hbb : bb ≤ 590000000) (hTl : T.length ≤ 800000) (hb0 : bal ≠ 0)
  (fr : Int) (m0 m1 m2 m3 m4 m5 m6 m7 m8 m9 m10 m11 m12 m13 tx k0 k1 k2 : Value) :
  Calls Tryz.prog 12 #[.pointer (some ⟨wb, 0, none⟩), .agg #[.int .i64 5, .int .i64 fr, m0, m1, m2, m3, m4, m5, m6, m7, m8, m9, m10, m11, m12, m13, tx, k0, k1, k2]] w (zEP w0 c wb kb mb n id bal gb gk gm bb Z T w) := by
 have hl585 := h.sentL
 obtain ⟨av0, _, _, hS0⟩ := h.world
 obtain ⟨sa, sc, rfl⟩ := zAe hS0
 clear hS0
 have hb1 := (Below.refl w.heap.size w).alloc (Nat.le_refl _) (.cells #[.int .i64 5, .int .i64 fr, m0, m1, m2, m3, m4, m5, m6, m7, m8, m9, m10, m11, m12, m13, tx, k0, k1, k2] 35)
 have h1 : LwGo w0 c wb kb mb n id bal gb gk gm bb (Z + 0) T 0 L (.slice sa L.length sc) w _ := (show LwGo w0 c wb kb mb n id bal gb gk gm bb (Z + 0) T 0 L (.slice sa L.length sc) w w from ⟨T, fun x hx => hx, Nat.le_refl _, h, FrW.of_below (Below.refl _ _)⟩).quiet hb1
 have Q1 := Blk.new w [.int .i64 5, .int .i64 fr, m0, m1, m2, m3, m4, m5, m6, m7, m8, m9, m10, m11, m12, m13, tx, k0, k1, k2] 35
 have HH := hid h1
 have HQ := hid Q1
 clear h h1 Q1 hb1
 go_enter Tryz.func12, Tryz.ntmps12
 go_upto_region 14 with fail
 have H0 := HH.out
 have Q0 := HQ.out
 generalize w.alloc (.cells #[.int .i64 5, .int .i64 fr, m0, m1, m2, m3, m4, m5, m6, m7, m8, m9, m10, m11, m12, m13, tx, k0, k1, k2] 35) = w1 at H0 Q0 ⊢
 generalize w.heap.size = q at Q0 ⊢
 have HH1 := hid H0
 have HQ1 := hid Q0
 clear HH HQ H0 Q0
 go_wp2_with fail
 go_loopw [6] (fun i wr => ∃ k : Nat, i = .int .i64 k ∧ k ≤ L.length ∧ Hid (LwGo w0 c wb kb mb n id bal gb gk gm bb (Z + k) T k L (.slice sa L.length sc) w wr) ∧ Hid (Blk wr q [.int .i64 5, .int .i64 fr, m0, m1, m2, m3, m4, m5, m6, m7, m8, m9, m10, m11, m12, m13, tx, k0, k1, k2] 35)) (fun i _ => L.length - (intOf i).toNat)
 case atStart => exact ⟨0, rfl, Nat.zero_le _, HH1, HQ1⟩
 case round =>
  obtain ⟨k, rfl, hk, HS, HQ⟩ := hrel
  clear HH1 HQ1
  obtain ⟨T', t1, t2, hLw, hfw⟩ := HS.out
  obtain ⟨av, hW, hA, hSr⟩ := hLw.world
  by_cases hlt : k < L.length
  ·obtain ⟨g, cap, hsv, hg0, hg, _, _, hcell⟩ := zAz hSr (by omega)
   have hsa : sa = some ⟨g, 0, none⟩ := by injection hsv
   subst hsa
   obtain ⟨m, hm⟩ : ∃ m, L[k]? = some m := ⟨_, List.getElem?_eq_getElem hlt⟩
   have Hm := hid hm
   have hq1 : wr.cell? ⟨q, 1, none⟩ = some (.int .i64 fr) := HQ.out.cell 1
   have hc := hLw.cells hm
   unfold LwC at hc
   obtain ⟨c4, c2, x0, x1, x2, x3, x4, x5, x6, x7, x8, x9, x10, x11, x12, x13⟩ := hc
   clear hcell hW hsv hm hA hSr hLw hfw t1 t2
   by_cases ho : m.to_ = fr
   ·have ho1 : (m.to_ == fr) = true := by rw [beq_iff_eq]; exact ho
    have HRP := hid (fun w' => lreply_any m id w')
    clear ho
    go_upto_region 17 with fail
    go_quiet (fail)
    go_upto_region 18 with fail
    have hn1 := HS.out.quiet (below_drewN (Below.refl _ _) nq)
    have hq2 := HQ.out.drewN nq
    generalize wr.drewN nq = w2 at hn1 hq2 ⊢
    have HS2 := hid (hn1.quiet (Below.refl _ _).drew)
    have HQ2 := hid hq2.drew
    have HFC := hid (show ∀ w' K', LwGo w0 c wb kb mb n id bal gb gk gm bb (Z + K') T K' L (.slice (some ⟨g, 0, none⟩) L.length sc) w w' → (w'.cell? ⟨wb, 4, none⟩ = some (.slice (some ⟨g, 0, none⟩) L.length sc) ∧ w'.cell? ⟨wb, 2, none⟩ = some (.int .i64 id) ∧ w'.cell? ⟨g, k * 14, none⟩ = some (.int .i64 m.k) ∧ w'.cell? ⟨g, k * 14 + 1, none⟩ = some (.int .i64 m.fr) ∧ w'.cell? ⟨g, k * 14 + 2, none⟩ = some (.int .i64 m.to_) ∧ w'.cell? ⟨g, k * 14 + 3, none⟩ = some (.int .i64 m.bal) ∧ w'.cell? ⟨g, k * 14 + 4, none⟩ = some (.int .i64 m.gen) ∧ w'.cell? ⟨g, k * 14 + 5, none⟩ = some (.int .i64 m.bas) ∧ w'.cell? ⟨g, k * 14 + 6, none⟩ = some (.int .i64 m.fl) ∧ w'.cell? ⟨g, k * 14 + 7, none⟩ = some (.int .i64 m.tp) ∧ w'.cell? ⟨g, k * 14 + 8, none⟩ = some (.int .i64 m.rd) ∧ w'.cell? ⟨g, k * 14 + 9, none⟩ = some (.string m.mrk) ∧ w'.cell? ⟨g, k * 14 + 10, none⟩ = some (.int .i64 m.pa) ∧ w'.cell? ⟨g, k * 14 + 11, none⟩ = some (.int .i64 m.po) ∧ w'.cell? ⟨g, k * 14 + 12, none⟩ = some (.string m.pt) ∧ w'.cell? ⟨g, k * 14 + 13, none⟩ = some (.slice m.la m.ll m.lc)) from fun w' K' h' => by
     obtain ⟨T2, _, _, b3, _⟩ := h'
     have := b3.cells Hm.out
     unfold LwC at this
     exact this)
    have hk0 := HFC.out _ _ HS2.out
    have HHD := hid (fun (w' : World) (h' : LwGo w0 c wb kb mb n id bal gb gk gm bb (Z + k) T k L (.slice (some ⟨g, 0, none⟩) L.length sc) w w') (o : MG) (hbo : Bare o) => lw_bare h' (by omega) (by omega) (by omega) hb0 o hbo)
    clear x0 x1 x2 x3 x4 x5 x6 x7 x8 x9 x10 x11 x12 x13 c4 c2 hq1 HS HQ hn1 hq2 ho1
    go_region_held3 (fun w' => w'.cell? ⟨wb, 4, none⟩ = some (.slice (some ⟨g, 0, none⟩) L.length sc) ∧ w'.cell? ⟨wb, 2, none⟩ = some (.int .i64 id) ∧ w'.cell? ⟨g, k * 14, none⟩ = some (.int .i64 m.k) ∧ w'.cell? ⟨g, k * 14 + 1, none⟩ = some (.int .i64 m.fr) ∧ w'.cell? ⟨g, k * 14 + 2, none⟩ = some (.int .i64 m.to_) ∧ w'.cell? ⟨g, k * 14 + 3, none⟩ = some (.int .i64 m.bal) ∧ w'.cell? ⟨g, k * 14 + 4, none⟩ = some (.int .i64 m.gen) ∧ w'.cell? ⟨g, k * 14 + 5, none⟩ = some (.int .i64 m.bas) ∧ w'.cell? ⟨g, k * 14 + 6, none⟩ = some (.int .i64 m.fl) ∧ w'.cell? ⟨g, k * 14 + 7, none⟩ = some (.int .i64 m.tp) ∧ w'.cell? ⟨g, k * 14 + 8, none⟩ = some (.int .i64 m.rd) ∧ w'.cell? ⟨g, k * 14 + 9, none⟩ = some (.string m.mrk) ∧ w'.cell? ⟨g, k * 14 + 10, none⟩ = some (.int .i64 m.pa) ∧ w'.cell? ⟨g, k * 14 + 11, none⟩ = some (.int .i64 m.po) ∧ w'.cell? ⟨g, k * 14 + 12, none⟩ = some (.string m.pt) ∧ w'.cell? ⟨g, k * 14 + 13, none⟩ = some (.slice m.la m.ll m.lc))
     (first | with_reducible exact hk0 | with_reducible exact HFC.out _ _ (by assumption) | go_keep)
     (first
     | (go_at_call 32; refine (HRP.out _).mono ?_; rintro e w3 ⟨o, rfl, hbo, hb3⟩; have hs3 := HS2.out.quiet hb3; have hq3 := HQ2.out.below hb3)
     | (go_at_call 29; refine (HHD.out _ (by assumption) _ hbo).mono ?_; rintro e w4 ⟨rfl, hs4, hf4⟩; have hq4 := hf4.1.1 _ _ _ (by decide) hq3))
    have HS4 := hid hs4
    have HQ4 := hid hq4
    clear hs3 hq3 hb3 hs4 hq4 hf4 HS2 HQ2 hk0 HRP HHD HFC
    go_wp2_with fail
    go_roundw
    case rel => exact ⟨k + 1, by go_num, by omega, HS4, HQ4⟩
    case measure => simp [intOf]; omega
   ·have ho1 : (m.to_ == fr) = false := beq_eq_false_iff_ne.2 ho
    have HS2 := hid HS.out.next
    clear ho x0 x1 x3 x4 x5 x6 x7 x8 x9 x10 x11 x12 x13 c2
    go_upto_region 17 with fail
    go_quiet (fail)
    go_wp2_with fail
    go_roundw
    case rel => exact ⟨k + 1, by go_num, by omega, hid (HS2.out.quiet (below_drewN (Below.refl _ _) _)), hid (HQ.out.drewN _)⟩
    case measure => simp [intOf]; omega
  ·have c4 : wr.cell? ⟨wb, 4, none⟩ = some (.slice sa L.length sc) := hW.cell 4
   obtain rfl : k = L.length := by omega
   clear hW hA hSr hLw hfw t1 t2
   go_wp2_with fail
   go_ret
   exact HS.out.step (FrW.of_below (Below.refl _ _)) (Below.refl _ _) hl585 (by omega) (by omega)
theorem lw_step {T : List Tl} {L : List MG} (h : Lw w0 c wb kb mb n id bal gb gk gm bb Z T L sv w) (hZ : Z ≤ 80000) (hbb : bb ≤ 590000000) (hTl : T.length ≤ 800000) (hb0 : bal ≠ 0)
  (k fr : Int) (m : MG) (es : List Ent) (hes : zBf w0 m.la es) (hel : es.length = m.ll) (hlc : m.ll ≤ m.lc) (hpt : m.pt.size ≤ 9223372036854775807) (tx : ByteArray) (htx : tx.size ≤ maxLen) (k0 k1 k2 : Value) :
  Calls Tryz.prog 12 #[.pointer (some ⟨wb, 0, none⟩), .agg #[.int .i64 k, .int .i64 fr, .int .i64 m.k, .int .i64 m.fr, .int .i64 m.to_, .int .i64 m.bal, .int .i64 m.gen, .int .i64 m.bas, .int .i64 m.fl, .int .i64 m.tp, .int .i64 m.rd, .string m.mrk, .int .i64 m.pa, .int .i64 m.po, .string m.pt, .slice m.la m.ll m.lc, .string tx, k0, k1, k2]] w (zEP w0 c wb kb mb n id bal gb gk gm bb Z T w) := by
 by_cases h0 : k = 0
 ·rw [h0]; exact lw_zero h hZ hbb _ _ _ _ _ _ _ _ _ _ _ _ _ _ _ _ _ _ _
 by_cases h1 : k = 1
 ·rw [h1]; exact lw_one h hZ hbb (by omega) hb0 m es hes hel hlc hpt _ _ _ _ _
 by_cases h2 : k = 2
 ·rw [h2]; exact lw_two h hZ hbb hTl hb0 m es hes hel hlc hpt _ tx htx _ _ _
 by_cases h5 : k = 5
 ·rw [h5]; exact lw_five h hZ hbb hTl hb0 fr _ _ _ _ _ _ _ _ _ _ _ _ _ _ _ _ _ _
 exact lw_other h k ⟨h0, h1, h2, h5⟩ _ _ _ _ _ _ _ _ _ _ _ _ _ _ _ _ _ _ _
def LwR (w0 : World) (c wb kb n : Nat) (id : Int) (T : List Tl) (L : List MG) (sv : Value) (w : World) : Prop :=
 ∃ av, Blk w wb (zCY c kb id (n : Int) sv av) 43 ∧ w.ownsRow w0.heap.size 57 5 av T.length (toldV T) ∧ w.ownsRow w0.heap.size 30 14 sv L.length (msgsV L)
theorem LwR.fr {T : List Tl} {L : List MG} (h : LwR w0 c wb kb n id T L sv w) (f : Fr w0 w w') : LwR w0 c wb kb n id T L sv w' := by
 obtain ⟨av, a1, a2, a3⟩ := h
 exact ⟨av, f.1.1 _ _ _ (by decide) a1, f.1.2 _ _ _ _ _ _ (by decide) a2, f.1.2 _ _ _ _ _ _ (by decide) a3⟩
def zDA (w0 : World) (c kb mb n : Nat) (id bal : Int) (G : Gh) (Z : Nat) (kind : Int) (fs : List TFile) (w : World) : Prop :=
 ∃ (D : Dt) (S : CSt) (K : CalD), D.cal = none ∧ D.ans = none ∧ K.kd = kind ∧ K.fs = fs ∧ zAb w c { S with call := .pointer (some ⟨K.k, 0, none⟩), left := 40 } ∧ Gf w0 c kb mb n id bal G Z D S w ∧ Blk w K.k [.int .i64 K.kd, .int .i64 K.kg, .slice K.ad K.fs.length K.cap] 33 ∧ w.ownsRow 0 65 3 (.slice K.ad K.fs.length K.cap) K.fs.length (zAq K.fs)
theorem zDA.quiet {G : Gh} {fs : List TFile} (h : zDA w0 c kb mb n id bal G Z kind fs w) (hb : Below w.heap.size w w') : zDA w0 c kb mb n id bal G Z kind fs w' := by
 obtain ⟨D, S, K, a1, a2, a3, a4, a5, a6, a7, a8⟩ := h
 exact ⟨D, S, K, a1, a2, a3, a4, a5.below hb, a6.keep (Ts := []) (Keep.of_below hb) ((zAd a6.below hb).mono (Nat.le_refl _)) (fun t _ => by simp), a7.below hb, zAc a8 hb⟩
theorem zDA.close {G : Gh} {fs : List TFile} (h : zDA w0 c kb mb n id bal G Z kind fs w) (hf : zBH fs) (hk : G.gk = kind) (hno : ¬ (kind = 1 ∧ zAy fs = 0 ∧ G.gb)) : Gs w0 c kb mb n id bal G Z w := by
 obtain ⟨D, S, K, a1, a2, a3, a4, a5, a6, a7, a8⟩ := h
 exact ⟨_, _, a5, a6.newCall a1 a2 K a7 a8 (by rw [a4]; exact hf) (by rw [a3, hk]) (fun h1 h2 h3 => absurd ⟨by rw [← a3]; exact h1, by rw [← a4]; exact h2, h3⟩ hno)⟩
theorem zDA.mark {T : List Tl} {fs : List TFile} (h : zDA w0 c kb mb n id bal (zCt gb T gk gm bb) Z 1 fs w) (hf : zBH fs) (hbb : bb ≤ 900000000) (hs : (ba (imgT fs)).size ≤ maxLen) :
  Calls Tryz.prog 11 #[.pointer (some ⟨kb, 0, none⟩), .string (ba (imgT fs))] w fun e w' => ∃ r : ByteArray, e = .returned (.string r) ∧ Gs w0 c kb mb n id bal (zCt gb T 1 r (bb + 1)) Z w' ∧ KeepT [] w w' ∧ Fr w0 w w' := by
 obtain ⟨D, S, K, a1, a2, a3, a4, a5, a6, a7, a8⟩ := h
 have hbl : D.Bk.length ≤ bb := a6.bokL
 refine (zBF kb mb D.Bk (ba (imgT fs)) w a6.bok hs (by omega) a6.bok.self_ne).mono ?_
 rintro e w' ⟨rfl, hK, hT⟩
 obtain ⟨g1, f1, k1⟩ := a6.book hT (seen D.Bk (ba (imgT fs))) hK (Ext.seen _ _) 1 (by have := zAM D.Bk (ba (imgT fs)); show _ ≤ bb + 1; omega)
 have g2 := g1.askGh a1 a2 1 (zAt (seen D.Bk (ba (imgT fs))) (ba (imgT fs))) (fun r v => ∃ x ∈ T, zAE v r x = true)
 refine ⟨_, rfl, ⟨_, _, a5.keep k1 (by simp), g2.newCall a1 a2 K (k1.1 _ _ _ (by simp) a7) (k1.2 _ _ _ _ _ _ (by simp) a8) (by rw [a4]; exact hf) a3 (fun _ _ _ => ?_)⟩, k1, f1⟩
 rw [a4]
 exact ⟨zCN _ _, rfl⟩
def LwAsked (w0 : World) (c wb kb mb n : Nat) (id bal : Int) (gb : Prop) (gk : Int) (gm : ByteArray) (bb Z : Nat) (T : List Tl) (L : List MG) (sv : Value) (G' : Gh) (kind : Int) (fs : List TFile) (w : World) (e : Ending) (w' : World) : Prop :=
 (∃ er : Int, er ≠ 0 ∧ e = .returned (.int .i64 er) ∧ Below w.heap.size w w') ∨
 (e = .returned (.int .i64 0) ∧ Fr w0 w w' ∧ KeepCl w w' ∧ LwR w0 c wb kb n id T L sv w' ∧ (zDA w0 c kb mb n id bal G' Z kind fs w' ∨ ((kind = 1 → zAy fs ≠ 0) ∧ Gs w0 c kb mb n id bal G' Z w')))
theorem lw_ask {T : List Tl} {L : List MG} (h : Lw w0 c wb kb mb n id bal gb gk gm bb Z T L sv w)
  (kind gen : Int) (fa : Option Addr) (fc : Nat) (fs : List TFile) (base : Nat) (hown : w.ownsRow base 65 3 (.slice fa fs.length fc) fs.length (zAq fs)) (hf : zBH fs) (VY : Int → Nat → Prop) :
  Calls Tryz.prog 9 #[.pointer (some ⟨c, 0, none⟩), .agg #[.int .i64 kind, .int .i64 gen, .slice fa fs.length fc]] w (LwAsked w0 c wb kb mb n id bal gb gk gm bb Z T L sv { zCt gb T kind ⟨#[]⟩ bb with VY := VY } kind fs w) := by
 obtain ⟨D, S, hG⟩ := h.gs
 refine (gc_ask hG kind gen fa fc fs base hown hf ⟨#[]⟩ VY).mono (fun e w' hd => ?_)
 rcases hd with hd | ⟨rfl, f, fk, hd⟩
 ·exact Or.inl hd
 ·exact Or.inr ⟨rfl, f, fk, LwR.fr h.world f, hd⟩
def LwTaken (w0 : World) (c wb kb mb n : Nat) (id bal : Int) (gb : Prop) (gk : Int) (gm : ByteArray) (bb Z : Nat) (T : List Tl) (L : List MG) (sv : Value) (w : World) (x : Ending) (w' : World) : Prop :=
 Lw w0 c wb kb mb n id bal gb gk gm bb Z T L sv w' ∧ FrW w0 w w' ∧ (x = .returned zCk ∨ ∃ (e g f : Int) (fa ma : Option Addr) (fl fc ml mc : Nat), x = .returned (.tuple #[.agg #[.int .i64 e, .int .i64 g, .int .i64 f, .slice fa fl fc, .slice ma ml mc], .bool true]) ∧
  (e = 0 → (gk = 1 → gb → n < 2 * (List.range n).countP (fun v => T.any (told8 v g gm))) ∧ (gk ≠ 1 → ∃ r, (∃ x ∈ T, x.rd = r) ∧ n < 2 * (List.range n).countP (fun v => T.any (zAE v r)))))
theorem told_any {T : List Tl} {p : Tl → Bool} (h : ∃ x ∈ T, p x = true) : T.any p = true := List.any_eq_true.2 h
theorem lw_take {T : List Tl} {L : List MG} (h : Lw w0 c wb kb mb n id bal gb gk gm bb Z T L sv w) :
  Calls Tryz.prog 13 #[.pointer (some ⟨c, 0, none⟩)] w (LwTaken w0 c wb kb mb n id bal gb gk gm bb Z T L sv w) := by
 obtain ⟨D, S, hG⟩ := h.gs
 have hn9 := hG.gf.n9
 refine (gc_take hG).mono (fun x w' hd => ?_)
 obtain ⟨g1, f1, hx⟩ := hd
 refine ⟨⟨g1, LwR.fr h.world f1, h.sent, h.sentL, h.wb0⟩, FrW.of_fr f1, ?_⟩
 rcases hx with hx | ⟨e, g, f, fa, ma, fl, fc, ml, mc, hx, hm⟩
 ·exact Or.inl hx
 ·refine Or.inr ⟨e, g, f, fa, ma, fl, fc, ml, mc, hx, fun he => ⟨fun hk hb => ?_, fun hk => ?_⟩⟩
  ·refine zHe hn9 ((hm he).1 hk hb) _ (fun i hi hp => ?_)
   rcases hp with hp | hp
   ·exact absurd hb hp
   ·exact told_any hp
  ·obtain ⟨r, hr⟩ := (hm he).2 hk
   have hc := zHe hn9 hr (fun v => T.any (zAE v r)) (fun i hi hp => told_any hp)
   refine ⟨r, ?_, hc⟩
   have hpos : 0 < (List.range n).countP (fun v => T.any (zAE v r)) := by omega
   obtain ⟨v, _, hv⟩ := List.countP_pos_iff.1 hpos
   obtain ⟨x, hx, hp⟩ := List.any_eq_true.1 hv
   unfold zAE at hp
   exact ⟨x, hx, (of_decide_eq_true hp).2.2⟩
open Go Go.RowKit Go.WideMaps Go.Maps
def peerNew : Peer := ⟨false, 0, 0, 0, ⟨#[]⟩, false, 0, .pointer none⟩
theorem lw_start {wb kb mb c t : Nat} (hn1 : 1 ≤ n) (hn9 : n ≤ 9) (gb : Prop) (gk : Int) (gm : ByteArray) (hW : Blk w1 wb (zFj c kb id (n : Int)) 43) (hbk : zAo w1 kb mb [])
  (hc : zAb w1 c (zEx id (n : Int) stamp (.pointer (some ⟨kb, 0, none⟩)) (.pointer (some ⟨t, 0, none⟩)))) (ht : zAi w1 t (n : Int).toNat (List.replicate 9 false)) (hwb0 : w.heap.size ≤ wb) (hc0 : w.heap.size ≤ c) (ht0 : w.heap.size ≤ t) (hm0 : w.heap.size ≤ mb) (hb : Below w.heap.size w w1) :
  Lw w c wb kb mb n id (stamp * 4 + id) gb gk gm 0 0 [] [] (.slice none 0 0) w1 := by
 have e : (n : Int).toNat = n := Int.toNat_natCast n
 rw [e] at ht
 refine ⟨⟨⟨[], [], [], List.replicate 9 peerNew, [], t, List.replicate 9 false, none, none, none, none, none, none, []⟩, _, hc, ?_⟩, ⟨.slice none 0 0, hW, World.ownsRow_nil _ _ _ _, World.ownsRow_nil _ _ _ _⟩, fun m hm => (by cases hm), Nat.zero_le _, hwb0⟩
 exact {
  id_ := rfl
  n_ := rfl
  n1 := hn1
  n9 := hn9
  bk_ := rfl
  bal_ := rfl
  ph := Or.inr (Or.inl rfl)
  left := ⟨by show -((0 : Nat) : Int) ≤ 0; decide, by show (0 : Int) ≤ 1000; decide⟩
  read := ⟨Int.le_refl _, by show (0 : Int) ≤ ((0 : Nat) : Int); decide⟩
  below := hb
  c0 := hc0
  m0 := hm0
  cho := RAt.nil _ _ _ _
  choL := Nat.zero_le _
  img := RAt.nil _ _ _ _
  imgL := Nat.zero_le _
  imgS := fun x hx => by cases hx
  agn := RAt.nil _ _ _ _
  agnL := Nat.zero_le _
  dif := fun g hg => by cases hg
  prs := by rfl
  prsL := by simp
  pck := fun p hp => Or.inl (by rw [List.eq_of_mem_replicate hp]; rfl)
  prm := rfl
  prmT := ht
  pms := ⟨[], World.ownsRow_nil _ _ _ _, rfl⟩
  pmsL := Nat.zero_le _
  pmsS := fun p hp => by cases hp
  job := rfl
  jobB := fun J hJ => by cases hJ
  cli := fun J hJ => by cases hJ
  fet := rfl
  fetB := fun F hF => by cases hF
  cal := rfl
  calB := fun C hC => by cases hC
  yes := rfl
  yesB := fun t ht => by cases ht
  prn := rfl
  prnB := fun t ht => by cases ht
  ans := rfl
  ansB := fun A hA => by cases hA
  one := Or.inl rfl
  tals := by simp [Dt.tals, JobD.tals, talO]
  talB := fun t' ht' => by
   have : t' = t := by simpa [Dt.tals, JobD.tals, talO] using ht'
   omega
  bok := hbk
  bokL := Nat.zero_le _
  mk1 := fun C hC => by cases hC }
def FreshL (id n stamp : Int) (w : World) (e : Ending) (w' : World) : Prop :=
 ∃ wb bk mp c t, e = .returned (.pointer (some ⟨wb, 0, none⟩)) ∧ Blk w' wb (zFj c bk id n) 43 ∧ zAo w' bk mp [] ∧
  zAb w' c (zEx id n stamp (.pointer (some ⟨bk, 0, none⟩)) (.pointer (some ⟨t, 0, none⟩))) ∧ zAi w' t n.toNat (List.replicate 9 false) ∧ w.heap.size ≤ wb ∧ w.heap.size ≤ c ∧ w.heap.size ≤ t ∧ w.heap.size ≤ mp ∧ Below w.heap.size w w'
theorem fresh_L (id n stamp : Int) (w : World) (h : NewOk id n stamp) : Calls Tryz.prog 6 #[.int .i64 id, .int .i64 n, .int .i64 stamp] w (FreshL id n stamp w) := by
 have hn1 := h.2.1
 have hn9 := h.2.2
 have H := hid h
 clear h
 go_enter Tryz.func6, Tryz.ntmps6
 go_wp2_with fail
 refine (ideal_book w).mono ?_
 rintro e w1 ⟨bk, mp, rfl, hb0, hm0, hbk, hb1⟩
 have Hbk := hid hbk
 clear hbk
 go_wp2_with fail
 refine (zEi id n stamp bk mp _ H.out Hbk.out.at_).mono ?_
 rintro e w2 ⟨c, t, rfl, hc0, ht0, hc, ht, hb2⟩
 have Hc := hid hc
 have Ht := hid ht
 have Hbk2 := hid (Hbk.out.below hb2)
 have hs1 := hb1.size
 have hb02 := zAd hb1 hb2
 clear hc ht hb1 hb2 Hbk
 go_wp2_with fail
 go_ret
 exact ⟨w2.heap.size, bk, mp, c, t, rfl, Blk.new w2 (zFj c bk id n) _, Hbk2.out.below ((Below.refl w2.heap.size w2).alloc (Nat.le_refl _) _), ⟨Hc.out.1.alloc _, Hc.out.2⟩, ⟨Ht.out.1.alloc _, Ht.out.2⟩, hb02.size, by omega, by omega, hm0, hb02.alloc hb02.size _⟩
end Go.Proofs.YtaemlplcjjbamaaGreatDoor
set_option maxRecDepth 100000
set_option maxHeartbeats 8000000
namespace Go.Proofs.YtaemlplcjjbamaaGreatDoor
open Go.Lib (hid)
open Go.RowKit Go.ChangeShapes Go.WideShapes Go.Deep
theorem zFo {α : Type} (p : Nat → α → Prop) (n : Nat) (h : ∀ i, i < n → ∃ x, p i x) : ∃ L : List α, L.length = n ∧ ∀ i (hi : i < L.length), p i L[i] := by
 induction n with
 | zero => exact ⟨[], rfl, fun i hi => absurd hi (by simp)⟩
 | succ n ih =>
  obtain ⟨L, hl, hL⟩ := ih (fun i hi => h i (by omega))
  obtain ⟨x, hx⟩ := h n (by omega)
  refine ⟨L ++ [x], by simp [hl], fun i hi => ?_⟩
  by_cases hin : i < L.length
  ·rw [List.getElem_append_left hin]; exact hL i hin
  ·have : i = L.length := by simp at hi; omega
   subst this
   rw [List.getElem_append_right (Nat.le_refl _)]
   simp
   rw [hl]; exact hx
section
variable {H : Type} {enc : TypeId × Value → H} {P : Program} {w : World} {base : Nat} {spare : Nat → Bool} {held : Bool}
theorem zDL {t e : TypeId} {fs : Array Field} {fuel : Nat} {cs : List Value} {x : DataW H × List MemPlace} (ht : P.underlying t = some (.slice e)) (he : P.underlying e = some (.struct fs))
  (hone : oneCellFields P fs = true) (hC : P.cellsOf e = fs.size) (h : DataW.trod enc P w base spare held fuel t cs = some x) :
  ∃ (ad : Option Addr) (len cap : Nat), cs = [.slice ad len cap] ∧ len ≤ cap ∧ cap ≤ maxLen ∧ (ad = none → len = 0) ∧
   ∀ i, i < len → ∃ a, ad = some a ∧ ∀ (j : Nat) (f : Field), fs[j]? = some f → ∃ (v : Value) (y : DataW H × List MemPlace) (n : Nat), w.cell? (a.add (i * fs.size + j)) = some v ∧ DataW.trod enc P w base spare held n f.type [v] = some y := by
 rcases open_slice ht h with ⟨h0, _⟩ | ⟨a, len, cap, m, n, D, Pl, hcs, hb, hl, hm, hmm, hx, hi⟩
 ·exact ⟨none, 0, 0, h0, Nat.le_refl _, Nat.zero_le _, fun _ => rfl, fun i hi => absurd hi (by omega)⟩
 ·refine ⟨some a, len, cap, hcs, hl, hm, fun h => by (cases h), fun i hil => ⟨a, rfl, fun j f hj => ?_⟩⟩
  have him : i < m := by rw [hmm]; split <;> omega
  obtain ⟨cs', hc, ht'⟩ := hi i him
  rw [hC] at hc
  obtain ⟨ys, n', hn', hy, hlen, hyl, hf⟩ := DataW.trod_struct he ht'
  obtain ⟨_, hcl, hat⟩ := World.cells?_some hc
  obtain ⟨ho, hk⟩ := hone_of hone j f hj
  have hjl : j < fs.size := (Array.getElem?_eq_some_iff.1 hj).1
  have hcell := hat j hjl
  have hv : cs'[j]? = some (cs'[j]'(by omega)) := List.getElem?_eq_getElem (by omega)
  have h1 := hf j f hj
  rw [ho, hk] at h1
  have hone' : (cs'.drop j).take 1 = [cs'[j]'(by omega)] := by
   rw [List.drop_eq_getElem_cons (by omega)]
   rfl
  rw [hone'] at h1
  have hys : ys[j]? = some (ys[j]'(by omega)) := List.getElem?_eq_getElem (by omega)
  refine ⟨_, _, n', ?_, h1.trans hys⟩
  rw [← Go.Deep.add_add, hcell, hv]
end
theorem zIo {w : World} {a : Addr} {v : Value} (h : w.cell? a = some v) : ∃ b off, a = ⟨b, off, none⟩ ∧ b < w.heap.size ∧ ∀ j, a.add j = ⟨b, off + j, none⟩ := by
 have hlt := World.block_lt_of_cell? w _ h
 obtain ⟨b, off, spot⟩ := a
 have hspot : spot = none := by simpa using World.cell?_spot h
 subst hspot
 refine ⟨b, off, rfl, hlt, fun j => ?_⟩
 unfold Addr.add
 split
 ·subst j; rfl
 ·rfl
theorem zCX {H : Type} {enc : TypeId × Value → H} {P : Program} {w : World} {base : Nat} {spare : Nat → Bool} {held : Bool}
  {t e : TypeId} {fs : Array Field} {fuel : Nat} {cs : List Value} {x : DataW H × List MemPlace} (ht : P.underlying t = some (.slice e)) (he : P.underlying e = some (.struct fs))
  (hone : oneCellFields P fs = true) (hC : P.cellsOf e = fs.size) (hpos : 0 < fs.size) (h : DataW.trod enc P w base spare held fuel t cs = some x) :
  ∃ (ad : Option Addr) (len cap : Nat), cs = [.slice ad len cap] ∧ len ≤ cap ∧ cap ≤ maxLen ∧ (ad = none → len = 0) ∧
   (0 < len → ∃ b off, ad = some ⟨b, off, none⟩ ∧ b < w.heap.size ∧ ∀ i, i < len → ∀ (j : Nat) (f : Field), fs[j]? = some f → ∃ (v : Value) (y : DataW H × List MemPlace) (n : Nat), w.cell? ⟨b, off + (i * fs.size + j), none⟩ = some v ∧ DataW.trod enc P w base spare held n f.type [v] = some y) := by
 obtain ⟨ad, len, cap, rfl, hl, hm, hnil, hall⟩ := zDL ht he hone hC h
 refine ⟨ad, len, cap, rfl, hl, hm, hnil, fun h0 => ?_⟩
 obtain ⟨a, rfl, hf⟩ := hall 0 h0
 obtain ⟨v0, y0, n0, c0, t0⟩ := hf 0 (fs[0]'hpos) (Array.getElem?_eq_getElem hpos)
 have c0' : w.cell? a = some v0 := by
  have e : a.add (0 * fs.size + 0) = a := by simp [Addr.add]
  rw [← e]; exact c0
 obtain ⟨b, off, rfl, hb, hadd⟩ := zIo c0'
 refine ⟨b, off, rfl, hb, fun i hi j f hj => ?_⟩
 obtain ⟨a', ha', hf'⟩ := hall i hi
 cases ha'
 obtain ⟨v, y, n, c, t⟩ := hf' j f hj
 rw [hadd] at c
 exact ⟨v, y, n, c, t⟩
theorem open_files {H : Type} {enc : TypeId × Value → H} {w : World} {base : Nat} {spare : Nat → Bool} {held : Bool} {fuel : Nat} {cs : List Value} {x : DataW H × List MemPlace} (h : DataW.trod enc Tryz.prog w base spare held fuel 31 cs = some x) :
  ∃ (ad : Option Addr) (cap : Nat) (L : List TFile), cs = [.slice ad L.length cap] ∧ L.length ≤ cap ∧ cap ≤ maxLen ∧ TfsAt w ad L ∧ ∀ f ∈ L, f.path.size ≤ maxLen ∧ f.data.size ≤ maxLen := by
 obtain ⟨ad, len, cap, rfl, hl, hm, hnil, hall⟩ := zCX Tryz.underlying31 Tryz.underlying65 (by kernel_rfl) (by kernel_rfl) (by decide) h
 by_cases h0 : len = 0
 ·subst h0; exact ⟨ad, cap, [], rfl, Nat.zero_le _, hm, Or.inl rfl, fun f hf => by cases hf⟩
 ·obtain ⟨b, off, rfl, hb, hf⟩ := hall (by omega)
  obtain ⟨L, hL, hp⟩ := zFo (fun i (x : TFile) => (w.cell? ⟨b, off + i * 3, none⟩ = some (.string x.path) ∧ w.cell? ⟨b, off + i * 3 + 1, none⟩ = some (.int .i64 x.mode) ∧ w.cell? ⟨b, off + i * 3 + 2, none⟩ = some (.string x.data)) ∧ x.path.size ≤ maxLen ∧ x.data.size ≤ maxLen) len (by
   intro i hi
   obtain ⟨v0, y0, n0, c0, t0⟩ := hf i hi 0 _ rfl
   obtain ⟨v1, y1, n1, c1, t1⟩ := hf i hi 1 _ rfl
   obtain ⟨v2, y2, n2, c2, t2⟩ := hf i hi 2 _ rfl
   obtain ⟨z0, e0, _, s0⟩ := DataW.trod_string Tryz.underlying9 t0
   obtain ⟨z1, e1, _, _⟩ := DataW.trod_int Tryz.underlying3 t1
   obtain ⟨z2, e2, _, s2⟩ := DataW.trod_string Tryz.underlying9 t2
   simp at e0 e1 e2
   subst e0 e1 e2
   exact ⟨⟨z0, z1, z2⟩, ⟨c0, c1, c2⟩, s0, s2⟩)
  refine ⟨_, cap, L, by rw [hL], by omega, hm, Or.inr ⟨b, off, rfl, hb, fun k hk => (hp k hk).1⟩, fun f hf => ?_⟩
  obtain ⟨k, hk, rfl⟩ := List.getElem_of_mem hf
  exact (hp k hk).2
end Go.Proofs.YtaemlplcjjbamaaGreatDoor
set_option maxRecDepth 100000
set_option maxHeartbeats 8000000
namespace Go.Proofs.YtaemlplcjjbamaaGreatDoor
open Go.Lib (hid)
open Go.RowKit Go.ChangeShapes Go.WideShapes Go.Deep
section
variable {H : Type} {enc : TypeId × Value → H} {P : Program} {w : World} {base : Nat} {spare : Nat → Bool} {held : Bool}
theorem zCR {t : TypeId} {fs : Array Field} {fuel : Nat} {cs : List Value} {x : DataW H × List MemPlace} (ht : P.underlying t = some (.struct fs)) (h : DataW.trod enc P w base spare held fuel t cs = some x)
  (j : Nat) (f : Field) (hj : fs[j]? = some f) (h1 : P.cellsOf f.type = 1) (hl : f.offset < P.cellsOf t) : ∃ (v : Value) (y : DataW H × List MemPlace) (n : Nat), cs[f.offset]? = some v ∧ DataW.trod enc P w base spare held n f.type [v] = some y := by
 obtain ⟨ys, n', hn', hy, hlen, hyl, hf⟩ := DataW.trod_struct ht h
 have hjl : j < fs.size := (Array.getElem?_eq_some_iff.1 hj).1
 have hv : cs[f.offset]? = some (cs[f.offset]'(by omega)) := List.getElem?_eq_getElem (by omega)
 have h2 := hf j f hj
 have hone : (cs.drop f.offset).take 1 = [cs[f.offset]'(by omega)] := by
  rw [List.drop_eq_getElem_cons (by omega)]
  rfl
 rw [h1, hone] at h2
 have hys : ys[j]? = some (ys[j]'(by omega)) := List.getElem?_eq_getElem (by omega)
 exact ⟨_, _, n', hv, h2.trans hys⟩
theorem list20 {α : Type} (l : List α) (h : l.length = 20) : ∃ a0 a1 a2 a3 a4 a5 a6 a7 a8 a9 a10 a11 a12 a13 a14 a15 a16 a17 a18 a19, l = [a0, a1, a2, a3, a4, a5, a6, a7, a8, a9, a10, a11, a12, a13, a14, a15, a16, a17, a18, a19] := by
 match l, h with
 | [a0, a1, a2, a3, a4, a5, a6, a7, a8, a9, a10, a11, a12, a13, a14, a15, a16, a17, a18, a19], _ => exact ⟨a0, a1, a2, a3, a4, a5, a6, a7, a8, a9, a10, a11, a12, a13, a14, a15, a16, a17, a18, a19, rfl⟩
end
end Go.Proofs.YtaemlplcjjbamaaGreatDoor
set_option maxRecDepth 100000
set_option maxHeartbeats 8000000
namespace Go.Proofs.YtaemlplcjjbamaaGreatDoor
open Go.Lib (hid)
open Go.RowKit Go.ChangeShapes Go.WideShapes Go.Deep
def zIM (kd fr : Int) (m : MG) (tx : ByteArray) (ck cg : Int) (fa : Option Addr) (fl fc : Nat) : List Value := [.int .i64 kd, .int .i64 fr, .int .i64 m.k, .int .i64 m.fr, .int .i64 m.to_, .int .i64 m.bal, .int .i64 m.gen, .int .i64 m.bas, .int .i64 m.fl, .int .i64 m.tp, .int .i64 m.rd, .string m.mrk, .int .i64 m.pa, .int .i64 m.po, .string m.pt, .slice m.la m.ll m.lc, .string tx, .int .i64 ck, .int .i64 cg, .slice fa fl fc]
structure GOpOk (w : World) (m : MG) (es : List Ent) (tx : ByteArray) (fa : Option Addr) (fc : Nat) (fs : List TFile) : Prop where
 ents : zBf w m.la es
 len : es.length = m.ll
 cap : m.ll ≤ m.lc
 part : m.pt.size ≤ maxLen
 text : tx.size ≤ maxLen
 files : TfsAt w fa fs
 fcap : fs.length ≤ fc ∧ fc ≤ maxLen
 sizes : ∀ f ∈ fs, f.path.size ≤ maxLen ∧ f.data.size ≤ maxLen
def GOpAt (w : World) (b o : Nat) : Prop := ∃ (kd fr : Int) (m : MG) (es : List Ent) (tx : ByteArray) (ck cg : Int) (fa : Option Addr) (fc : Nat) (fs : List TFile), (∀ j v, (zIM kd fr m tx ck cg fa fs.length fc)[j]? = some v → w.cell? ⟨b, o + j, none⟩ = some v) ∧ GOpOk w m es tx fa fc fs
def zHP (w : World) (ad : Option Addr) (n : Nat) : Prop := n = 0 ∨ ∃ b off, ad = some ⟨b, off, none⟩ ∧ b < w.heap.size ∧ ∀ i, i < n → GOpAt w b (off + i * 20)
section
variable {H : Type} {enc : TypeId × Value → H} {P : Program} {w : World} {base : Nat} {spare : Nat → Bool} {held : Bool}
theorem zGt {t : TypeId} {fs : Array Field} {fuel : Nat} {cs : List Value} {x : DataW H × List MemPlace} (ht : P.underlying t = some (.struct fs)) (h : DataW.trod enc P w base spare held fuel t cs = some x)
  (j : Nat) (f : Field) (hj : fs[j]? = some f) : ∃ (y : DataW H × List MemPlace) (n : Nat), DataW.trod enc P w base spare held n f.type ((cs.drop f.offset).take (P.cellsOf f.type)) = some y := by
 obtain ⟨ys, n', hn', hy, hlen, hyl, hf⟩ := DataW.trod_struct ht h
 have hjl : j < fs.size := (Array.getElem?_eq_some_iff.1 hj).1
 have h2 := hf j f hj
 have hys : ys[j]? = some (ys[j]'(by omega)) := List.getElem?_eq_getElem (by omega)
 exact ⟨_, n', h2.trans hys⟩
end
theorem open_ents2 {H : Type} {enc : TypeId × Value → H} {w : World} {base : Nat} {spare : Nat → Bool} {held : Bool} {fuel : Nat} {cs : List Value} {x : DataW H × List MemPlace} (h : DataW.trod enc Tryz.prog w base spare held fuel 28 cs = some x) :
  ∃ (ad : Option Addr) (cap : Nat) (L : List Ent), cs = [.slice ad L.length cap] ∧ L.length ≤ cap ∧ cap ≤ maxLen ∧ zBf w ad L := by
 obtain ⟨ad, len, cap, rfl, hl, hm, hnil, hall⟩ := zCX Tryz.underlying28 Tryz.underlying102 (by kernel_rfl) (by kernel_rfl) (by decide) h
 by_cases h0 : len = 0
 ·subst h0; exact ⟨ad, cap, [], rfl, Nat.zero_le _, hm, Or.inl rfl⟩
 ·obtain ⟨b, off, rfl, hb, hf⟩ := hall (by omega)
  obtain ⟨L, hL, hp⟩ := zFo (fun i (x : Ent) => w.cell? ⟨b, off + i * 3, none⟩ = some (.int .i64 x.gen) ∧ w.cell? ⟨b, off + i * 3 + 1, none⟩ = some (.int .i64 x.bal) ∧ w.cell? ⟨b, off + i * 3 + 2, none⟩ = some (.string x.mark)) len (by
   intro i hi
   obtain ⟨v0, y0, n0, c0, t0⟩ := hf i hi 0 _ rfl
   obtain ⟨v1, y1, n1, c1, t1⟩ := hf i hi 1 _ rfl
   obtain ⟨v2, y2, n2, c2, t2⟩ := hf i hi 2 _ rfl
   obtain ⟨z0, e0, _, _⟩ := DataW.trod_int Tryz.underlying3 t0
   obtain ⟨z1, e1, _, _⟩ := DataW.trod_int Tryz.underlying3 t1
   obtain ⟨z2, e2, _, _⟩ := DataW.trod_string Tryz.underlying9 t2
   simp at e0 e1 e2
   subst e0 e1 e2
   exact ⟨⟨z0, z1, z2⟩, c0, c1, c2⟩)
  exact ⟨_, cap, L, by rw [hL], by omega, hm, Or.inr ⟨b, off, rfl, hb, hp⟩⟩
theorem zBc {H : Type} {enc : TypeId × Value → H} {w : World} {base : Nat} {spare : Nat → Bool} {held : Bool} {t : TypeId} {fs : Array Field} {fuel : Nat} {cs : List Value} {x : DataW H × List MemPlace} (ht : Tryz.prog.underlying t = some (.struct fs)) (h : DataW.trod enc Tryz.prog w base spare held fuel t cs = some x)
  (j : Nat) (f : Field) (hj : fs[j]? = some f) (h1 : Tryz.prog.cellsOf f.type = 1) (hl : f.offset < Tryz.prog.cellsOf t) (hty : f.type = 3) : ∃ z : Int, cs[f.offset]? = some (.int .i64 z) := by
 obtain ⟨v, y, n, c, t1⟩ := zCR ht h j f hj h1 hl
 rw [hty] at t1
 obtain ⟨z, e, _, _⟩ := DataW.trod_int Tryz.underlying3 t1
 simp at e
 subst e
 exact ⟨z, c⟩
theorem zIZ {H : Type} {enc : TypeId × Value → H} {w : World} {base : Nat} {spare : Nat → Bool} {held : Bool} {t : TypeId} {fs : Array Field} {fuel : Nat} {cs : List Value} {x : DataW H × List MemPlace} (ht : Tryz.prog.underlying t = some (.struct fs)) (h : DataW.trod enc Tryz.prog w base spare held fuel t cs = some x)
  (j : Nat) (f : Field) (hj : fs[j]? = some f) (h1 : Tryz.prog.cellsOf f.type = 1) (hl : f.offset < Tryz.prog.cellsOf t) (hty : f.type = 9) : ∃ z : ByteArray, cs[f.offset]? = some (.string z) ∧ z.size ≤ maxLen := by
 obtain ⟨v, y, n, c, t1⟩ := zCR ht h j f hj h1 hl
 rw [hty] at t1
 obtain ⟨z, e, _, s⟩ := DataW.trod_string Tryz.underlying9 t1
 simp at e
 subst e
 exact ⟨z, c, s⟩
theorem open_gop {H : Type} {enc : TypeId × Value → H} {w : World} {base : Nat} {spare : Nat → Bool} {held : Bool} {fuel : Nat} {cs : List Value} {x : DataW H × List MemPlace} (h : DataW.trod enc Tryz.prog w base spare held fuel 35 cs = some x) (hlen : cs.length = 20) :
  ∃ (kd fr : Int) (m : MG) (es : List Ent) (tx : ByteArray) (ck cg : Int) (fa : Option Addr) (fc : Nat) (fs : List TFile), cs = zIM kd fr m tx ck cg fa fs.length fc ∧ GOpOk w m es tx fa fc fs := by
 have hO := Tryz.underlying35
 have hM := Tryz.underlying30
 have hP := Tryz.underlying27
 have hC := Tryz.underlying33
 have nO : Tryz.prog.cellsOf 35 = 20 := by kernel_rfl
 have nM : Tryz.prog.cellsOf 30 = 14 := by kernel_rfl
 have nP : Tryz.prog.cellsOf 27 = 3 := by kernel_rfl
 have nC : Tryz.prog.cellsOf 33 = 3 := by kernel_rfl
 obtain ⟨a0, a1, a2, a3, a4, a5, a6, a7, a8, a9, a10, a11, a12, a13, a14, a15, a16, a17, a18, a19, rfl⟩ := list20 cs hlen
 obtain ⟨z0, c0⟩ := zBc hO h 0 _ rfl (by kernel_rfl) (by rw [nO]; decide) rfl
 obtain ⟨z1, c1⟩ := zBc hO h 1 _ rfl (by kernel_rfl) (by rw [nO]; decide) rfl
 obtain ⟨tx, ct, st⟩ := zIZ hO h 3 _ rfl (by kernel_rfl) (by rw [nO]; decide) rfl
 obtain ⟨ym, nm, hm⟩ := zGt hO h 2 _ rfl
 obtain ⟨yc, nc, hc⟩ := zGt hO h 4 _ rfl
 have hm' : DataW.trod enc Tryz.prog w base spare held nm 30 (([a0, a1, a2, a3, a4, a5, a6, a7, a8, a9, a10, a11, a12, a13, a14, a15, a16, a17, a18, a19].drop 2).take (Tryz.prog.cellsOf 30)) = some ym := hm
 rw [nM] at hm'
 replace hm' : DataW.trod enc Tryz.prog w base spare held nm 30 [a2, a3, a4, a5, a6, a7, a8, a9, a10, a11, a12, a13, a14, a15] = some ym := hm'
 have hc' : DataW.trod enc Tryz.prog w base spare held nc 33 (([a0, a1, a2, a3, a4, a5, a6, a7, a8, a9, a10, a11, a12, a13, a14, a15, a16, a17, a18, a19].drop 17).take (Tryz.prog.cellsOf 33)) = some yc := hc
 rw [nC] at hc'
 replace hc' : DataW.trod enc Tryz.prog w base spare held nc 33 [a17, a18, a19] = some yc := hc'
 clear hm hc h
 obtain ⟨m0, d0⟩ := zBc hM hm' 0 _ rfl (by kernel_rfl) (by rw [nM]; decide) rfl
 obtain ⟨m1, d1⟩ := zBc hM hm' 1 _ rfl (by kernel_rfl) (by rw [nM]; decide) rfl
 obtain ⟨m2, d2⟩ := zBc hM hm' 2 _ rfl (by kernel_rfl) (by rw [nM]; decide) rfl
 obtain ⟨m3, d3⟩ := zBc hM hm' 3 _ rfl (by kernel_rfl) (by rw [nM]; decide) rfl
 obtain ⟨m4, d4⟩ := zBc hM hm' 4 _ rfl (by kernel_rfl) (by rw [nM]; decide) rfl
 obtain ⟨m5, d5⟩ := zBc hM hm' 5 _ rfl (by kernel_rfl) (by rw [nM]; decide) rfl
 obtain ⟨m6, d6⟩ := zBc hM hm' 6 _ rfl (by kernel_rfl) (by rw [nM]; decide) rfl
 obtain ⟨m7, d7⟩ := zBc hM hm' 7 _ rfl (by kernel_rfl) (by rw [nM]; decide) rfl
 obtain ⟨m8, d8⟩ := zBc hM hm' 8 _ rfl (by kernel_rfl) (by rw [nM]; decide) rfl
 obtain ⟨mk, d9, _⟩ := zIZ hM hm' 9 _ rfl (by kernel_rfl) (by rw [nM]; decide) rfl
 obtain ⟨yp, np, hp⟩ := zGt hM hm' 10 _ rfl
 obtain ⟨vl, yl, nl, d13, tl⟩ := zCR hM hm' 11 _ rfl (by kernel_rfl) (by rw [nM]; decide)
 obtain ⟨la, lc, es, el, hl1, hl2, hes⟩ := open_ents2 tl
 have hp' : DataW.trod enc Tryz.prog w base spare held np 27 (([a2, a3, a4, a5, a6, a7, a8, a9, a10, a11, a12, a13, a14, a15].drop 10).take (Tryz.prog.cellsOf 27)) = some yp := hp
 rw [nP] at hp'
 replace hp' : DataW.trod enc Tryz.prog w base spare held np 27 [a12, a13, a14] = some yp := hp'
 obtain ⟨pa, d10⟩ := zBc hP hp' 0 _ rfl (by kernel_rfl) (by rw [nP]; decide) rfl
 obtain ⟨po, d11⟩ := zBc hP hp' 1 _ rfl (by kernel_rfl) (by rw [nP]; decide) rfl
 obtain ⟨pt, d12, sp⟩ := zIZ hP hp' 2 _ rfl (by kernel_rfl) (by rw [nP]; decide) rfl
 obtain ⟨ck, k0⟩ := zBc hC hc' 0 _ rfl (by kernel_rfl) (by rw [nC]; decide) rfl
 obtain ⟨cg, k1⟩ := zBc hC hc' 1 _ rfl (by kernel_rfl) (by rw [nC]; decide) rfl
 obtain ⟨vf, yf, nf, k2, tf⟩ := zCR hC hc' 2 _ rfl (by kernel_rfl) (by rw [nC]; decide)
 obtain ⟨fa, fc, fs, ef, hf1, hf2, hft, hfs⟩ := open_files tf
 clear hm' hc' hp hp' tl tf
 simp at el ef
 subst el ef
 have e0 : a0 = .int .i64 z0 := by simpa using c0
 have e1 : a1 = .int .i64 z1 := by simpa using c1
 have f0 : a2 = .int .i64 m0 := by simpa using d0
 have f1 : a3 = .int .i64 m1 := by simpa using d1
 have f2 : a4 = .int .i64 m2 := by simpa using d2
 have f3 : a5 = .int .i64 m3 := by simpa using d3
 have f4 : a6 = .int .i64 m4 := by simpa using d4
 have f5 : a7 = .int .i64 m5 := by simpa using d5
 have f6 : a8 = .int .i64 m6 := by simpa using d6
 have f7 : a9 = .int .i64 m7 := by simpa using d7
 have f8 : a10 = .int .i64 m8 := by simpa using d8
 have f9 : a11 = .string mk := by simpa using d9
 have f10 : a12 = .int .i64 pa := by simpa using d10
 have f11 : a13 = .int .i64 po := by simpa using d11
 have f12 : a14 = .string pt := by simpa using d12
 have f13 : a15 = .slice la es.length lc := by simpa using d13
 have et : a16 = .string tx := by simpa using ct
 have g0 : a17 = .int .i64 ck := by simpa using k0
 have g1 : a18 = .int .i64 cg := by simpa using k1
 have g2 : a19 = .slice fa fs.length fc := by simpa using k2
 subst e0 e1 f0 f1 f2 f3 f4 f5 f6 f7 f8 f9 f10 f11 f12 f13 et g0 g1 g2
 exact ⟨z0, z1, ⟨m0, m1, m2, m3, m4, m5, m6, m7, m8, mk, pa, po, pt, la, es.length, lc⟩, es, tx, ck, cg, fa, fc, fs, rfl, ⟨hes, rfl, hl1, sp, st, hft, ⟨hf1, hf2⟩, hfs⟩⟩
theorem zHt {H : Type} {enc : TypeId × Value → H} {w : World} {base : Nat} {spare : Nat → Bool} {held : Bool} {fuel : Nat} {cs : List Value} {x : DataW H × List MemPlace} (h : DataW.trod enc Tryz.prog w base spare held fuel 22 cs = some x) :
  ∃ (ad : Option Addr) (len cap : Nat), cs = [.slice ad len cap] ∧ len ≤ cap ∧ cap ≤ maxLen ∧ zHP w ad len := by
 rcases open_slice Tryz.underlying22 h with ⟨h0, _⟩ | ⟨a, len, cap, m, n, D, Pl, hcs, hb, hl, hm, hmm, hx, hi⟩
 ·exact ⟨none, 0, 0, h0, Nat.le_refl _, Nat.zero_le _, Or.inl rfl⟩
 ·refine ⟨some a, len, cap, hcs, hl, hm, ?_⟩
  by_cases h0 : len = 0
  ·exact Or.inl h0
  ·have hC : Tryz.prog.cellsOf 35 = 20 := by kernel_rfl
   have hat : ∀ i, i < len → ∃ (kd fr : Int) (m : MG) (es : List Ent) (tx : ByteArray) (ck cg : Int) (fa : Option Addr) (fc : Nat) (fs : List TFile), (∀ (j : Nat) (v : Value), (zIM kd fr m tx ck cg fa fs.length fc)[j]? = some v → w.cell? (a.add (i * 20 + j)) = some v) ∧ GOpOk w m es tx fa fc fs := by
    intro i hil
    have him : i < m := by rw [hmm]; split <;> omega
    obtain ⟨cs', hc, ht'⟩ := hi i him
    rw [hC] at hc
    obtain ⟨_, hcl, hatc⟩ := World.cells?_some hc
    obtain ⟨kd, fr, mm, es, tx, ck, cg, fa, fc, fs, rfl, hok⟩ := open_gop ht' hcl
    refine ⟨kd, fr, mm, es, tx, ck, cg, fa, fc, fs, fun j v hj => ?_, hok⟩
    have hjl : j < 20 := (List.getElem?_eq_some_iff.1 hj).1
    rw [← Go.Deep.add_add, hatc j hjl]
    exact hj
   obtain ⟨kd, fr, mm, es, tx, ck, cg, fa, fc, fs, hall, _⟩ := hat 0 (by omega)
   have c0' : w.cell? a = some (.int .i64 kd) := by
    have e : a.add (0 * 20 + 0) = a := by simp [Addr.add]
    rw [← e]; exact hall 0 _ rfl
   obtain ⟨b, off, rfl, hbb, hadd⟩ := zIo c0'
   refine Or.inr ⟨b, off, rfl, hbb, fun i hil => ?_⟩
   obtain ⟨kd, fr, mm, es, tx, ck, cg, fa, fc, fs, hall, hok⟩ := hat i hil
   refine ⟨kd, fr, mm, es, tx, ck, cg, fa, fc, fs, fun j v hj => ?_, hok⟩
   have h := hall j v hj
   rw [hadd, ← Nat.add_assoc] at h
   exact h
end Go.Proofs.YtaemlplcjjbamaaGreatDoor

