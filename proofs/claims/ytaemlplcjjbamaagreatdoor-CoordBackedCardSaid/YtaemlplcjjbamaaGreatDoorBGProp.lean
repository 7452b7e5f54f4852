/- The walk of a coordinator's prunedBy in whatever state. No c -/
import Derived.Test.YtaemlplcjjbamaaGreatDoorBGAcc
namespace Go.Proofs.YtaemlplcjjbamaaGreatDoor
open Go.Lib (hid)
set_option maxRecDepth 100000
set_option maxHeartbeats 8000000
open Go Go.RowKit
set_option linter.unusedVariables false
variable {T : TypeId} {Z base c cap g kb mb n off sz : Nat} {bal id : Int} {w w' w0 : World} {x y z : List Nat} {xs : List Value}
theorem nodup_last {a : Nat} (h : (a :: (x ++ (y ++ z))).Nodup) : (a :: (x ++ (y ++ []))).Nodup := by
 rw [List.append_nil]
 rw [← List.append_assoc, ← List.cons_append] at h
 exact (List.nodup_append.1 h).1
theorem Gf.noPrn {G : Gh} {D : Dt} {S : CSt} (h : Gf w0 c kb mb n id bal G Z D S w) : Gf w0 c kb mb n id bal G Z { D with prn := none } { S with pruned := .pointer none } w :=
 { h with
  prn := rfl
  prnB := fun t ht => by cases ht
  tals := nodup_last h.tals
  talB := fun t ht => h.talB t (by
   unfold Dt.tals at ht ⊢
   simp only [talO, List.append_nil, List.mem_cons, List.mem_append] at ht ⊢
   rcases ht with e | e | e
   ·exact Or.inl e
   ·exact Or.inr (Or.inl e)
   ·exact Or.inr (Or.inr (Or.inl e))) }
theorem tals_prn {D : Dt} {t : Nat × List Bool} (h : D.tals.Nodup) (hD : D.prn = some t) : ¬ t.1 ∈ ({ D with prn := none } : Dt).tals := by
 unfold Dt.tals at h ⊢
 rw [hD] at h
 rw [← List.append_assoc, ← List.cons_append] at h
 have := (List.nodup_append.1 h).2.2
 intro e
 exact this t.1 (by simpa [talO] using e) t.1 (by simp [talO]) rfl
theorem Gf.setPrn {G : Gh} {D : Dt} {S : CSt} (h : Gf w0 c kb mb n id bal G Z D S w) (t : Nat × List Bool) (hD : D.prn = some t) (m' : List Bool) (hT : Touch (fun k => k = t.1) w w') (hm : zAi w' t.1 n m') :
  Gf w0 c kb mb n id bal G Z { D with prn := some (t.1, m') } S w' ∧ Fr w0 w w' := by
 obtain ⟨b1, b2⟩ := h.prnB t hD
 have hb : w0.heap.size ≤ t.1 := h.talB _ (by unfold Dt.tals; rw [hD]; simp [talO])
 obtain ⟨g1, g2, g3⟩ := h.noPrn.tallyX t.1 t.2 b1 hb hT (tals_prn h.tals hD)
 exact ⟨{ g1 with
  prn := by rw [h.prn, hD]; rfl
  prnB := fun t' e => by
   injection e with e
   subst e
   exact ⟨hm, b2⟩
  tals := by have := h.tals; unfold Dt.tals at this ⊢; rw [hD] at this; exact this
  talB := fun t ht => h.talB t (by unfold Dt.tals at ht ⊢; rw [hD]; exact ht) }, g2⟩
theorem Gf.floorS {G : Gh} {D : Dt} {S : CSt} (h : Gf w0 c kb mb n id bal G Z D S w) (f : Int) : Gf w0 c kb mb n id bal G Z D { S with floor := f } w := { h with ph := h.ph }
def choLen (c : Nat) (w : World) : Nat := match w.cell? ⟨c, 7, none⟩ with | some (.slice _ n _) => n | _ => 0
theorem zGO (h : RAt w base T sz (.slice (Option.some ⟨g, off, none⟩) n cap) n xs) (hn : 1 ≤ n) : RAt w base T sz (.slice (if cap = 1 then Option.some ⟨g, off, none⟩ else Option.some ⟨g, off + sz, none⟩) (n - 1) (cap - 1)) (n - 1) (xs.drop sz) := by
 have := h.cut 1 hn
 rw [Nat.one_mul] at this
 have e : ((Option.some ⟨g, off, none⟩ : Option Addr).map (·.add sz)) = Option.some ⟨g, off + sz, none⟩ := by
  simp only [Option.map_some, Option.some.injEq]
  unfold Addr.add
  split <;> simp_all
 rw [e] at this
 exact this
theorem zFG (l : List Ent) : zAs (l.drop 1) = (zAs l).drop 3 := by
 cases l <;> rfl
theorem zEX {G : Gh} {D : Dt} {S : CSt} (h : Gc w0 c kb mb n id bal G Z D S w) (v : Nat) (kind to' bal2 mg basis fl tp rd pa po : Int) (mm pt : ByteArray) (ls : Value) :
  Calls Tryz.prog 82 #[.pointer (some ⟨c, 0, none⟩), .agg #[.int .i64 kind, .int .i64 (v : Int), .int .i64 to', .int .i64 bal2, .int .i64 mg, .int .i64 basis, .int .i64 fl, .int .i64 tp, .int .i64 rd, .string mm, .int .i64 pa, .int .i64 po, .string pt, ls]] w fun x w' => x = .returned (.tuple #[]) ∧ Gs w0 c kb mb n id bal G Z w' ∧ Fr w0 w w' := by
 have hbl := h.at_.1.lt
 have H0 := hid h
 have HB := hid ((Below.refl w.heap.size w).alloc (Nat.le_refl _) (.cells #[.int .i64 kind, .int .i64 (v : Int), .int .i64 to', .int .i64 bal2, .int .i64 mg, .int .i64 basis, .int .i64 fl, .int .i64 tp, .int .i64 rd, .string mm, .int .i64 pa, .int .i64 po, .string pt, ls] 30))
 have c86 : w.cell? ⟨c, 86, none⟩ = some S.call := h.at_.ft 2
 have c90 : w.cell? ⟨c, 90, none⟩ = some S.pruned := h.at_.ft 6
 by_cases hk : kind = 16
 ·cases hp : D.prn with
  | none =>
   rw [show S.pruned = .pointer none by rw [h.gf.prn, hp]; rfl] at c90
   have hkb : (kind != 16) = false := by rw [hk]; rfl
   clear h hk hp
   go_enter Tryz.func82, Tryz.ntmps82
   go_wp2
   go_quiet (fail)
   go_wp2
   refine bodyPost_ret (results_none rfl _ _ _) rfl ?_
   have hq := below_drewN HB.out nq
   exact ⟨rfl, ⟨D, S, H0.out.quiet hq⟩, Fr.of_below hq⟩
  | some t =>
   obtain ⟨a1, a2, a3, a4⟩ := h.gf.prnB t hp
   have hsp : S.pruned = .pointer (some ⟨t.1, 0, none⟩) := by rw [h.gf.prn, hp]; rfl
   cases hc : D.cal with
   | none => exact absurd hc a2
   | some K =>
    obtain ⟨k1, k2, k3, k4, k5⟩ := h.gf.calB K hc
    have hsc : S.call = .pointer (some ⟨K.k, 0, none⟩) := by rw [h.gf.cal, hc]; rfl
    have kg : w.cell? ⟨K.k, 1, none⟩ = some (.int .i64 K.kg) := k1.cell 1
    have hkl := k1.lt
    have hkt : K.k ≠ t.1 := k1.ne a1.1 (by decide)
    have hkc : K.k ≠ c := k1.ne h.at_.1 (by decide)
    have hct : c ≠ t.1 := h.at_.1.ne a1.1 (by decide)
    have hkb : (kind != 16) = false := by rw [hk]; rfl
    rw [hsp] at c90
    rw [hsc] at c86
    have Hsp := hid hsp
    have Hsc := hid hsc
    have HA1 := hid a1
    have HMj := hid (And.intro a3 a4)
    have HK1 := hid k1
    have Hpt := hid hp
    have htl := a1.1.lt
    have Hkk := hid hk
    have Q1 := hid (Blk.new w [.int .i64 kind, .int .i64 (v : Int), .int .i64 to', .int .i64 bal2, .int .i64 mg, .int .i64 basis, .int .i64 fl, .int .i64 tp, .int .i64 rd, .string mm, .int .i64 pa, .int .i64 po, .string pt, ls] 30)
    clear h hsp hsc a1 a2 a3 a4 k1 k2 k3 k4 k5 hk hp hc
    by_cases hlt : fl < K.kg
    ·go_enter Tryz.func82, Tryz.ntmps82
     go_wp2
     go_quiet (fail)
     go_wp2
     refine bodyPost_ret (results_none rfl _ _ _) rfl ?_
     have hq := below_drewN HB.out nq
     exact ⟨rfl, ⟨D, S, H0.out.quiet hq⟩, Fr.of_below hq⟩
    ·go_enter Tryz.func82, Tryz.ntmps82
     go_wp2
     go_quiet (fail)
     go_wp2_with fail
     have b1 := below_drewN HB.out nq
     have q1 := Q1.out.drewN nq
     generalize (w.alloc (.cells #[.int .i64 kind, .int .i64 (v : Int), .int .i64 to', .int .i64 bal2, .int .i64 mg, .int .i64 basis, .int .i64 fl, .int .i64 tp, .int .i64 rd, .string mm, .int .i64 pa, .int .i64 po, .string pt, ls] 30)).drewN nq = w1 at b1 q1 ⊢
     obtain ⟨q, hq⟩ : ∃ q, q = w.heap.size := ⟨_, rfl⟩
     rw [← hq] at q1 ⊢
     obtain ⟨ta, hta⟩ : ∃ ta, ta = t.1 := ⟨_, rfl⟩
     rw [← hta] at HA1 hct hkt Hsp htl ⊢
     have hqt : q ≠ ta := by omega
     have G1 := hid (H0.out.quiet b1)
     have HF1 := hid (Fr.of_below (w0 := w0) b1)
     have HK2 := hid (HK1.out.below b1)
     have HT1 := hid (zBk HA1.out b1)
     have HQ1 := hid q1
     have Hta := hid hta
     clear b1 q1 HB Q1 H0 HK1 HA1 c86 c90 kg hq hta
     have HK := hid (fun w' (hb : Below w1.heap.size w1 w') => (And.intro (show w'.cell? ⟨c, 90, none⟩ = some (.pointer (some ⟨ta, 0, none⟩)) by rw [← Hsp.out]; exact (G1.out.at_.below hb).ft 6) (show w'.cell? ⟨q, 1, none⟩ = some (.int .i64 (v : Int)) from (HQ1.out.below hb).cell 1)))
     have hk0 := HK.out w1.drew (Below.refl _ _).drew
     obtain ⟨m', hm'⟩ : ∃ m', m' = addTo t.2 (v : Int) n := ⟨_, rfl⟩
     have HAd := hid (zDS ta n t.2 (v : Int) w1.drew HT1.out)
     rw [← hm'] at HAd
     clear hm'
     go_region_held3 (fun w' => w'.cell? ⟨c, 90, none⟩ = some (.pointer (some ⟨ta, 0, none⟩)) ∧ w'.cell? ⟨q, 1, none⟩ = some (.int .i64 (v : Int)))
      (first | with_reducible exact hk0 | with_reducible exact hk2 | go_keep)
      ((go_at_call 83; refine HAd.out.mono ?_; rintro e w2 ⟨rfl, hT2, ht2⟩; have hk2 : w2.cell? ⟨c, 90, none⟩ = some (.pointer (some ⟨ta, 0, none⟩)) ∧ w2.cell? ⟨q, 1, none⟩ = some (.int .i64 (v : Int)) := ⟨by rw [← Hsp.out]; exact zAb.ft ⟨G1.out.at_.drew.1.touch ht2 hct, G1.out.at_.2⟩ 6, (HQ1.out.drew.touch ht2 hqt).cell 1⟩))
     obtain ⟨g2, f2⟩ := (G1.out.quiet (Below.refl _ _).drew).gf.setPrn t Hpt.out m' (by rw [← Hta.out]; exact ht2) (by rw [← Hta.out]; exact hT2)
     have hG2 : Gc w0 c kb mb n id bal G Z { D with prn := some (t.1, m') } S w2 := ⟨⟨G1.out.at_.drew.1.touch ht2 hct, G1.out.at_.2⟩, g2⟩
     have HF2 := hid ((HF1.out.trans (Fr.of_below (Below.refl _ _).drew)).trans f2)
     have HT2 := hid hT2
     have c90 := hk2.1
     have HK3 := hid (HK2.out.drew.touch ht2 hkt)
     have G2 := hid hG2
     clear hG2 hT2 ht2 hk2 hk0 HK HAd G1 HF1 HT1 HQ1 HK2 g2 f2
     have HW := hid (zFi ta n m' w2 HT2.out)
     obtain ⟨wb, hwb⟩ : ∃ wb, wb = wonT m' n := ⟨_, rfl⟩
     rw [← hwb] at HW
     clear hwb
     go_wp2_with fail
     refine HW.out.mono ?_
     clear HW
     rintro e w3 ⟨rfl, k, rfl⟩
     have HbD := hid (below_drewN (Below.refl w2.heap.size w2) k)
     cases wb with
     | false =>
      go_wp2_with fail
      refine bodyPost_ret (results_none rfl _ _ _) rfl ?_
      exact ⟨rfl, ⟨_, _, G2.out.quiet HbD.out⟩, HF2.out.trans (Fr.of_below HbD.out)⟩
     | true =>
      have HG3 := hid (G2.out.quiet HbD.out)
      have HF3 := hid (HF2.out.trans (Fr.of_below HbD.out))
      have HK4 := hid (HK3.out.drewN k)
      clear G2 HF2 HT2 HK3 HbD
      generalize w2.drewN k = w4 at HG3 HF3 HK4 ⊢
      have c86 : w4.cell? ⟨c, 86, none⟩ = some (.pointer (some ⟨K.k, 0, none⟩)) := by rw [← Hsc.out]; exact HG3.out.at_.ft 2
      have c5 : w4.cell? ⟨c, 5, none⟩ = some (.int .i64 S.floor) := HG3.out.at_.hd 5 (by omega)
      have k1 : w4.cell? ⟨K.k, 1, none⟩ = some (.int .i64 K.kg) := HK4.out.cell 1
      have f5 := HG3.out.at_.1.free 5
      have hl4 := HG3.out.at_.1.lt
      have hkl4 := HK4.out.lt
      clear c90
      go_wp2_with fail
      go_region
      have G5 := hid (show Gs w0 c kb mb n id bal G Z ((w4.setCell ⟨c, 5, none⟩ (.int .i64 (max S.floor K.kg))).drew) ∧ Fr w0 w ((w4.setCell ⟨c, 5, none⟩ (.int .i64 (max S.floor K.kg))).drew) from by
       have T5 : Touch (fun k => k = c) w4 ((w4.setCell ⟨c, 5, none⟩ (.int .i64 (max S.floor K.kg))).drew) := (zAa (Touch.refl _ _) _).drew
       obtain ⟨g5, f5⟩ := HG3.out.gf.coord HG3.out.at_ T5
       exact ⟨⟨_, _, zAb.drew (HG3.out.at_.setFloor _), g5.floorS _⟩, HF3.out.trans f5⟩)
      clear HG3 HF3 HK4 c86 c5 k1 f5 hl4 hkl4 Hsp Hsc
      generalize ((w4.setCell ⟨c, 5, none⟩ (.int .i64 (max S.floor K.kg))).drew) = w5 at G5 ⊢
      go_wp2_with fail
      go_loopw [] (fun wr => Hid (Gs w0 c kb mb n id bal G Z wr ∧ Fr w0 w wr)) (fun wr => choLen c wr)
      case atStart => exact G5
      case round =>
       obtain ⟨⟨D1, S1, g1⟩, f1⟩ := hrel.out
       obtain ⟨ia, ic, hi⟩ := RAt.shape g1.gf.cho
       have G1 := hid g1
       have F1 := hid f1
       have Hi := hid hi
       have hr := g1.gf.cho
       rw [hi] at hr
       have c7 : wr.cell? ⟨c, 7, none⟩ = some (.slice ia D1.l.length ic) := by rw [← hi]; exact g1.at_.hd 7 (by omega)
       have c5 : wr.cell? ⟨c, 5, none⟩ = some (.int .i64 S1.floor) := g1.at_.hd 5 (by omega)
       have f7 := g1.at_.1.free 7
       have hlr := g1.at_.1.lt
       have Hcl := hid (show choLen c wr = D1.l.length by unfold choLen; rw [c7])
       obtain ⟨m, hm⟩ : ∃ m, m = D1.l.length := ⟨_, rfl⟩
       rw [← hm] at hr c7 Hi Hcl
       have Hm := hid hm
       clear g1 f1 hi hrel
       by_cases hm0 : 0 < m
       ·obtain ⟨g, off, cap, hv0, hg2, hg3, hg4, hg6, hg5⟩ := RAt.some hr hm0
        simp only [Value.slice.injEq] at hv0
        obtain ⟨rfl, _, rfl⟩ := hv0
        obtain ⟨x, hx⟩ : ∃ x, D1.l[0]? = some x := ⟨_, List.getElem?_eq_getElem (by omega)⟩
        obtain ⟨v1, v2, v3⟩ := zBQ hx
        have e1 : wr.cell? ⟨g, off, none⟩ = some (.int .i64 x.gen) := (hg5 0 (by omega)).trans v1
        have HR := hid hr
        clear hg5 v1 v2 v3 hx hr hm
        by_cases hxf : x.gen < S1.floor
        ·go_wp2_with fail
         go_quiet (fail)
         go_wp2_with fail
         have hq := below_drewN (Below.refl wr.heap.size wr) nq
         have g2 := G1.out.quiet hq
         have T7 : Touch (fun k => k = c) (wr.drewN nq) ((wr.drewN nq).setCell ⟨c, 7, none⟩ (.slice (if ic = 1 then some ⟨g, off, none⟩ else some ⟨g, off + 3, none⟩) (m - 1) (ic - 1))) := zAa (Touch.refl _ _) _
         have hC := g2.at_.setChosen (.slice (if ic = 1 then some ⟨g, off, none⟩ else some ⟨g, off + 3, none⟩) (m - 1) (ic - 1))
         have hgc : g ≠ c := fun e => by
          obtain ⟨cs, hb⟩ := HR.out.blk (g := g) rfl
          exact hb.ne G1.out.at_.1 (by decide) e
         have hR := (zGO (HR.out.below hq) (by omega)).touch T7 (fun k hk e => by
          have : k = g := by
           split at hk <;> (simp [Value.ownBlock] at hk; omega)
          omega)
         obtain ⟨g3, f3⟩ := g2.gf.chosen (Z' := Z) g2.at_ (T7.mono (fun k _ e => Or.inl e)) (.slice (if ic = 1 then some ⟨g, off, none⟩ else some ⟨g, off + 3, none⟩) (m - 1) (ic - 1)) (D1.l.drop 1) S1.top (by rw [List.length_drop, ← Hm.out, zFG]; exact hR) (fun k hk => Or.inl (by
          rw [Hi.out]
          split at hk <;> (simp [Value.ownBlock] at hk ⊢; omega))) (by have := G1.out.gf.choL; rw [List.length_drop]; omega) (Nat.le_refl _)
         refine ⟨hid ⟨⟨_, _, hC, g3⟩, (F1.out.trans (Fr.of_below hq)).trans f3⟩, ?_⟩
         rw [Hcl.out]
         unfold choLen
         rw [hC.hd 7 (by omega)]
         show m - 1 < m
         omega
        ·go_wp2_with fail
         go_quiet (fail)
         go_wp2_with fail
         clear c7 c5 f7 e1 HR
         have hq := below_drewN (Below.refl wr.heap.size wr) nq
         have G6 := hid (G1.out.quiet hq)
         have HF6 := hid (F1.out.trans (Fr.of_below hq))
         clear hq
         generalize wr.drewN nq = w6 at G6 HF6 ⊢
         have HEnd := hid (fun w' (hb : Below w6.heap.size w6 w') => zDR (G6.out.quiet hb) 0 S1.top S1.floor none none 0 0 0 0 (fun _ _ => ⟨fun e => absurd e HMj.out.1, fun _ => HMj.out.2⟩))
         have HK := hid (fun w' (hb : Below w6.heap.size w6 w') => (And.intro (show w'.cell? ⟨c, 6, none⟩ = some (.int .i64 S1.top) from (G6.out.at_.below hb).hd 6 (by omega)) (show w'.cell? ⟨c, 5, none⟩ = some (.int .i64 S1.floor) from (G6.out.at_.below hb).hd 5 (by omega))))
         have hk0 := HK.out w6.drew (Below.refl _ _).drew
         have hl6 := G6.out.at_.1.lt
         go_region_held3 (fun w' => w'.cell? ⟨c, 6, none⟩ = some (.int .i64 S1.top) ∧ w'.cell? ⟨c, 5, none⟩ = some (.int .i64 S1.floor))
          (first | with_reducible exact hk0 | with_reducible exact hk7 | go_keep)
          ((go_at_call 21; refine (HEnd.out _ (Below.refl _ _).drew).mono ?_; rintro x w7 ⟨rfl, ⟨D7, S7, h7, hfl, htp⟩, hf7, hkt7⟩; have hk7 : w7.cell? ⟨c, 6, none⟩ = some (.int .i64 S1.top) ∧ w7.cell? ⟨c, 5, none⟩ = some (.int .i64 S1.floor) := ⟨by have := h7.at_.hd 6 (by omega); rw [this]; show some (Value.int .i64 S7.top) = _; rw [htp], by have := h7.at_.hd 5 (by omega); rw [this]; show some (Value.int .i64 S7.floor) = _; rw [hfl]⟩))
         have H7 := hid h7
         have HF7 := hid ((HF6.out.trans (Fr.of_below (Below.refl _ _).drew)).trans hf7)
         clear h7 hfl htp hf7 hkt7 hk7 HEnd HK
         go_wp2_with fail
         go_end0
         exact ⟨rfl, ⟨_, _, H7.out⟩, HF7.out⟩
       ·have hmz : m = 0 := by omega
        rw [hmz] at c7
        clear hr hm
        go_wp2_with fail
        go_quiet (fail)
        go_wp2_with fail
        clear c7 c5 f7
        have hq := below_drewN (Below.refl wr.heap.size wr) nq
        have G6 := hid (G1.out.quiet hq)
        have HF6 := hid (F1.out.trans (Fr.of_below hq))
        clear hq
        generalize wr.drewN nq = w6 at G6 HF6 ⊢
        have HEnd := hid (fun w' (hb : Below w6.heap.size w6 w') => zDR (G6.out.quiet hb) 0 S1.top S1.floor none none 0 0 0 0 (fun _ _ => ⟨fun e => absurd e HMj.out.1, fun _ => HMj.out.2⟩))
        have HK := hid (fun w' (hb : Below w6.heap.size w6 w') => (And.intro (show w'.cell? ⟨c, 6, none⟩ = some (.int .i64 S1.top) from (G6.out.at_.below hb).hd 6 (by omega)) (show w'.cell? ⟨c, 5, none⟩ = some (.int .i64 S1.floor) from (G6.out.at_.below hb).hd 5 (by omega))))
        have hk0 := HK.out w6.drew (Below.refl _ _).drew
        have hl6 := G6.out.at_.1.lt
        go_region_held3 (fun w' => w'.cell? ⟨c, 6, none⟩ = some (.int .i64 S1.top) ∧ w'.cell? ⟨c, 5, none⟩ = some (.int .i64 S1.floor))
         (first | with_reducible exact hk0 | with_reducible exact hk7 | go_keep)
         ((go_at_call 21; refine (HEnd.out _ (Below.refl _ _).drew).mono ?_; rintro x w7 ⟨rfl, ⟨D7, S7, h7, hfl, htp⟩, hf7, hkt7⟩; have hk7 : w7.cell? ⟨c, 6, none⟩ = some (.int .i64 S1.top) ∧ w7.cell? ⟨c, 5, none⟩ = some (.int .i64 S1.floor) := ⟨by have := h7.at_.hd 6 (by omega); rw [this]; show some (Value.int .i64 S7.top) = _; rw [htp], by have := h7.at_.hd 5 (by omega); rw [this]; show some (Value.int .i64 S7.floor) = _; rw [hfl]⟩))
        have H7 := hid h7
        have HF7 := hid ((HF6.out.trans (Fr.of_below (Below.refl _ _).drew)).trans hf7)
        clear h7 hfl htp hf7 hkt7 hk7 HEnd HK
        go_wp2_with fail
        go_end0
        exact ⟨rfl, ⟨_, _, H7.out⟩, HF7.out⟩
 ·have hkb : (kind != 16) = true := by rw [bne_iff_ne]; exact hk
  clear h hk
  go_enter Tryz.func82, Tryz.ntmps82
  go_wp2
  go_quiet (fail)
  go_wp2
  refine bodyPost_ret (results_none rfl _ _ _) rfl ?_
  have hq := below_drewN HB.out nq
  exact ⟨rfl, ⟨D, S, H0.out.quiet hq⟩, Fr.of_below hq⟩
attribute [local go_sem ↓] Go.wp_at_zero Go.wp_at_succ
theorem Gf.images {G : Gh} {D : Dt} {S : CSt} (h : Gf w0 c kb mb n id bal G Z D S w) (hc : zAb w c S) (hT : Touch (fun q => q = c ∨ S.images.ownBlock = some q) w w') (v : Value) (I : List (Int × List UInt8))
  (hr : RAt w' w0.heap.size 151 2 v I.length (knV I)) (hl : I.length ≤ 32) (hs : Sml I) :
  Gf w0 c kb mb n id bal G Z { D with I := I } { S with images := v } w' ∧ Fr w0 w w' ∧ KeepT [78, 151] w w' := by
 have hty : ∀ q, q < w.heap.size → (q = c ∨ S.images.ownBlock = some q) → Tyd [78, 151] w q := fun q _ hq => by
  rcases hq with rfl | hq
  ·exact Tyd.blk hc.1 (by simp)
  ·obtain ⟨cs, hb⟩ := h.img.blk hq
   exact Tyd.blk hb (by simp)
 have hk : Keep [78, 151] w w' := Keep.of_touch hT hty (by decide)
 have hc0 := h.c0
 have hab : Abw w0 w w' := hT.mono (fun q _ hq => by
  rcases hq with rfl | hq
  ·omega
  ·exact (h.img.lt q hq).1)
 have hg0 : Gf w0 c kb mb n id bal G Z { D with I := [] } { S with images := .slice none 0 0 } w := { h with
  img := RAt.nil _ _ _ _
  imgL := Nat.zero_le _
  imgS := fun x hx => by cases hx }
 have hg1 := hg0.keepX hk.1 (hab.below h.below) (hk.2 _ _ _ h.bok) (known := fun _ => RAt.nil _ _ _ _)
 exact ⟨{ hg1 with
  img := hr
  imgL := hl
  imgS := hs }, ⟨hk.1.mono (by decide), hab⟩, hk.1⟩
def GKnowSays (w0 : World) (c kb mb n : Nat) (id bal : Int) (G : Gh) (Z : Nat) (D : Dt) (S : CSt) (w : World) (x : Ending) (w' : World) : Prop :=
 x = .returned (.tuple #[]) ∧ (∃ I' v', Gc w0 c kb mb n id bal G Z { D with I := I' } { S with images := v' } w') ∧ Fr w0 w w' ∧ KeepT [78, 151] w w'
theorem gc_know {G : Gh} {D : Dt} {S : CSt} (h : Gc w0 c kb mb n id bal G Z D S w) (g : Int) (T : List UInt8) (hT : T.length ≤ 524288) :
  Calls Tryz.prog 88 #[.pointer (some ⟨c, 0, none⟩), .int .i64 g, .string (ba T)] w (GKnowSays w0 c kb mb n id bal G Z D S w) := by
 have hbl := h.at_.1.lt
 have hr := h.gf.img
 have hl := h.gf.imgL
 have hs : Sml D.I := h.gf.imgS
 have hbase := h.gf.below.size
 obtain ⟨ia, ic, hi⟩ := RAt.shape hr
 have Hi := hid hi
 rw [hi] at hr
 have hmf : ∀ (fn : Fn) (first cap : Array Value) (w : World), (Instr.makeFunc fn first cap).run Tryz.prog w = .ok (.func fn first cap) w := fun _ _ _ _ => rfl
 have H0 := hid h
 have HT := hid hT
 have HB0 := hid ((Below.refl w.heap.size w).alloc (Nat.le_refl _) (.cells #[.int .i64 g] 3))
 have HQ0 := hid (Blk.new w [.int .i64 g] 3)
 have HC0 := hid (h.at_.alloc (.cells #[.int .i64 g] 3))
 have HR0 := hid (hr.below ((Below.refl w.heap.size w).alloc (Nat.le_refl _) (.cells #[.int .i64 g] 3)))
 have Hlt := hid (fun k (hk : (Value.slice ia D.I.length ic).ownBlock = some k) => (hr.lt k hk).2)
 obtain ⟨m, hm⟩ : ∃ m, m = D.I.length := ⟨_, rfl⟩
 rw [← hm] at Hi HR0 hl Hlt
 have Hm := hid hm
 have HS := hid hs
 clear h hr hi hs hT
 go_enter Tryz.func88, Tryz.ntmps88
 go_upto_region 1 with fail
 have B0 := HB0.out
 have Q0 := HQ0.out
 have C0 := HC0.out
 have R0 := HR0.out
 clear HB0 HQ0 HC0 HR0
 generalize w.alloc (.cells #[.int .i64 g] 3) = w1 at B0 Q0 C0 R0 ⊢
 obtain ⟨q, hq⟩ : ∃ q, q = w.heap.size := ⟨_, rfl⟩
 rw [← hq] at Q0 Hlt ⊢
 have hqb : c < q := by omega
 have HQ := hid hq
 have hql := Q0.lt
 have HD := hid (gdelKn (.slice ia m ic) w0.heap.size q D.I g w1 (by rw [← Hm.out]; exact R0) (by omega) HS.out (Q0.cell 0) hql (fun e => by have := Hlt.out q e; omega))
 have c8 : w1.cell? ⟨c, 8, none⟩ = some (.slice ia m ic) := by rw [← Hi.out]; exact C0.hd 8 (by omega)
 have HB0 := hid B0
 have HQ0 := hid Q0
 have HC0 := hid C0
 have HR0 := hid R0
 clear B0 Q0 C0 R0 hq hm HS
 go_wp2_with fail
 refine HD.out.mono ?_
 rintro e w2 ⟨ad, cap, I2, rfl, hR, hlI, hsI, hob, hTd⟩
 have hnc : (Value.slice ia m ic).ownBlock ≠ some c := fun e => by
  obtain ⟨cs, hb⟩ := HR0.out.blk e
  exact hb.ne HC0.out.1 (by decide) rfl
 have C1 : zAb w2 c S := ⟨HC0.out.1.touch hTd (fun e => hnc e), HC0.out.2⟩
 have TT1 := hid (((Touch.of_below (S := fun k => (Value.slice ia m ic).ownBlock = some k) HB0.out).trans hTd).mono (S' := fun k => k = c ∨ S.images.ownBlock = some k) (fun k _ e => Or.inr (by rw [Hi.out]; exact e)))
 have HC1 := hid C1
 have HR1 := hid hR
 have hnc2 : (Value.slice ad I2.length cap).ownBlock ≠ some c := fun e => hnc (hob c e)
 have c81 : w2.cell? ⟨c, 8, none⟩ = some (.slice ia m ic) := by rw [← Hi.out]; exact C1.hd 8 (by omega)
 have f8 := C1.1.free 8
 have hl2 := C1.1.lt
 have Q1 := HQ0.out.touch hTd (fun e => by have := Hlt.out q e; omega)
 have HSI := hid hsI
 have Hob := hid hob
 obtain ⟨m2, hm2⟩ : ∃ m2, m2 = I2.length := ⟨_, rfl⟩
 rw [← hm2] at HR1 hlI hnc2 Hob ⊢
 have Hm2 := hid hm2
 have hm2l : m2 ≤ 32 := by rw [hm2]; have := Hm.out; omega
 clear HD HB0 HQ0 HC0 HR0 c8 C1 hTd hR hsI hob hm2
 have C2 := HC1.out.setImages (.slice ad m2 cap)
 have T2 : Touch (fun k => k = c) w2 (w2.setCell ⟨c, 8, none⟩ (.slice ad m2 cap)) := zAa (Touch.refl _ _) _
 have R2 := HR1.out.touch T2 (fun k hk e => hnc2 (by rw [hk, e]))
 have Q2 := Q1.set_other (a := ⟨c, 8, none⟩) (by show q ≠ c; omega) (.slice ad m2 cap)
 have HC2 := hid C2
 have HR2 := hid R2
 have HQ2 := hid Q2
 have TT2 := hid (TT1.out.trans (T2.mono (fun k _ e => Or.inl e)))
 clear C2 T2 R2 Q1 Q2 HC1 HR1 TT1
 go_wp2_with fail
 generalize w2.setCell ⟨c, 8, none⟩ (.slice ad m2 cap) = w3 at HC2 HR2 HQ2 TT2 ⊢
 clear c81 f8 hl2
 have hown3 := HR2.out
 have HAt3 := HC2
 have d8 : w3.cell? ⟨c, 8, none⟩ = some (.slice ad m2 cap) := HAt3.out.hd 8 (by omega)
 have q0 : w3.cell? ⟨q, 0, none⟩ = some (.int .i64 g) := HQ2.out.cell 0
 have f8 := HAt3.out.1.free 8
 have hfa : ∀ o : Obj, (w3.alloc o).drew.frozen? ⟨c, 8, none⟩ = false := fun o => (HAt3.out.1.alloc o).drew.free 8
 have hfb : ∀ o : Obj, (w3.alloc o).frozen? ⟨c, 8, none⟩ = false := fun o => (HAt3.out.1.alloc o).free 8
 have hbl3 := HAt3.out.1.lt
 have hql3 := HQ2.out.lt
 have hsz3 := TT2.out.size
 have hbase3 : w0.heap.size ≤ w3.heap.size := Nat.le_trans hbase hsz3
 go_cut [] (fun wx => ∃ v', Hid (zAb wx c { S with images := v' }) ∧ Hid (RAt wx w0.heap.size 151 2 v' (m2 + 1) (knV I2 ++ [.int .i64 g, .string (ba T)])) ∧ Hid (Touch (fun k => k = c ∨ S.images.ownBlock = some k) w wx))
 case first =>
  go_region_law
    ((refine zCJ (by rfl) _ _ _ (by rfl) w0.heap.size 151 2 24 Tryz.underlying66 _ info_kn rfl (by omega) (by omega) (.slice ad m2 cap) m2 (knV I2) (by rfl) (hown3.below (((Below.refl _ _).alloc (Nat.le_refl _) _).drew)) w3.heap.size [.int .i64 g, .string (ba T)] (by rfl) (Blk.new w3 [.int .i64 g, .string (ba T)] 151).drew (by rfl) (by simp [Value.oneCell']) (by omega) (by simp; omega) ?_; intro ad4 cap4 w4 hown4 hgrow hat; have hc4 := hgrow.cell_far ⟨c, 8, none⟩ (by simp; omega) (Ne.symm hnc2); have hf4 := hgrow.frozen_far ⟨c, 8, none⟩ (by simp; omega) (Ne.symm hnc2)))
  all_goals go_wp2_with fail
  all_goals go_meet
  all_goals
   have hgc : ∀ g, (Value.slice ad4 (m2 + 1) cap4).ownBlock = some g → g ≠ c := fun g hg => by
    rcases hat with e | e
    ·intro e2; exact hnc2 (by rw [← e, hg, e2])
    ·rw [hg] at e; injection e with e; simp at e; omega
   have q1 := (((HAt3.out.alloc (.cells #[.int .i64 g, .string (ba T)] 151)).drew).grown hgrow hnc2).setImages (.slice ad4 (m2 + 1) cap4)
   refine ⟨_, hid q1, hid ?_, hid ?_⟩
   ·exact hown4.touch ((Touch.refl (fun k => k = c) w4).set (p := ⟨c, 8, none⟩) (Or.inl rfl) _) (fun g hg e => hgc g hg e)
   ·exact (zAm (((TT2.out).alloc (.cells #[.int .i64 g, .string (ba T)] 151)).drew) hgrow (fun g hg => Or.inl (Or.inr (by rw [Hi.out]; exact Hob.out g hg)))).set (p := ⟨c, 8, none⟩) (Or.inl (Or.inl rfl)) _
 case rest =>
  obtain ⟨v', HC5, HR5, HT5⟩ := hcut
  clear d8 q0 hown3 hnc hnc2 f8 hfa hfb HAt3 HC2 HR2 HQ2 TT2
  obtain ⟨a5, c5, rfl⟩ := RAt.shape HR5.out
  have e8 : wc.cell? ⟨c, 8, none⟩ = some (.slice a5 (m2 + 1) c5) := HC5.out.hd 8 (by omega)
  have f8 := HC5.out.1.free 8
  have hl5 := HC5.out.1.lt
  by_cases hle : (32 : Int) < ((m2 : Int) + 1)
  ·obtain ⟨gg, off, cap5, hv0, hg2, hg3, hg4, hg6, hg5⟩ := RAt.some HR5.out (by omega)
   simp only [Value.slice.injEq] at hv0
   obtain ⟨rfl, _, rfl⟩ := hv0
   have hle3 : (32 : Int) < ((m2 + 1 : Nat) : Int) := by omega
   clear hg5
   go_wp2_with fail
   go_end0
   have hL : (I2 ++ [(g, T)]).length = m2 + 1 := by rw [List.length_append, ← Hm2.out]; rfl
   have T6 : Touch (fun k => k = c) wc (wc.setCell ⟨c, 8, none⟩ (.slice (some ⟨gg, off + 2, none⟩) m2 (c5 - 1))) := zAa (Touch.refl _ _) _
   have hgc : gg ≠ c := fun e => by
    obtain ⟨cs, hb⟩ := HR5.out.blk (g := gg) rfl
    exact hb.ne HC5.out.1 (by decide) e
   have hR := (zGO HR5.out (by omega)).touch T6 (fun k hk e => by
    rw [if_neg (by omega)] at hk
    simp [Value.ownBlock] at hk
    omega)
   rw [if_neg (by omega), ← knV_snoc I2 (g, T), Nat.add_sub_cancel] at hR
   have hd : (knV (I2 ++ [(g, T)])).drop 2 = knV ((I2 ++ [(g, T)]).drop 1) := by
    cases I2 ++ [(g, T)] <;> rfl
   rw [hd] at hR
   have hL1 : ((I2 ++ [(g, T)]).drop 1).length = m2 := by rw [List.length_drop, hL]; rfl
   obtain ⟨g1, g2, g3⟩ := H0.out.gf.images H0.out.at_ (HT5.out.trans (T6.mono (fun k _ e => Or.inl e))) (.slice (some ⟨gg, off + 2, none⟩) m2 (c5 - 1)) ((I2 ++ [(g, T)]).drop 1) (by rw [hL1]; exact hR) (by rw [hL1]; omega) (fun x hx => by
    rcases List.mem_append.1 (List.mem_of_mem_drop hx) with e | e
    ·exact HSI.out x e
    ·rw [List.mem_singleton.1 e]; exact HT.out)
   exact ⟨rfl, ⟨_, _, HC5.out.setImages _, g1⟩, g2, g3⟩
  ·have hle3 : ¬ (32 : Int) < ((m2 + 1 : Nat) : Int) := by omega
   go_wp2_with fail
   go_end0
   have hL : (I2 ++ [(g, T)]).length = m2 + 1 := by rw [List.length_append, ← Hm2.out]; rfl
   obtain ⟨g1, g2, g3⟩ := H0.out.gf.images H0.out.at_ HT5.out (.slice a5 (m2 + 1) c5) (I2 ++ [(g, T)]) (by rw [hL, knV_snoc]; exact HR5.out) (by rw [hL]; omega) (fun x hx => by
    rcases List.mem_append.1 hx with e | e
    ·exact HSI.out x e
    ·rw [List.mem_singleton.1 e]; exact HT.out)
   exact ⟨rfl, ⟨_, _, HC5.out, g1⟩, g2, g3⟩
attribute [local go_sem ↓] Go.wp_at_zero Go.wp_at_succ
theorem Gf.talLt {G : Gh} {D : Dt} {S : CSt} (h : Gf w0 c kb mb n id bal G Z D S w) : ∀ t ∈ D.tals, t < w.heap.size := by
 intro t ht
 unfold Dt.tals at ht
 rcases List.mem_cons.1 ht with rfl | ht
 ·exact h.prmT.1.lt
 rcases List.mem_append.1 ht with ht | ht
 ·cases hj : D.job with
  | none => rw [hj] at ht; cases ht
  | some J =>
   rw [hj] at ht
   obtain ⟨a1, a2, a3, a4⟩ := h.jobB J hj
   simp only [JobD.tals, List.mem_cons, List.not_mem_nil, or_false] at ht
   rcases ht with rfl | rfl
   ·exact a2.1.lt
   ·exact a3.1.lt
 rcases List.mem_append.1 ht with ht | ht
 ·cases hj : D.yes with
  | none => rw [hj] at ht; cases ht
  | some J =>
   rw [hj] at ht
   simp only [talO, List.mem_cons, List.not_mem_nil, or_false] at ht
   subst ht
   exact (h.yesB J hj).1.1.lt
 ·cases hj : D.prn with
  | none => rw [hj] at ht; cases ht
  | some J =>
   rw [hj] at ht
   simp only [talO, List.mem_cons, List.not_mem_nil, or_false] at ht
   subst ht
   exact (h.prnB J hj).1.1.lt
theorem Gf.newJob {G : Gh} {D : Dt} {S : CSt} (h : Gf w0 c kb mb n id bal G Z D S w) (hj : D.job = none) (hc : zAb w c S) (hT : Touch (fun k => k = c) w w') (J : JobD)
  (h1 : Blk w' J.j (zBY J.gen J.bal J.mrk J.img J.ta J.tf J.cl J.old) 104) (h2 : zAi w' J.ta n J.aM) (h3 : zAi w' J.tf n J.fM) (l1 : w.heap.size ≤ J.j) (l2 : w.heap.size ≤ J.ta) (l3 : w.heap.size ≤ J.tf) (hne : J.ta ≠ J.tf) (hi : J.img.size ≤ 524288) (hv : Votes n J.aM (G.VA J.gen J.mrk)) (hcl : J.cl = true → D.cal ≠ none ∧ G.gk = 1 ∧ (G.gb → J.mrk = G.gm)) :
  Gf w0 c kb mb n id bal G Z { D with job := some J } { S with job := .pointer (some ⟨J.j, 0, none⟩) } w' ∧ Fr w0 w w' := by
 obtain ⟨g1, g2⟩ := h.coord hc hT
 have hsz := h.below.size
 have hlt := h.talLt
 exact ⟨{ g1 with
  job := rfl
  jobB := fun J' e => by
   injection e with e
   subst e
   exact ⟨h1, h2, h3, by omega, hi, hv⟩
  cli := fun J' e hc' => by
   injection e with e
   subst e
   exact hcl hc'
  tals := by
   have := h.tals
   unfold Dt.tals at this hlt ⊢
   rw [hj] at this hlt
   simp only [JobD.tals, List.nil_append, List.cons_append, List.nodup_cons, List.mem_cons, List.mem_append, not_or] at this hlt ⊢
   refine ⟨⟨?_, ?_, this.1⟩, ⟨hne, ?_⟩, ?_, this.2⟩
   ·have := hlt D.pt (Or.inl rfl); omega
   ·have := hlt D.pt (Or.inl rfl); omega
   ·exact ⟨fun e => by have := hlt J.ta (Or.inr (Or.inl e)); omega, fun e => by have := hlt J.ta (Or.inr (Or.inr e)); omega⟩
   ·exact ⟨fun e => by have := hlt J.tf (Or.inr (Or.inl e)); omega, fun e => by have := hlt J.tf (Or.inr (Or.inr e)); omega⟩
  talB := fun t ht => by
   have h0 := h.talB
   unfold Dt.tals at ht h0
   rw [hj] at h0
   simp only [JobD.tals, List.nil_append, List.cons_append, List.mem_cons, List.mem_append] at ht h0
   rcases ht with e | e | e | e
   ·exact h0 t (Or.inl e)
   ·omega
   ·omega
   ·exact h0 t (Or.inr e) }, g2⟩
theorem zFX {G : Gh} {D : Dt} {S : CSt} (h0 : Gc w0 c kb mb n id bal G Z D S w) (hj : D.job = none) (g : Int) (T : List UInt8) (hTl : T.length ≤ 524288) (cl : Bool) (hcl : cl = true → D.cal ≠ none ∧ G.gk = 1 ∧ (G.gb → ba T ∈ D.Bk ∧ zAt D.Bk (ba T) = G.gm)) (hbb : G.bb ≤ 900000000) :
  Calls Tryz.prog 55 #[.pointer (some ⟨c, 0, none⟩), .int .i64 g, .string (ba T), .bool cl] w fun x w' => x = .returned (.tuple #[]) ∧ Gs w0 c kb mb n id bal (G.more 1) Z w' ∧ Fr w0 w w' := by
 have hBl : D.Bk.length ≤ 1000000000 := by have := h0.gf.bokL; omega
 have hT : T.length ≤ 1000000 := by omega
 have h := h0.at_
 have hK := h0.gf.bok
 have hbk := h0.gf.bk_
 have hcn := h0.gf.n_
 have hn9 := h0.gf.n9
 have Hj := hid hj
 have Hcl := hid hcl
 have HTl := hid hTl
 have HG0 := hid h0
 have Hcn := hid hcn
 have Hbb := hid hbb
 clear h0 hj hcl hTl hbb
 obtain ⟨Bk, hBk⟩ : ∃ Bk, Bk = D.Bk := ⟨_, rfl⟩
 rw [← hBk] at hK hBl Hcl
 have HBk := hid hBk
 clear hBk
 have hbl := h.1.lt
 have c2 : w.cell? ⟨c, 2, none⟩ = some (.pointer (some ⟨kb, 0, none⟩)) := by rw [← hbk]; exact h.hd 2 (by omega)
 have c3 : w.cell? ⟨c, 3, none⟩ = some (.int .i64 S.ballot) := h.hd 3 (by omega)
 have HKS := hid (fun w' (hb : Below w.heap.size w w') => (And.intro (show w'.cell? ⟨c, 2, none⟩ = some (.pointer (some ⟨kb, 0, none⟩)) by rw [← hbk]; exact (h.below hb).hd 2 (by omega)) (show w'.cell? ⟨c, 3, none⟩ = some (.int .i64 S.ballot) from (h.below hb).hd 3 (by omega))))
 have hk0 : w.drew.cell? ⟨c, 2, none⟩ = some (.pointer (some ⟨kb, 0, none⟩)) ∧ w.drew.cell? ⟨c, 3, none⟩ = some (.int .i64 S.ballot) := ⟨c2, c3⟩
 have hT2 : (ba T).size ≤ maxLen := by rw [zAl]; unfold maxLen; omega
 have hmbb : mb ≠ c := (hK.ne_blk h.1 (by decide)).2
 have HMk := hid (fun w' (hb : Below w.heap.size w w') => zBF kb mb Bk (ba T) w' (hK.below hb) hT2 hBl hK.self_ne)
 have HKM := hid (fun W w1 (hb : Below w.heap.size w W) (ht : Touch (fun k => k = mb) W w1) => (show w1.cell? ⟨c, 2, none⟩ = some (.pointer (some ⟨kb, 0, none⟩)) ∧ w1.cell? ⟨c, 3, none⟩ = some (.int .i64 S.ballot) from by
  have hC : zAb w1 c S := ⟨(h.below hb).1.touch ht (Ne.symm hmbb), h.2⟩
  exact ⟨by rw [← hbk]; exact hC.hd 2 (by omega), hC.hd 3 (by omega)⟩))
 have HKM2 := hid (fun W w1 (hb : Below w.heap.size w W) (ht : Touch (fun k => k = mb) W w1) (x y z : Value) => (show (((w1.setCell ⟨w.heap.size, 0, none⟩ x).setCell ⟨w.heap.size, 1, none⟩ y).setCell ⟨w.heap.size, 2, none⟩ z).cell? ⟨c, 2, none⟩ = some (.pointer (some ⟨kb, 0, none⟩)) ∧ (((w1.setCell ⟨w.heap.size, 0, none⟩ x).setCell ⟨w.heap.size, 1, none⟩ y).setCell ⟨w.heap.size, 2, none⟩ z).cell? ⟨c, 3, none⟩ = some (.int .i64 S.ballot) from by
  have hne : c ≠ w.heap.size := by omega
  have hC : zAb (((w1.setCell ⟨w.heap.size, 0, none⟩ x).setCell ⟨w.heap.size, 1, none⟩ y).setCell ⟨w.heap.size, 2, none⟩ z ) c S := ⟨((((h.below hb).1.touch ht (Ne.symm hmbb)).set_other (a := ⟨w.heap.size, 0, none⟩) hne x).set_other (a := ⟨w.heap.size, 1, none⟩) hne y).set_other (a := ⟨w.heap.size, 2, none⟩) hne z, h.2⟩
  exact ⟨by rw [← hbk]; exact hC.hd 2 (by omega), hC.hd 3 (by omega)⟩))
 have hmbl := hK.map_lt
 have HZ := hid (fun w1 (ht : Touch (fun k => k = mb) (w.drew.alloc (.cells #[.int .i64 0, .int .i64 0, .string ⟨#[]⟩] 102)) w1) => (show w1.cell? ⟨w.heap.size, 0, none⟩ = some (.int .i64 0) ∧ w1.cell? ⟨w.heap.size, 1, none⟩ = some (.int .i64 0) ∧ w1.cell? ⟨w.heap.size, 2, none⟩ = some (.string ⟨#[]⟩) ∧ w1.frozen? ⟨w.heap.size, 0, none⟩ = false ∧ w1.frozen? ⟨w.heap.size, 1, none⟩ = false ∧ w1.frozen? ⟨w.heap.size, 2, none⟩ = false ∧ Hid (Blk w1 w.heap.size [.int .i64 0, .int .i64 0, .string ⟨#[]⟩] 102) from by
  have hb : Blk w1 w.heap.size [.int .i64 0, .int .i64 0, .string ⟨#[]⟩] 102 := (Blk.new w.drew [.int .i64 0, .int .i64 0, .string ⟨#[]⟩] 102).touch ht (fun (e : w.heap.size = mb) => by omega)
  exact ⟨hb.cell 0, hb.cell 1, hb.cell 2, hb.free 0, hb.free 1, hb.free 2, hid hb⟩))
 have H0 := hid h
 have HK0 := hid hK
 clear c2 c3 hK h hcn hbk
 go_enter Tryz.func55, Tryz.ntmps55
 go_wp2_with fail
 go_cut [8] (fun v8 wx => ∃ q, v8 = .pointer (some ⟨q, 0, none⟩) ∧ w.heap.size ≤ q ∧ Hid (zAb wx c S) ∧ Hid (Blk wx q [.int .i64 g, .int .i64 S.ballot, .string (zAt (seen Bk (ba T)) (ba T))] 102) ∧ Hid (zAo wx kb mb (seen Bk (ba T))) ∧ Hid (Touch (fun k => k = mb) w wx))
 case first =>
  go_region_held3 (fun w' => w'.cell? ⟨c, 2, none⟩ = some (.pointer (some ⟨kb, 0, none⟩)) ∧ w'.cell? ⟨c, 3, none⟩ = some (.int .i64 S.ballot))
   (first | with_reducible exact hk0 | with_reducible exact hkm | with_reducible exact hks _ _ _ | exact HKS.out _ (((Below.refl _ w).drew).alloc (Nat.le_refl _) _) | go_keep)
   (first
   | (go_at_call 11; with_reducible refine (HMk.out w.drew (Below.refl _ w).drew).mono ?_; rintro e w1 ⟨rfl, hK1, hT1⟩; have hkm := HKM.out _ _ ((Below.refl _ w).drew) hT1)
   | (go_at_call 11; refine (HMk.out (w.drew.alloc (.cells #[.int .i64 0, .int .i64 0, .string ⟨#[]⟩] 102)) (((Below.refl _ w).drew).alloc (Nat.le_refl _) _)).mono ?_; rintro e w1 ⟨rfl, hK1, hT1⟩; have hkm := HKM.out _ _ (((Below.refl _ w).drew).alloc (Nat.le_refl _) _) hT1; obtain ⟨z0, z1, z2, g0, g1, g2, HZB⟩ := HZ.out _ hT1; have hks := HKM2.out _ _ (((Below.refl _ w).drew).alloc (Nat.le_refl _) _) hT1))
  all_goals go_wp2_with fail
  all_goals go_meet
  ·have hsz := hT1.size
   have hs0 : w.drew.heap.size = w.heap.size := rfl
   have hbA : Below w1.heap.size w1 (w1.alloc (.cells #[.int .i64 g, .int .i64 S.ballot, .string (zAt (seen Bk (ba T)) (ba T))] 102)) := (Below.refl _ w1).alloc (Nat.le_refl _) _
   refine ⟨w1.heap.size, rfl, by omega, hid ?_, hid (Blk.new w1 [.int .i64 g, .int .i64 S.ballot, .string (zAt (seen Bk (ba T)) (ba T))] 102), hid (hK1.below hbA), hid ?_⟩
   ·exact zAb.below ⟨H0.out.drew.1.touch hT1 (Ne.symm hmbb), H0.out.2⟩ hbA
   ·exact ((Touch.of_below (S := fun k => k = mb) (Below.refl _ w).drew).trans hT1).alloc _
  ·have hsz := hT1.size
   have hs0 : (w.drew.alloc (.cells #[.int .i64 0, .int .i64 0, .string ⟨#[]⟩] 102)).heap.size = w.heap.size + 1 := by simp
   have hbD : Below w.heap.size w (w.drew.alloc (.cells #[.int .i64 0, .int .i64 0, .string ⟨#[]⟩] 102)) := ((Below.refl _ w).drew).alloc (Nat.le_refl _) _
   have C1 : zAb w1 c S := ⟨(H0.out.below hbD).1.touch hT1 (Ne.symm hmbb), H0.out.2⟩
   have hTS : Touch (fun k => k = w.heap.size) w1 (((w1.setCell ⟨w.heap.size, 0, none⟩ (.int .i64 g)).setCell ⟨w.heap.size, 1, none⟩ (.int .i64 S.ballot)).setCell ⟨w.heap.size, 2, none⟩ (.string (zAt (seen Bk (ba T)) (ba T)))) := zAa (zAa (zAa (Touch.refl _ _) _) _) _
   have hkl := HK0.out.at_.lt
   have hTT := (Touch.of_below (S := fun k => k = mb) hbD).trans hT1
   refine ⟨w.heap.size, rfl, Nat.le_refl _, hid ?_, hid (((HZB.out.set 0 _).set 1 _).set 2 _), hid (hK1.touch hTS (fun (e : kb = w.heap.size) => by omega) (fun (e : mb = w.heap.size) => by omega)), hid ?_⟩
   ·exact ⟨C1.1.touch hTS (fun (e : c = w.heap.size) => by omega), C1.2⟩
   ·exact ((hTT.set (p := ⟨w.heap.size, 0, none⟩) (Or.inr (Nat.le_refl _)) _).set (p := ⟨w.heap.size, 1, none⟩) (Or.inr (Nat.le_refl _)) _).set (p := ⟨w.heap.size, 2, none⟩) (Or.inr (Nat.le_refl _)) _
 case rest =>
  obtain ⟨q, rfl, hq, HC1, HE1, HK1, HT1⟩ := hcut
  clear HK0 H0 HMk HKM HKM2 HZ HKS hk0
  have hszw := HT1.out.size
  have hql := HE1.out.lt
  have hbq : c ≠ q := by omega
  obtain ⟨mkv, hmkv⟩ : ∃ mkv, mkv = zAt (seen Bk (ba T)) (ba T) := ⟨_, rfl⟩
  rw [← hmkv] at HE1
  have Hmkv := hid hmkv
  clear hmkv
  obtain ⟨g1, f1, k1⟩ := HG0.out.gf.book HT1.out (seen Bk (ba T)) HK1.out (by rw [HBk.out]; exact Ext.seen _ _) 1 (by have h1 := zAM Bk (ba T); have h2 := HG0.out.gf.bokL; rw [HBk.out] at h1 ⊢; omega)
  have HG1 := hid (show Gc w0 c kb mb n id bal (G.more 1) Z { D with Bk := seen Bk (ba T) } S wc from ⟨HC1.out, g1⟩)
  have HF1 := hid f1
  clear g1 f1 k1 HC1 HK1 HT1 HG0
  have HKn := hid (gc_know HG1.out g T HTl.out)
  go_wp2_with fail
  refine HKn.out.mono ?_
  rintro e w2 ⟨rfl, ⟨I2, v2, hG2⟩, hF2, hk2⟩
  have HE2 := hid (hk2.1 _ _ _ (by decide) HE1.out)
  have HG2 := hid hG2
  have HF2 := hid (HF1.out.trans hF2)
  have HC2 := hid hG2.at_
  have hcn2 : S.n = (n : Int) := Hcn.out
  have hcl : clip (n : Int) = n := by unfold clip; rw [if_neg (by omega), if_neg (by omega)]; omega
  have HN := hid (fun W (hb : Below w2.heap.size w2 W) => (show Calls Tryz.prog 35 #[.int .i64 (n : Int)] W fun e w' => ∃ t, e = .returned (.pointer (some ⟨t, 0, none⟩)) ∧ W.heap.size ≤ t ∧ Hid (zAi w' t n (List.replicate 9 false)) ∧ Below w2.heap.size w2 w' ∧ Below W.heap.size W w' from
   (zBB (n : Int) W).mono (fun e w' ⟨t, he, hts, hta, hbt⟩ => ⟨t, he, hts, hid (by rw [← hcl]; exact hta), zAd hb hbt, hbt⟩)))
  have HKS := hid (fun W (hb : Below w2.heap.size w2 W) => (show W.cell? ⟨q, 0, none⟩ = some (.int .i64 g) ∧ W.cell? ⟨q, 1, none⟩ = some (.int .i64 S.ballot) ∧ W.cell? ⟨q, 2, none⟩ = some (.string mkv) ∧ W.cell? ⟨c, 1, none⟩ = some (.int .i64 (n : Int)) from
   ⟨(HE2.out.below hb).cell 0, (HE2.out.below hb).cell 1, (HE2.out.below hb).cell 2, by rw [← hcn2]; exact (HC2.out.below hb).hd 1 (by omega)⟩))
  have HKE := hid (fun W (hb : Below w2.heap.size w2 W) (v : Value) (o : Obj) => (show ((W.setCell ⟨c, 84, none⟩ v).alloc o).cell? ⟨q, 0, none⟩ = some (.int .i64 g) ∧ ((W.setCell ⟨c, 84, none⟩ v).alloc o).cell? ⟨q, 1, none⟩ = some (.int .i64 S.ballot) ∧ ((W.setCell ⟨c, 84, none⟩ v).alloc o).cell? ⟨q, 2, none⟩ = some (.string mkv) ∧ ((W.setCell ⟨c, 84, none⟩ v).alloc o).cell? ⟨c, 1, none⟩ = some (.int .i64 (n : Int)) from by
   have hE := ((HE2.out.below hb).set_other (a := ⟨c, 84, none⟩) (Ne.symm hbq) v).alloc o
   have hC := ((HC2.out.below hb).setJob v).alloc o
   exact ⟨hE.cell 0, hE.cell 1, hE.cell 2, by rw [← hcn2]; exact hC.hd 1 (by omega)⟩))
  have hb0 : Below w2.heap.size w2 w2.drew := (Below.refl _ w2).drew
  have hk0 := HKS.out _ hb0
  have f84 : ∀ W, Below w2.heap.size w2 W → W.frozen? ⟨c, 84, none⟩ = false := fun W hb => (HC2.out.below hb).1.free 84
  have HF84 := hid f84
  have H84 := hid (fun W (hb : Below w2.heap.size w2 W) => (show W.cell? ⟨c, 84, none⟩ = some S.job from (HC2.out.below hb).ft 0))
  have hbl2 := HC2.out.1.lt
  have hql2 := HE2.out.lt
  clear hG2 hF2 hk2 HG1 HF1 HE1 HKn f84 hcl hcn2
  go_wp2_with fail
  go_region_held3 (fun W => W.cell? ⟨q, 0, none⟩ = some (.int .i64 g) ∧ W.cell? ⟨q, 1, none⟩ = some (.int .i64 S.ballot) ∧ W.cell? ⟨q, 2, none⟩ = some (.string mkv) ∧ W.cell? ⟨c, 1, none⟩ = some (.int .i64 (n : Int)))
   (first | with_reducible exact hk0 | with_reducible exact HKS.out _ hba | with_reducible exact HKS.out _ hbb | with_reducible exact HKE.out _ hbb _ _ | go_keep)
   (first
   | (go_at_call 35; with_reducible refine (HN.out w2.drew hb0).mono ?_; rintro e wa ⟨ta, rfl, hta, hTa, hba, hba2⟩)
   | (go_at_call 35; refine (HN.out wa hba).mono ?_; rintro e wb ⟨tb, rfl, htb, hTb, hbb, hbb2⟩; have k84 := H84.out wb hbb; have g84 := HF84.out wb hbb; have hblb := Nat.lt_of_lt_of_le hbl2 hbb.size))
  all_goals
   go_end0
   have hta2 : w2.heap.size ≤ ta := hta
   have hal := hTa.out.1.lt
   have hsa := hba.size
   have hsb := hbb2.size
   have G3 := (HG2.out.quiet hbb)
   have CB := G3.at_
   have TAb := zBk hTa.out hbb2
   have hab : ta ≠ c := by omega
   have hbb' : tb ≠ c := by omega
   have hmk : cl = true → D.cal ≠ none ∧ G.gk = 1 ∧ (G.gb → mkv = G.gm) := fun e => by
    obtain ⟨x1, x2, x34⟩ := Hcl.out e
    refine ⟨x1, x2, fun hgb => ?_⟩
    obtain ⟨x3, x4⟩ := x34 hgb
    rw [Hmkv.out, (Ext.seen Bk (ba T)).mark x3, x4]
   have TS : Touch (fun k => k = c) wb (wb.setCell ⟨c, 84, none⟩ (.pointer (some ⟨wb.heap.size, 0, none⟩))) := zAa (Touch.refl _ _) _
   have JN : ∀ t1 t2 : Nat, Blk ((wb.setCell ⟨c, 84, none⟩ (.pointer (some ⟨wb.heap.size, 0, none⟩))).alloc (.cells (zBY g S.ballot mkv (ba T) t1 t2 cl (!cl)).toArray 104)) wb.heap.size (zBY g S.ballot mkv (ba T) t1 t2 cl (!cl)) 104 := fun t1 t2 => by
    have := Blk.new (wb.setCell ⟨c, 84, none⟩ (.pointer (some ⟨wb.heap.size, 0, none⟩))) (zBY g S.ballot mkv (ba T) t1 t2 cl (!cl)) 104
    simpa using this
   have C3 := fun o => (CB.setJob (.pointer (some ⟨wb.heap.size, 0, none⟩))).alloc o
   have A3 : ∀ o, zAi ((wb.setCell ⟨c, 84, none⟩ (.pointer (some ⟨wb.heap.size, 0, none⟩))).alloc o) ta n (List.replicate 9 false) := fun o => ⟨(TAb.1.set_other (a := ⟨c, 84, none⟩) hab _).alloc o, TAb.2⟩
   have B3 : ∀ o, zAi ((wb.setCell ⟨c, 84, none⟩ (.pointer (some ⟨wb.heap.size, 0, none⟩))).alloc o) tb n (List.replicate 9 false) := fun o => ⟨(hTb.out.1.set_other (a := ⟨c, 84, none⟩) hbb' _).alloc o, hTb.out.2⟩
   have hvt : Votes n (List.replicate 9 false) (G.VA g mkv) := fun i _ hm => by
    rw [List.getD_eq_getElem?_getD, List.getElem?_replicate] at hm
    split at hm <;> cases hm
   have hti : (ba T).size ≤ 524288 := by rw [zAl]; exact HTl.out
   have TA := TS.alloc (.cells (zBY g S.ballot mkv (ba T) ta tb cl (!cl)).toArray 104)
   have TB := TS.alloc (.cells (zBY g S.ballot mkv (ba T) tb ta cl (!cl)).toArray 104)
   have hsb2 := hbb.size
   first
   | (obtain ⟨g4, f4⟩ := HG2.out.gf.newJob Hj.out HG2.out.at_ ((Touch.of_below hbb).trans TA) ⟨wb.heap.size, ta, tb, g, S.ballot, mkv, ba T, cl, !cl, List.replicate 9 false, List.replicate 9 false⟩ (JN ta tb) (A3 _) (B3 _) (by show w2.heap.size ≤ wb.heap.size; omega) (by show w2.heap.size ≤ ta; omega) (by show w2.heap.size ≤ tb; omega) (by show ta ≠ tb; omega) hti hvt hmk
      exact ⟨rfl, ⟨_, _, C3 _, g4⟩, HF2.out.trans f4⟩)
   | (obtain ⟨g4, f4⟩ := HG2.out.gf.newJob Hj.out HG2.out.at_ ((Touch.of_below hbb).trans TB) ⟨wb.heap.size, tb, ta, g, S.ballot, mkv, ba T, cl, !cl, List.replicate 9 false, List.replicate 9 false⟩ (JN tb ta) (B3 _) (A3 _) (by show w2.heap.size ≤ wb.heap.size; omega) (by show w2.heap.size ≤ tb; omega) (by show w2.heap.size ≤ ta; omega) (by show tb ≠ ta; omega) hti hvt hmk
      exact ⟨rfl, ⟨_, _, C3 _, g4⟩, HF2.out.trans f4⟩)
end Go.Proofs.YtaemlplcjjbamaaGreatDoor
