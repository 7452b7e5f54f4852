/- The walk of a coordinator's full in whatever state. No condi -/
import Derived.Test.YtaemlplcjjbamaaGreatDoorBGPiece
namespace Go.Proofs.YtaemlplcjjbamaaGreatDoor
open Go.Lib (hid)
set_option maxRecDepth 100000
set_option maxHeartbeats 8000000
open Go Go.RowKit
set_option linter.unusedVariables false
variable {Z c kb mb n : Nat} {bal id : Int} {w w' w0 w1 : World}
theorem gc_full {G : Gh} {D : Dt} {S : CSt} (h : Gc w0 c kb mb n id bal G Z D S w) (v : Nat) (kind to' bal2 mg basis fl tp rd pa po : Int) (mm pt : ByteArray) (ls : Value) :
  Calls Tryz.prog 87 #[.pointer (some ⟨c, 0, none⟩), .agg #[.int .i64 kind, .int .i64 (v : Int), .int .i64 to', .int .i64 bal2, .int .i64 mg, .int .i64 basis, .int .i64 fl, .int .i64 tp, .int .i64 rd, .string mm, .int .i64 pa, .int .i64 po, .string pt, ls]] w fun x w' => x = .returned (.tuple #[]) ∧ Gs w0 c kb mb n id bal G Z w' ∧ Fr w0 w w' := by
 have hbl := h.at_.1.lt
 have H0 := hid h
 have hb1 : Below w.heap.size w (w.alloc (.cells #[.int .i64 kind, .int .i64 (v : Int), .int .i64 to', .int .i64 bal2, .int .i64 mg, .int .i64 basis, .int .i64 fl, .int .i64 tp, .int .i64 rd, .string mm, .int .i64 pa, .int .i64 po, .string pt, ls] 30)) := (Below.refl w.heap.size w).alloc (Nat.le_refl _) _
 have HB := hid hb1
 cases hj : D.job with
 | none =>
  have hsj : S.job = .pointer none := by rw [h.gf.job, hj]; rfl
  have c84 : w.cell? ⟨c, 84, none⟩ = some (.pointer none) := by have := h.at_.ft 0; rw [← hsj]; exact this
  clear h hj hsj hb1
  go_enter Tryz.func87, Tryz.ntmps87
  go_wp2
  go_quiet (fail)
  go_wp2
  refine bodyPost_ret (results_none rfl _ _ _) rfl ?_
  have hq := below_drewN HB.out nq
  exact ⟨rfl, ⟨D, S, H0.out.quiet hq⟩, Fr.of_below hq⟩
 | some J =>
  obtain ⟨a1, a2, a3, a4, a5, a6⟩ := h.gf.jobB J hj
  have hsj : S.job = .pointer (some ⟨J.j, 0, none⟩) := by rw [h.gf.job, hj]; rfl
  have hsn := h.gf.n_
  have hn1 := h.gf.n1
  have hn9 := h.gf.n9
  have Hjj := hid hj
  have Hsj := hid hsj
  have Hsn := hid hsn
  have HA1 := hid a1
  have HA3 := hid a3
  obtain ⟨j, hjn⟩ : ∃ j, j = J.j := ⟨_, rfl⟩
  obtain ⟨tf, hta⟩ : ∃ tf, tf = J.tf := ⟨_, rfl⟩
  obtain ⟨m', hm'⟩ : ∃ m', m' = addTo J.fM (v : Int) n := ⟨_, rfl⟩
  rw [← hjn, ← hta] at a1 HA1
  rw [← hta] at a3 HA3
  rw [← hjn] at hsj Hsj
  have c84 : w.cell? ⟨c, 84, none⟩ = some (.pointer (some ⟨j, 0, none⟩)) := by have := h.at_.ft 0; rw [← hsj]; exact this
  have j0 : w.cell? ⟨j, 0, none⟩ = some (.int .i64 J.gen) := a1.cell 0
  have hjl := a1.lt
  have hjt : j ≠ tf := a1.ne a3.1 (by decide)
  have hct : c ≠ tf := h.at_.1.ne a3.1 (by decide)
  have Hta := hid hta
  have Hm' := hid hm'
  have htl := a3.1.lt
  have Q1 := hid (Blk.new w [.int .i64 kind, .int .i64 (v : Int), .int .i64 to', .int .i64 bal2, .int .i64 mg, .int .i64 basis, .int .i64 fl, .int .i64 tp, .int .i64 rd, .string mm, .int .i64 pa, .int .i64 po, .string pt, ls] 30)
  obtain ⟨gen, hgen⟩ : ∃ gen, gen = J.gen := ⟨_, rfl⟩
  rw [← hgen] at j0
  clear h hj hsj hsn a1 a2 a3 a4 a5 a6 hjn hta hm' hb1 hgen
  by_cases hg : gen = mg
  ·subst hg
   have eg : (gen != gen) = false := by simp
   go_enter Tryz.func87, Tryz.ntmps87
   go_wp2
   go_quiet (fail)
   go_wp2_with fail
   have b1 := below_drewN HB.out nq
   have q1 := Q1.out.drewN nq
   generalize (w.alloc (.cells #[.int .i64 kind, .int .i64 (v : Int), .int .i64 to', .int .i64 bal2, .int .i64 gen, .int .i64 basis, .int .i64 fl, .int .i64 tp, .int .i64 rd, .string mm, .int .i64 pa, .int .i64 po, .string pt, ls] 30)).drewN nq = w1 at b1 q1 ⊢
   obtain ⟨q, hq⟩ : ∃ q, q = w.heap.size := ⟨_, rfl⟩
   rw [← hq] at q1 ⊢
   have hqt : q ≠ tf := by omega
   have G1 := hid (H0.out.quiet b1)
   have HF1 := hid (Fr.of_below (w0 := w0) b1)
   have HJ1 := hid (HA1.out.below b1)
   have HT1 := hid (zBk HA3.out b1)
   have HQ1 := hid q1
   clear b1 q1 HB Q1 H0 HA1 HA3 c84 j0 hq
   have HK := hid (fun w' (hb : Below w1.heap.size w1 w') => (And.intro (show w'.cell? ⟨c, 84, none⟩ = some (.pointer (some ⟨j, 0, none⟩)) by rw [← Hsj.out]; exact (G1.out.at_.below hb).ft 0) (And.intro (show w'.cell? ⟨j, 5, none⟩ = some (.pointer (some ⟨tf, 0, none⟩)) from (HJ1.out.below hb).cell 5) (show w'.cell? ⟨q, 1, none⟩ = some (.int .i64 (v : Int)) from (HQ1.out.below hb).cell 1))))
   have hk0 := HK.out w1.drew (Below.refl _ _).drew
   have HAd := hid (zDS tf n J.fM (v : Int) w1.drew HT1.out)
   rw [← Hm'.out] at HAd
   go_region_held3 (fun w' => w'.cell? ⟨c, 84, none⟩ = some (.pointer (some ⟨j, 0, none⟩)) ∧ w'.cell? ⟨j, 5, none⟩ = some (.pointer (some ⟨tf, 0, none⟩)) ∧ w'.cell? ⟨q, 1, none⟩ = some (.int .i64 (v : Int)))
    (first | with_reducible exact hk0 | with_reducible exact hk2 | go_keep)
    ((go_at_call 83; refine HAd.out.mono ?_; rintro e w2 ⟨rfl, hT2, ht2⟩; have hk2 : w2.cell? ⟨c, 84, none⟩ = some (.pointer (some ⟨j, 0, none⟩)) ∧ w2.cell? ⟨j, 5, none⟩ = some (.pointer (some ⟨tf, 0, none⟩)) ∧ w2.cell? ⟨q, 1, none⟩ = some (.int .i64 (v : Int)) := ⟨by rw [← Hsj.out]; exact zAb.ft ⟨G1.out.at_.drew.1.touch ht2 hct, G1.out.at_.2⟩ 0, (HJ1.out.drew.touch ht2 hjt).cell 5, (HQ1.out.drew.touch ht2 hqt).cell 1⟩))
   obtain ⟨g2, f2⟩ := (G1.out.quiet (Below.refl _ _).drew).gf.setFul J Hjj.out m' (by rw [← Hta.out]; exact ht2) (by rw [← Hta.out]; exact hT2)
   have hG2 : Gc w0 c kb mb n id bal G Z { D with job := some { J with fM := m' } } S w2 := ⟨⟨G1.out.at_.drew.1.touch ht2 hct, G1.out.at_.2⟩, g2⟩
   have G2 := hid hG2
   have HF2 := hid ((HF1.out.trans (Fr.of_below (Below.refl _ _).drew)).trans f2)
   have HT2 := hid hT2
   have c84 := hk2.1
   have j5 := hk2.2.1
   have J2 := HJ1.out.drew.touch ht2 hjt
   have hCnt := hid (fun k => zEN tf n m' (w2.drewN k) (hT2.drewN k))
   have hMj := hid (fun k => zBS n (w2.drewN k) (by omega))
   have c1 : w2.cell? ⟨c, 1, none⟩ = some (.int .i64 (n : Int)) := by rw [← Hsn.out]; exact hG2.at_.hd 1 (by omega)
   have hmj : major n ≤ n := by unfold major; omega
   obtain ⟨mj, hmj2⟩ : ∃ mj : Nat, mj = major n := ⟨_, rfl⟩
   rw [← hmj2] at hMj hmj
   obtain ⟨d, hd⟩ : ∃ d : Nat, d = n - mj := ⟨_, rfl⟩
   have hw : IntKind.i64.wrap ((n : Int) - (mj : Int)) = (d : Int) := by
    rw [IntWalk.i64_in _ (by omega)]
    omega
   obtain ⟨ct, hct2⟩ : ∃ ct : Nat, ct = cnt m' n := ⟨_, rfl⟩
   rw [← hct2] at hCnt
   have hll := J2.lt
   clear hG2 hT2 ht2 hk2 hk0 HK HAd G1 HF1 HJ1 HT1 HQ1 g2 f2 hd hmj2 hct2 hmj
   cases hcv : J.cl with
   | false =>
    have j6 : w2.cell? ⟨j, 6, none⟩ = some (.bool false) := by rw [← hcv]; exact J2.cell 6
    clear J2 hcv
    go_wp2_with fail
    go_quiet ((first | (go_at_call 93; first | exact zAf (hCnt.out _) | exact quiet_add_left (hCnt.out _)) | (go_at_call 94; first | exact zAf (hMj.out _) | exact quiet_add_left (hMj.out _))))
    go_wp2_with fail
    go_end0
    have hq := below_drewN (Below.refl w2.heap.size w2) nq
    exact ⟨rfl, ⟨_, _, G2.out.quiet hq⟩, HF2.out.trans (Fr.of_below hq)⟩
   | true =>
    have j6 : w2.cell? ⟨j, 6, none⟩ = some (.bool true) := by rw [← hcv]; exact J2.cell 6
    clear J2 hcv
    by_cases hlt : (d : Int) < (ct : Int)
    ·go_wp2_with fail
     go_quiet ((first | (go_at_call 93; first | exact zAf (hCnt.out _) | exact quiet_add_left (hCnt.out _)) | (go_at_call 94; first | exact zAf (hMj.out _) | exact quiet_add_left (hMj.out _))))
     have hq := below_drewN (Below.refl w2.heap.size w2) nq
     have HE := hid (zEm (G2.out.quiet hq) 7 0 0 none none 0 0 0 0 (fun e => absurd e (by decide)))
     have HF3 := hid (HF2.out.trans (Fr.of_below hq))
     go_wp2_with fail
     refine HE.out.mono ?_
     rintro e w4 ⟨rfl, hG, hF⟩
     have HG4 := hid hG
     have HF4 := hid (HF3.out.trans hF)
     clear hG hF HE
     go_wp2_with fail
     go_end0
     exact ⟨rfl, HG4.out, HF4.out⟩
    ·go_wp2_with fail
     go_quiet ((first | (go_at_call 93; first | exact zAf (hCnt.out _) | exact quiet_add_left (hCnt.out _)) | (go_at_call 94; first | exact zAf (hMj.out _) | exact quiet_add_left (hMj.out _))))
     go_wp2_with fail
     go_end0
     have hq := below_drewN (Below.refl w2.heap.size w2) nq
     exact ⟨rfl, ⟨_, _, G2.out.quiet hq⟩, HF2.out.trans (Fr.of_below hq)⟩
  ·have eg : (gen != mg) = true := by rw [bne_iff_ne]; exact hg
   clear hg
   go_enter Tryz.func87, Tryz.ntmps87
   go_wp2
   go_quiet (fail)
   go_wp2
   refine bodyPost_ret (results_none rfl _ _ _) rfl ?_
   have hq := below_drewN HB.out nq
   exact ⟨rfl, ⟨D, S, H0.out.quiet hq⟩, Fr.of_below hq⟩
theorem zHu {G : Gh} {D : Dt} {S : CSt} (h : Gc w0 c kb mb n id bal G Z D S w) (v : Nat) (kind to' bal2 mg basis fl tp rd pa po : Int) (mm pt : ByteArray) (ls : Value) (hv : v < 9) :
  Calls Tryz.prog 85 #[.pointer (some ⟨c, 0, none⟩), .agg #[.int .i64 kind, .int .i64 (v : Int), .int .i64 to', .int .i64 bal2, .int .i64 mg, .int .i64 basis, .int .i64 fl, .int .i64 tp, .int .i64 rd, .string mm, .int .i64 pa, .int .i64 po, .string pt, ls]] w fun x w' => x = .returned (.tuple #[]) ∧ Gs w0 c kb mb n id bal G Z w' ∧ Fr w0 w w' := by
 have hbl := h.at_.1.lt
 have H0 := hid h
 have hp := h.gf.prs
 have hps := h.gf.prsL
 obtain ⟨p, hpv⟩ : ∃ p, p = D.ps[v]'(by omega) := ⟨_, rfl⟩
 have c0 : w.cell? ⟨c, 12 + v * 8, none⟩ = some (.bool p.told) := by rw [hpv]; exact h.at_.peer hp v (by omega) 0 (by omega)
 have c2 : w.cell? ⟨c, 12 + v * 8 + 2, none⟩ = some (.int .i64 p.top) := by rw [hpv]; exact h.at_.peer hp v (by omega) 2 (by omega)
 have c3 : w.cell? ⟨c, 12 + v * 8 + 3, none⟩ = some (.int .i64 p.has) := by rw [hpv]; exact h.at_.peer hp v (by omega) 3 (by omega)
 have c4 : w.cell? ⟨c, 12 + v * 8 + 4, none⟩ = some (.string p.mark) := by rw [hpv]; exact h.at_.peer hp v (by omega) 4 (by omega)
 have c5 : w.cell? ⟨c, 12 + v * 8 + 5, none⟩ = some (.bool p.whole) := by rw [hpv]; exact h.at_.peer hp v (by omega) 5 (by omega)
 have c7 : w.cell? ⟨c, 12 + v * 8 + 7, none⟩ = some p.pack := by rw [hpv]; exact h.at_.peer hp v (by omega) 7 (by omega)
 have f0 := h.at_.1.free (12 + v * 8)
 have f2 := h.at_.1.free (12 + v * 8 + 2)
 have f3 := h.at_.1.free (12 + v * 8 + 3)
 have f4 := h.at_.1.free (12 + v * 8 + 4)
 have f5 := h.at_.1.free (12 + v * 8 + 5)
 have f7 := h.at_.1.free (12 + v * 8 + 7)
 have hv1 : (0 : Int) ≤ (v : Int) := by omega
 have hv2 : (v : Int) < 9 := by omega
 have H := hid h.at_
 have Hp := hid hp
 have Hpv := hid hpv
 have hvl : v < D.ps.length := by omega
 have hpk := h.gf.pck p (by rw [hpv]; exact List.getElem_mem _)
 have hat := h.at_
 clear h hp hpv c0 c2 c3 f0 f2 f3
 have q0 : ∀ o k, zAb ((w.alloc o).drewN k) c { S with peers := zAg (D.ps.set v p) } := fun o k => by rw [Hpv.out]; exact ((H.out.alloc o).drewN k).asPeers Hp.out v hvl
 have HQ0 := hid q0
 have t0 : ∀ o k, Touch (fun k => k = c) w ((w.alloc o).drewN k) := fun o k => ((Touch.refl _ _).alloc _).drewN _
 have HT0 := hid t0
 clear q0 t0
 have finish : ∀ (w' : World) (p' : Peer), (p'.pack = .pointer none ∨ p'.pack = p.pack ∧ p'.cursor = p.cursor) → zAb w' c { S with peers := zAg (D.ps.set v p') } → Touch (fun k => k = c) w w' → Gs w0 c kb mb n id bal G Z w' ∧ Fr w0 w w' := fun w' p' hpp hC hT => by
  obtain ⟨g1, g2⟩ := H0.out.gf.setPeer H0.out.at_ hT v hv p' (by rcases hpp with e | e; exact Or.inl e; exact Or.inr ⟨by rw [e.1, Hpv.out], by rw [e.2, Hpv.out]⟩)
  exact ⟨⟨_, _, hC, g1⟩, g2⟩
 have HFi := hid finish
 clear finish
 rcases hpk with hpk | ⟨pk, gen, bas, mk, pv, l, hpk, hB, _⟩
 ·rw [hpk] at c7
  clear hat
  go_enter Tryz.func85, Tryz.ntmps85
  go_wp2
  go_quiet (fail)
  go_wp2
  go_quiet (fail)
  go_wp2
  go_end0
  refine ⟨rfl, HFi.out _ { p with whole := true, mark := ⟨#[]⟩ } (Or.inr ⟨rfl, rfl⟩) ?_ ?_⟩
  ·exact (zAb.drewN (zAb.setPeer2 ((zAb.setPeer2 (HQ0.out _ _) hvl 5 (by omega) (.bool true) { p with whole := true } rfl)) hvl 4 (by omega) (.string ⟨#[]⟩) { p with whole := true, mark := ⟨#[]⟩ } rfl) _)
  ·exact (Touch.drewN (zAa (zAa (HT0.out _ _) _) _) _)
 ·rw [hpk] at c7
  have hpc : pk ≠ c := hB.ne hat.1 (by decide)
  have hpl := hB.lt
  have k0 : w.cell? ⟨pk, 0, none⟩ = some (.int .i64 gen) := hB.cell 0
  have k1 : w.cell? ⟨pk, 1, none⟩ = some (.int .i64 bas) := hB.cell 1
  clear hat hB
  by_cases hbg : bas = gen
  ·obtain rfl := hbg
   have hb0 : (bas != bas) = false := by simp
   go_enter Tryz.func85, Tryz.ntmps85
   go_wp2
   go_quiet (fail)
   go_wp2
   go_quiet (fail)
   go_wp2
   go_end0
   refine ⟨rfl, HFi.out _ { p with whole := true, mark := ⟨#[]⟩ } (Or.inr ⟨rfl, rfl⟩) ?_ ?_⟩
   ·exact (zAb.drewN (zAb.setPeer2 ((zAb.setPeer2 (HQ0.out _ _) hvl 5 (by omega) (.bool true) { p with whole := true } rfl)) hvl 4 (by omega) (.string ⟨#[]⟩) { p with whole := true, mark := ⟨#[]⟩ } rfl) _)
   ·exact (Touch.drewN (zAa (zAa (HT0.out _ _) _) _) _)
  ·have hb0 : (bas == gen) = false := by rw [beq_eq_false_iff_ne]; exact hbg
   clear hbg
   go_enter Tryz.func85, Tryz.ntmps85
   go_wp2
   go_quiet (fail)
   go_wp2
   go_quiet (fail)
   go_wp2
   go_end0
   refine ⟨rfl, HFi.out _ { p with whole := true, mark := ⟨#[]⟩, pack := .pointer none } (Or.inl rfl) ?_ ?_⟩
   ·exact (zAb.setPeer2 ((zAb.drewN (zAb.setPeer2 ((zAb.setPeer2 (HQ0.out _ _) hvl 5 (by omega) (.bool true) { p with whole := true } rfl)) hvl 4 (by omega) (.string ⟨#[]⟩) { p with whole := true, mark := ⟨#[]⟩ } rfl) _)) hvl 7 (by omega) (.pointer none) { p with whole := true, mark := ⟨#[]⟩, pack := .pointer none } rfl)
   ·exact (zAa (Touch.drewN (zAa (zAa (HT0.out _ _) _) _) _) _)
def GDone (w0 : World) (c kb mb n : Nat) (id bal : Int) (G : Gh) (Z : Nat) (w : World) (x : Ending) (w' : World) : Prop := x = .returned (.tuple #[]) ∧ Gs w0 c kb mb n id bal G Z w' ∧ Fr w0 w w'
theorem GDone.quiet {G : Gh} {D : Dt} {S : CSt} (h : Gc w0 c kb mb n id bal G Z D S w) (hb : Below w.heap.size w w') : GDone w0 c kb mb n id bal G Z w (.returned (.tuple #[])) w' := ⟨rfl, ⟨_, _, h.quiet hb⟩, Fr.of_below hb⟩
theorem GDone.step {G : Gh} (hb : Below w.heap.size w w1) (h : Gs w0 c kb mb n id bal G Z w') (hf : Fr w0 w1 w') : GDone w0 c kb mb n id bal G Z w (.returned (.tuple #[])) w' := ⟨rfl, h, (Fr.of_below hb).trans hf⟩
theorem ghandle_no {G : Gh} {D : Dt} {S : CSt} (h : Gc w0 c kb mb n id bal G Z D S w) (kind fr to' bl : Int) (gen basis fl tp rd pa po : Int) (mk pt : ByteArray) (la : Option Addr) (ll lc : Nat) (hno : S.phase = 0 ∨ to' ≠ S.id ∨ fr < 0 ∨ (n : Int) ≤ fr) :
  Calls Tryz.prog 47 #[.pointer (some ⟨c, 0, none⟩), .agg #[.int .i64 kind, .int .i64 fr, .int .i64 to', .int .i64 bl, .int .i64 gen, .int .i64 basis, .int .i64 fl, .int .i64 tp, .int .i64 rd, .string mk, .int .i64 pa, .int .i64 po, .string pt, .slice la ll lc]] w (GDone w0 c kb mb n id bal G Z w) := by
 have hbl := h.at_.1.lt
 have hn1 := h.gf.n1
 have hn9 := h.gf.n9
 have c0 : w.cell? ⟨c, 0, none⟩ = some (.int .i64 S.id) := h.at_.hd 0 (by omega)
 have c1 : w.cell? ⟨c, 1, none⟩ = some (.int .i64 (n : Int)) := by rw [← h.gf.n_]; exact h.at_.hd 1 (by omega)
 have c3 : w.cell? ⟨c, 3, none⟩ = some (.int .i64 S.ballot) := h.at_.hd 3 (by omega)
 have c4 : w.cell? ⟨c, 4, none⟩ = some (.int .i64 S.phase) := h.at_.hd 4 (by omega)
 have Hn := hid (show 1 ≤ S.n by rw [h.gf.n_]; omega)
 have H0 := hid h
 have Hat1 := hid (h.at_.alloc (.cells #[.int .i64 kind, .int .i64 fr, .int .i64 to', .int .i64 bl, .int .i64 gen, .int .i64 basis, .int .i64 fl, .int .i64 tp, .int .i64 rd, .string mk, .int .i64 pa, .int .i64 po, .string pt, .slice la ll lc] 30))
 have HB := hid ((Below.refl w.heap.size w).alloc (Nat.le_refl _) (.cells #[.int .i64 kind, .int .i64 fr, .int .i64 to', .int .i64 bl, .int .i64 gen, .int .i64 basis, .int .i64 fl, .int .i64 tp, .int .i64 rd, .string mk, .int .i64 pa, .int .i64 po, .string pt, .slice la ll lc] 30))
 have HQ := hid (Blk.new w [.int .i64 kind, .int .i64 fr, .int .i64 to', .int .i64 bl, .int .i64 gen, .int .i64 basis, .int .i64 fl, .int .i64 tp, .int .i64 rd, .string mk, .int .i64 pa, .int .i64 po, .string pt, .slice la ll lc] 30)
 have e1 : (S.id != S.id) = false := by simp
 have e2 : (S.ballot != S.ballot) = false := by simp
 have e3 : (S.ballot == S.ballot) = true := by simp
 generalize S.phase = ph at c4 hno
 by_cases h1 : ph = 0
 ·rw [h1] at c4
  clear h h1 hno
  go_enter Tryz.func47, Tryz.ntmps47
  go_wp2
  go_quiet ((go_at_call 18; first | exact zAf (zAh c S _ (Hat1.out.drewN _) Hn.out) | exact quiet_add_left (zAh c S _ (Hat1.out.drewN _) Hn.out)))
  go_wp2_with fail
  refine bodyPost_ret (results_none rfl _ _ _) rfl ?_
  exact GDone.quiet H0.out (by first | exact below_drewN HB.out _ | exact below_drewN (below_drewN HB.out _) _)
 ·have h1b : (ph == 0) = false := by rw [beq_eq_false_iff_ne]; exact h1
  by_cases h2 : to' = S.id
  ·have h2b : (to' != S.id) = false := by rw [h2]; simp
   by_cases h3 : fr < 0
   ·clear h h1 hno h2
    go_enter Tryz.func47, Tryz.ntmps47
    go_wp2
    go_quiet ((go_at_call 18; first | exact zAf (zAh c S _ (Hat1.out.drewN _) Hn.out) | exact quiet_add_left (zAh c S _ (Hat1.out.drewN _) Hn.out)))
    go_wp2_with fail
    refine bodyPost_ret (results_none rfl _ _ _) rfl ?_
    exact GDone.quiet H0.out (by first | exact below_drewN HB.out _ | exact below_drewN (below_drewN HB.out _) _)
   ·have h4 : (n : Int) ≤ fr := by
     rcases hno with e | e | e | e
     ·exact absurd e h1
     ·exact absurd h2 e
     ·exact absurd e h3
     ·exact e
    clear h h1 hno h2
    go_enter Tryz.func47, Tryz.ntmps47
    go_wp2
    go_quiet ((go_at_call 18; first | exact zAf (zAh c S _ (Hat1.out.drewN _) Hn.out) | exact quiet_add_left (zAh c S _ (Hat1.out.drewN _) Hn.out)))
    go_wp2_with fail
    refine bodyPost_ret (results_none rfl _ _ _) rfl ?_
    exact GDone.quiet H0.out (by first | exact below_drewN HB.out _ | exact below_drewN (below_drewN HB.out _) _)
  ·have h2b : (to' != S.id) = true := by rw [bne_iff_ne]; exact h2
   clear h h1 hno h2
   go_enter Tryz.func47, Tryz.ntmps47
   go_wp2
   go_quiet ((go_at_call 18; first | exact zAf (zAh c S _ (Hat1.out.drewN _) Hn.out) | exact quiet_add_left (zAh c S _ (Hat1.out.drewN _) Hn.out)))
   go_wp2_with fail
   refine bodyPost_ret (results_none rfl _ _ _) rfl ?_
   exact GDone.quiet H0.out (by first | exact below_drewN HB.out _ | exact below_drewN (below_drewN HB.out _) _)
theorem zIu {G : Gh} {D : Dt} {S : CSt} (h : Gc w0 c kb mb n id bal G Z D S w) (v : Nat) (bl : Int) (gen basis fl tp rd pa po : Int) (mk pt : ByteArray) (la : Option Addr) (ll lc : Nat) (hv : v < n) (hp : S.phase ≠ 0) :
  Calls Tryz.prog 47 #[.pointer (some ⟨c, 0, none⟩), .agg #[.int .i64 3, .int .i64 (v : Int), .int .i64 S.id, .int .i64 bl, .int .i64 gen, .int .i64 basis, .int .i64 fl, .int .i64 tp, .int .i64 rd, .string mk, .int .i64 pa, .int .i64 po, .string pt, .slice la ll lc]] w (GDone w0 c kb mb n id bal G Z w) := by
 have hbl := h.at_.1.lt
 have hn1 := h.gf.n1
 have hn9 := h.gf.n9
 have c0 : w.cell? ⟨c, 0, none⟩ = some (.int .i64 S.id) := h.at_.hd 0 (by omega)
 have c1 : w.cell? ⟨c, 1, none⟩ = some (.int .i64 (n : Int)) := by rw [← h.gf.n_]; exact h.at_.hd 1 (by omega)
 have c3 : w.cell? ⟨c, 3, none⟩ = some (.int .i64 S.ballot) := h.at_.hd 3 (by omega)
 have c4 : w.cell? ⟨c, 4, none⟩ = some (.int .i64 S.phase) := h.at_.hd 4 (by omega)
 have Hn := hid (show 1 ≤ S.n by rw [h.gf.n_]; omega)
 have H0 := hid h
 have Hat1 := hid (h.at_.alloc (.cells #[.int .i64 3, .int .i64 (v : Int), .int .i64 S.id, .int .i64 bl, .int .i64 gen, .int .i64 basis, .int .i64 fl, .int .i64 tp, .int .i64 rd, .string mk, .int .i64 pa, .int .i64 po, .string pt, .slice la ll lc] 30))
 have HB := hid ((Below.refl w.heap.size w).alloc (Nat.le_refl _) (.cells #[.int .i64 3, .int .i64 (v : Int), .int .i64 S.id, .int .i64 bl, .int .i64 gen, .int .i64 basis, .int .i64 fl, .int .i64 tp, .int .i64 rd, .string mk, .int .i64 pa, .int .i64 po, .string pt, .slice la ll lc] 30))
 have HQ := hid (Blk.new w [.int .i64 3, .int .i64 (v : Int), .int .i64 S.id, .int .i64 bl, .int .i64 gen, .int .i64 basis, .int .i64 fl, .int .i64 tp, .int .i64 rd, .string mk, .int .i64 pa, .int .i64 po, .string pt, .slice la ll lc] 30)
 have e1 : (S.id != S.id) = false := by simp
 have e2 : (S.ballot != S.ballot) = false := by simp
 have e3 : (S.ballot == S.ballot) = true := by simp
 have hv0 : ¬ (v : Int) < 0 := by omega
 have hv3 : ¬ (n : Int) ≤ (v : Int) := by omega
 have hv4 : (v : Int) < (n : Int) := by omega
 have hpb : (S.phase == 0) = false := by rw [beq_eq_false_iff_ne]; exact hp
 have HD := hid (fun w1 (hb : Below w.heap.size w w1) => gc_depose (h.quiet hb))
 generalize S.phase = ph at c4 hpb
 clear h hp
 by_cases hgt : S.ballot < bl
 ·
  go_enter Tryz.func47, Tryz.ntmps47
  go_wp2
  go_quiet ((go_at_call 18; first | exact zAf (zAh c S _ (Hat1.out.drewN _) Hn.out) | exact quiet_add_left (zAh c S _ (Hat1.out.drewN _) Hn.out)))
  go_wp2_with fail
  go_quiet (fail)
  go_wp2_with fail
  refine (HD.out _ (below_drewN HB.out _)).mono ?_
  rintro e w2 ⟨rfl, hG, hF⟩
  have HO := hid (And.intro hG hF)
  clear hG hF
  go_wp2_with fail
  refine bodyPost_ret (results_none rfl _ _ _) rfl ?_
  exact GDone.step (below_drewN HB.out _) HO.out.1 HO.out.2
 ·
  go_enter Tryz.func47, Tryz.ntmps47
  go_wp2
  go_quiet ((go_at_call 18; first | exact zAf (zAh c S _ (Hat1.out.drewN _) Hn.out) | exact quiet_add_left (zAh c S _ (Hat1.out.drewN _) Hn.out)))
  go_wp2_with fail
  go_quiet (fail)
  go_wp2_with fail
  refine bodyPost_ret (results_none rfl _ _ _) rfl ?_
  exact GDone.quiet H0.out (by first | exact below_drewN HB.out _ | exact below_drewN (below_drewN HB.out _) _)
theorem zIg {G : Gh} {D : Dt} {S : CSt} (h : Gc w0 c kb mb n id bal G Z D S w) (hZ : Z ≤ 100000) (v : Nat) (gen basis fl tp rd pa po : Int) (mk pt : ByteArray) (la : Option Addr) (lc : Nat) (es : List Ent) (hv : v < n) (hph : S.phase = 1) (hes : zBf w0 la es) (hel : es.length ≤ 1000) :
  Calls Tryz.prog 47 #[.pointer (some ⟨c, 0, none⟩), .agg #[.int .i64 2, .int .i64 (v : Int), .int .i64 S.id, .int .i64 S.ballot, .int .i64 gen, .int .i64 basis, .int .i64 fl, .int .i64 tp, .int .i64 rd, .string mk, .int .i64 pa, .int .i64 po, .string pt, .slice la es.length lc]] w (GDone w0 c kb mb n id bal G (Z + 1) w) := by
 have hbl := h.at_.1.lt
 have hn1 := h.gf.n1
 have hn9 := h.gf.n9
 have c0 : w.cell? ⟨c, 0, none⟩ = some (.int .i64 S.id) := h.at_.hd 0 (by omega)
 have c1 : w.cell? ⟨c, 1, none⟩ = some (.int .i64 (n : Int)) := by rw [← h.gf.n_]; exact h.at_.hd 1 (by omega)
 have c3 : w.cell? ⟨c, 3, none⟩ = some (.int .i64 S.ballot) := h.at_.hd 3 (by omega)
 have c4 : w.cell? ⟨c, 4, none⟩ = some (.int .i64 1) := by rw [← hph]; exact h.at_.hd 4 (by omega)
 have Hn := hid (show 1 ≤ S.n by rw [h.gf.n_]; omega)
 have H0 := hid h
 have Hat1 := hid (h.at_.alloc (.cells #[.int .i64 2, .int .i64 (v : Int), .int .i64 S.id, .int .i64 S.ballot, .int .i64 gen, .int .i64 basis, .int .i64 fl, .int .i64 tp, .int .i64 rd, .string mk, .int .i64 pa, .int .i64 po, .string pt, .slice la es.length lc] 30))
 have HB := hid ((Below.refl w.heap.size w).alloc (Nat.le_refl _) (.cells #[.int .i64 2, .int .i64 (v : Int), .int .i64 S.id, .int .i64 S.ballot, .int .i64 gen, .int .i64 basis, .int .i64 fl, .int .i64 tp, .int .i64 rd, .string mk, .int .i64 pa, .int .i64 po, .string pt, .slice la es.length lc] 30))
 have HQ := hid (Blk.new w [.int .i64 2, .int .i64 (v : Int), .int .i64 S.id, .int .i64 S.ballot, .int .i64 gen, .int .i64 basis, .int .i64 fl, .int .i64 tp, .int .i64 rd, .string mk, .int .i64 pa, .int .i64 po, .string pt, .slice la es.length lc] 30)
 have e1 : (S.id != S.id) = false := by simp
 have e2 : (S.ballot != S.ballot) = false := by simp
 have e3 : (S.ballot == S.ballot) = true := by simp
 have hv0 : ¬ (v : Int) < 0 := by omega
 have hv3 : ¬ (n : Int) ≤ (v : Int) := by omega
 have hv4 : (v : Int) < (n : Int) := by omega
 have HD := hid (fun w1 (hb : Below w.heap.size w w1) => gc_promise (h.quiet hb) hZ v hv 2 S.id S.ballot gen basis fl tp rd pa po mk pt la lc es hes hel)
 clear h hph hes
 go_enter Tryz.func47, Tryz.ntmps47
 go_wp2
 go_quiet ((go_at_call 18; first | exact zAf (zAh c S _ (Hat1.out.drewN _) Hn.out) | exact quiet_add_left (zAh c S _ (Hat1.out.drewN _) Hn.out)))
 go_wp2_with fail
 go_quiet (fail)
 go_wp2_with fail
 refine (HD.out _ (below_drewN HB.out _)).mono ?_
 rintro e w2 ⟨rfl, hG, hF⟩
 have HO := hid (And.intro hG hF)
 clear hG hF
 go_wp2_with fail
 refine bodyPost_ret (results_none rfl _ _ _) rfl ?_
 exact GDone.step (below_drewN HB.out _) HO.out.1 HO.out.2
theorem zIj {G : Gh} {D : Dt} {S : CSt} (h : Gc w0 c kb mb n id bal G Z D S w) (kind : Int) (v : Nat) (bl : Int) (gen basis fl tp rd pa po : Int) (mk pt : ByteArray) (la : Option Addr) (ll lc : Nat) (hv : v < n) (hph : S.phase = 1) (hk : (kind == 3) = false) (hno : kind ≠ 2 ∨ bl ≠ S.ballot) :
  Calls Tryz.prog 47 #[.pointer (some ⟨c, 0, none⟩), .agg #[.int .i64 kind, .int .i64 (v : Int), .int .i64 S.id, .int .i64 bl, .int .i64 gen, .int .i64 basis, .int .i64 fl, .int .i64 tp, .int .i64 rd, .string mk, .int .i64 pa, .int .i64 po, .string pt, .slice la ll lc]] w (GDone w0 c kb mb n id bal G Z w) := by
 have hbl := h.at_.1.lt
 have hn1 := h.gf.n1
 have hn9 := h.gf.n9
 have c0 : w.cell? ⟨c, 0, none⟩ = some (.int .i64 S.id) := h.at_.hd 0 (by omega)
 have c1 : w.cell? ⟨c, 1, none⟩ = some (.int .i64 (n : Int)) := by rw [← h.gf.n_]; exact h.at_.hd 1 (by omega)
 have c3 : w.cell? ⟨c, 3, none⟩ = some (.int .i64 S.ballot) := h.at_.hd 3 (by omega)
 have c4 : w.cell? ⟨c, 4, none⟩ = some (.int .i64 1) := by rw [← hph]; exact h.at_.hd 4 (by omega)
 have Hn := hid (show 1 ≤ S.n by rw [h.gf.n_]; omega)
 have H0 := hid h
 have Hat1 := hid (h.at_.alloc (.cells #[.int .i64 kind, .int .i64 (v : Int), .int .i64 S.id, .int .i64 bl, .int .i64 gen, .int .i64 basis, .int .i64 fl, .int .i64 tp, .int .i64 rd, .string mk, .int .i64 pa, .int .i64 po, .string pt, .slice la ll lc] 30))
 have HB := hid ((Below.refl w.heap.size w).alloc (Nat.le_refl _) (.cells #[.int .i64 kind, .int .i64 (v : Int), .int .i64 S.id, .int .i64 bl, .int .i64 gen, .int .i64 basis, .int .i64 fl, .int .i64 tp, .int .i64 rd, .string mk, .int .i64 pa, .int .i64 po, .string pt, .slice la ll lc] 30))
 have HQ := hid (Blk.new w [.int .i64 kind, .int .i64 (v : Int), .int .i64 S.id, .int .i64 bl, .int .i64 gen, .int .i64 basis, .int .i64 fl, .int .i64 tp, .int .i64 rd, .string mk, .int .i64 pa, .int .i64 po, .string pt, .slice la ll lc] 30)
 have e1 : (S.id != S.id) = false := by simp
 have e2 : (S.ballot != S.ballot) = false := by simp
 have e3 : (S.ballot == S.ballot) = true := by simp
 have hv0 : ¬ (v : Int) < 0 := by omega
 have hv3 : ¬ (n : Int) ≤ (v : Int) := by omega
 have hv4 : (v : Int) < (n : Int) := by omega
 clear h hph
 by_cases h2 : kind = 2
 ·have h2b : (kind == 2) = true := by rw [h2]; rfl
  have hbb : (bl == S.ballot) = false := by rw [beq_eq_false_iff_ne]; exact hno.resolve_left (fun x => x h2)
  clear hno h2
  go_enter Tryz.func47, Tryz.ntmps47
  go_wp2
  go_quiet ((go_at_call 18; first | exact zAf (zAh c S _ (Hat1.out.drewN _) Hn.out) | exact quiet_add_left (zAh c S _ (Hat1.out.drewN _) Hn.out)))
  go_wp2_with fail
  go_quiet (fail)
  go_wp2_with fail
  refine bodyPost_ret (results_none rfl _ _ _) rfl ?_
  exact GDone.quiet H0.out (by first | exact below_drewN HB.out _ | exact below_drewN (below_drewN HB.out _) _)
 ·have h2b : (kind == 2) = false := by rw [beq_eq_false_iff_ne]; exact h2
  clear hno h2
  go_enter Tryz.func47, Tryz.ntmps47
  go_wp2
  go_quiet ((go_at_call 18; first | exact zAf (zAh c S _ (Hat1.out.drewN _) Hn.out) | exact quiet_add_left (zAh c S _ (Hat1.out.drewN _) Hn.out)))
  go_wp2_with fail
  go_quiet (fail)
  go_wp2_with fail
  refine bodyPost_ret (results_none rfl _ _ _) rfl ?_
  exact GDone.quiet H0.out (by first | exact below_drewN HB.out _ | exact below_drewN (below_drewN HB.out _) _)
theorem zGm {G : Gh} {D : Dt} {S : CSt} (h : Gc w0 c kb mb n id bal G Z D S w) (v : Nat) (bl : Int) (gen basis fl tp rd pa po : Int) (mk pt : ByteArray) (la : Option Addr) (ll lc : Nat) (hv : v < n) (hph : S.phase = 2) (hbb : G.bb ≤ 900000000) (hpt : pt.size ≤ 9223372036854775807) :
  Calls Tryz.prog 47 #[.pointer (some ⟨c, 0, none⟩), .agg #[.int .i64 14, .int .i64 (v : Int), .int .i64 S.id, .int .i64 bl, .int .i64 gen, .int .i64 basis, .int .i64 fl, .int .i64 tp, .int .i64 rd, .string mk, .int .i64 pa, .int .i64 po, .string pt, .slice la ll lc]] w (GDone w0 c kb mb n id bal G Z w) := by
 have hbl := h.at_.1.lt
 have hn1 := h.gf.n1
 have hn9 := h.gf.n9
 have c0 : w.cell? ⟨c, 0, none⟩ = some (.int .i64 S.id) := h.at_.hd 0 (by omega)
 have c1 : w.cell? ⟨c, 1, none⟩ = some (.int .i64 (n : Int)) := by rw [← h.gf.n_]; exact h.at_.hd 1 (by omega)
 have c3 : w.cell? ⟨c, 3, none⟩ = some (.int .i64 S.ballot) := h.at_.hd 3 (by omega)
 have c4 : w.cell? ⟨c, 4, none⟩ = some (.int .i64 2) := by rw [← hph]; exact h.at_.hd 4 (by omega)
 have Hn := hid (show 1 ≤ S.n by rw [h.gf.n_]; omega)
 have H0 := hid h
 have Hat1 := hid (h.at_.alloc (.cells #[.int .i64 14, .int .i64 (v : Int), .int .i64 S.id, .int .i64 bl, .int .i64 gen, .int .i64 basis, .int .i64 fl, .int .i64 tp, .int .i64 rd, .string mk, .int .i64 pa, .int .i64 po, .string pt, .slice la ll lc] 30))
 have HB := hid ((Below.refl w.heap.size w).alloc (Nat.le_refl _) (.cells #[.int .i64 14, .int .i64 (v : Int), .int .i64 S.id, .int .i64 bl, .int .i64 gen, .int .i64 basis, .int .i64 fl, .int .i64 tp, .int .i64 rd, .string mk, .int .i64 pa, .int .i64 po, .string pt, .slice la ll lc] 30))
 have HQ := hid (Blk.new w [.int .i64 14, .int .i64 (v : Int), .int .i64 S.id, .int .i64 bl, .int .i64 gen, .int .i64 basis, .int .i64 fl, .int .i64 tp, .int .i64 rd, .string mk, .int .i64 pa, .int .i64 po, .string pt, .slice la ll lc] 30)
 have e1 : (S.id != S.id) = false := by simp
 have e2 : (S.ballot != S.ballot) = false := by simp
 have e3 : (S.ballot == S.ballot) = true := by simp
 have hv0 : ¬ (v : Int) < 0 := by omega
 have hv3 : ¬ (n : Int) ≤ (v : Int) := by omega
 have hv4 : (v : Int) < (n : Int) := by omega
 have HD := hid (fun w1 (hb : Below w.heap.size w w1) => gc_piece (h.quiet hb) hbb 14 (v : Int) S.id bl gen basis fl tp rd pa po mk pt (.slice la ll lc) hpt)
 clear h hph
 go_enter Tryz.func47, Tryz.ntmps47
 go_wp2
 go_quiet ((go_at_call 18; first | exact zAf (zAh c S _ (Hat1.out.drewN _) Hn.out) | exact quiet_add_left (zAh c S _ (Hat1.out.drewN _) Hn.out)))
 go_wp2_with fail
 refine (HD.out _ (below_drewN HB.out _)).mono ?_
 rintro e w2 ⟨rfl, hG, hF⟩
 have HO := hid (And.intro hG hF)
 clear hG hF
 go_wp2_with fail
 refine bodyPost_ret (results_none rfl _ _ _) rfl ?_
 exact GDone.step (below_drewN HB.out _) HO.out.1 HO.out.2
theorem zGi {G : Gh} {D : Dt} {S : CSt} (h : Gc w0 c kb mb n id bal G Z D S w) (v : Nat) (bl : Int) (gen basis fl tp rd pa po : Int) (mk pt : ByteArray) (la : Option Addr) (ll lc : Nat) (hv : v < n) (hph : S.phase = 2)  :
  Calls Tryz.prog 47 #[.pointer (some ⟨c, 0, none⟩), .agg #[.int .i64 10, .int .i64 (v : Int), .int .i64 S.id, .int .i64 bl, .int .i64 gen, .int .i64 basis, .int .i64 fl, .int .i64 tp, .int .i64 rd, .string mk, .int .i64 pa, .int .i64 po, .string pt, .slice la ll lc]] w (GDone w0 c kb mb n id bal G Z w) := by
 have hbl := h.at_.1.lt
 have hn1 := h.gf.n1
 have hn9 := h.gf.n9
 have c0 : w.cell? ⟨c, 0, none⟩ = some (.int .i64 S.id) := h.at_.hd 0 (by omega)
 have c1 : w.cell? ⟨c, 1, none⟩ = some (.int .i64 (n : Int)) := by rw [← h.gf.n_]; exact h.at_.hd 1 (by omega)
 have c3 : w.cell? ⟨c, 3, none⟩ = some (.int .i64 S.ballot) := h.at_.hd 3 (by omega)
 have c4 : w.cell? ⟨c, 4, none⟩ = some (.int .i64 2) := by rw [← hph]; exact h.at_.hd 4 (by omega)
 have Hn := hid (show 1 ≤ S.n by rw [h.gf.n_]; omega)
 have H0 := hid h
 have Hat1 := hid (h.at_.alloc (.cells #[.int .i64 10, .int .i64 (v : Int), .int .i64 S.id, .int .i64 bl, .int .i64 gen, .int .i64 basis, .int .i64 fl, .int .i64 tp, .int .i64 rd, .string mk, .int .i64 pa, .int .i64 po, .string pt, .slice la ll lc] 30))
 have HB := hid ((Below.refl w.heap.size w).alloc (Nat.le_refl _) (.cells #[.int .i64 10, .int .i64 (v : Int), .int .i64 S.id, .int .i64 bl, .int .i64 gen, .int .i64 basis, .int .i64 fl, .int .i64 tp, .int .i64 rd, .string mk, .int .i64 pa, .int .i64 po, .string pt, .slice la ll lc] 30))
 have HQ := hid (Blk.new w [.int .i64 10, .int .i64 (v : Int), .int .i64 S.id, .int .i64 bl, .int .i64 gen, .int .i64 basis, .int .i64 fl, .int .i64 tp, .int .i64 rd, .string mk, .int .i64 pa, .int .i64 po, .string pt, .slice la ll lc] 30)
 have e1 : (S.id != S.id) = false := by simp
 have e2 : (S.ballot != S.ballot) = false := by simp
 have e3 : (S.ballot == S.ballot) = true := by simp
 have hv0 : ¬ (v : Int) < 0 := by omega
 have hv3 : ¬ (n : Int) ≤ (v : Int) := by omega
 have hv4 : (v : Int) < (n : Int) := by omega
 have HD := hid (fun w1 (hb : Below w.heap.size w w1) => gc_far (h.quiet hb) v 10 S.id bl gen basis fl tp rd pa po mk pt (.slice la ll lc) (by omega))
 clear h hph
 go_enter Tryz.func47, Tryz.ntmps47
 go_wp2
 go_quiet ((go_at_call 18; first | exact zAf (zAh c S _ (Hat1.out.drewN _) Hn.out) | exact quiet_add_left (zAh c S _ (Hat1.out.drewN _) Hn.out)))
 go_wp2_with fail
 refine (HD.out _ (below_drewN HB.out _)).mono ?_
 rintro e w2 ⟨rfl, hG, hF⟩
 have HO := hid (And.intro hG hF)
 clear hG hF
 go_wp2_with fail
 refine bodyPost_ret (results_none rfl _ _ _) rfl ?_
 exact GDone.step (below_drewN HB.out _) HO.out.1 HO.out.2
end Go.Proofs.YtaemlplcjjbamaaGreatDoor
