/- The walk of a coordinator's fetches in whatever state. No co -/
import Derived.Test.YtaemlplcjjbamaaGreatDoorBGOut
import Derived.Test.YtaemlplcjjbamaaGreatDoorBGBox
namespace Go.Proofs.YtaemlplcjjbamaaGreatDoor
open Go.Lib (hid)
set_option maxRecDepth 100000
set_option maxHeartbeats 8000000
open Go Go.RowKit
set_option linter.unusedVariables false
variable {Z b c gh gp kb mb n : Nat} {bal id : Int} {v : Value} {w w' w0 : World}
theorem BoxOk.at {B : Nat} (h : BoxOk B w v) : v = .pointer none ∨ ∃ (b gp gh : Nat) (m : List (Option ByteArray)), v = .pointer (some ⟨b, 0, none⟩) ∧ B ≤ b ∧ B ≤ gp ∧ B ≤ gh ∧ b ≠ gp ∧ b ≠ gh ∧ gp ≠ gh ∧ Bx.BoxAt w b gp gh m ∧ 1 ≤ m.length ∧ m.length ≤ 4096 ∧ Bx.size m ≤ 524288 := by
 rcases h with h | ⟨b, gp, gh, m, a1, a2, a3, a4, a5, a6, a7, a8, a9, a10, a11, a12, a13⟩
 ·exact Or.inl h
 ·exact Or.inr ⟨b, gp, gh, m, a1, a2, a3, a4, a5, a6, a7, ⟨a8, a9, a10⟩, a11, a12, a13⟩
theorem boxOk_of {B : Nat} {m : List (Option ByteArray)} (h : Bx.BoxAt w b gp gh m) (a2 : B ≤ b) (a3 : B ≤ gp) (a4 : B ≤ gh) (a5 : b ≠ gp) (a6 : b ≠ gh) (a7 : gp ≠ gh) (a11 : 1 ≤ m.length) (a12 : m.length ≤ 4096) (a13 : Bx.size m ≤ 524288) : BoxOk B w (.pointer (some ⟨b, 0, none⟩)) :=
 Or.inr ⟨b, gp, gh, m, rfl, a2, a3, a4, a5, a6, a7, h.1, h.2.1, h.2.2, a11, a12, a13⟩
theorem zGX (m : List (Option ByteArray)) (k : Nat) : (Bx.firstTo m 32 k).length ≤ 32 := by
 unfold Bx.firstTo
 rw [List.length_take]
 have : ((32 : Int)).toNat = 32 := rfl
 omega
theorem Gf.setFet {G : Gh} {D : Dt} {S : CSt} (h : Gf w0 c kb mb n id bal G Z D S w) (F : FetD) (hF : D.fet = some F) (F' : FetD) (hf : F'.f = F.f) (hT : Touch (fun k => k = F.f) w w') (hB : Blk w' F.f (zCm F') 129) (hbox : BoxOk w0.heap.size w' F'.box) :
  Gf w0 c kb mb n id bal G Z { D with fet := some F' } S w' ∧ Fr w0 w w' := by
 obtain ⟨b1, b2, b3⟩ := h.fetB F hF
 have hk : Keep [129] w w' := Keep.of_touch hT (fun q _ hq => by subst hq; exact Tyd.blk b1 (by simp)) (by decide)
 have hab : Abw w0 w w' := hT.mono (fun q _ hq => by omega)
 have hg0 : Gf w0 c kb mb n id bal G Z { D with fet := none } { S with fetch := .pointer none } w := { h with
  fet := rfl
  fetB := fun F hF => by cases hF }
 have hg1 := hg0.keepX hk.1 (hab.below h.below) (hk.2 _ _ _ h.bok) (fetch := fun _ F hF => by cases hF)
 exact ⟨{ hg1 with
  fet := by rw [h.fet, hF]; show ptrO (some F.f) = ptrO (some F'.f); rw [hf]
  fetB := fun F2 e => by
   injection e with e
   subst e
   exact ⟨by rw [hf]; exact hB, by rw [hf]; exact b2, hbox⟩ }, ⟨hk.1.mono (by decide), hab⟩⟩
theorem gc_fetches {G : Gh} {D : Dt} {S : CSt} (h : Gc w0 c kb mb n id bal G Z D S w) :
  Calls Tryz.prog 40 #[.pointer (some ⟨c, 0, none⟩)] w (GOut w0 c kb mb n id bal G Z 288 w) := by
 have hbl := h.at_.1.lt
 have H0 := hid h
 have hn1 := h.gf.n1
 have hn9 := h.gf.n9
 have hw0 := h.gf.below.size
 have c85 : w.cell? ⟨c, 85, none⟩ = some S.fetch := h.at_.ft 1
 cases hF : D.fet with
 | none =>
  rw [show S.fetch = .pointer none by rw [h.gf.fet, hF]; rfl] at c85
  clear h hF
  go_enter Tryz.func40, Tryz.ntmps40
  go_wp2_with fail
  go_ret
  exact zCo ⟨_, _, H0.out⟩ (Fr.of_below (Below.refl _ _))
 | some F =>
  obtain ⟨b1, b2, b3⟩ := h.gf.fetB F hF
  have hsf : S.fetch = .pointer (some ⟨F.f, 0, none⟩) := by rw [h.gf.fet, hF]; rfl
  rw [hsf] at c85
  have k0 : w.cell? ⟨F.f, 0, none⟩ = some (.int .i64 F.gen) := b1.cell 0
  have hfl := b1.lt
  have HKn := hid (zEp h F.gen)
  have HFc := hid (fun (w' : World) (hb : Below w.heap.size w w') => (show w'.cell? ⟨c, 85, none⟩ = some (.pointer (some ⟨F.f, 0, none⟩)) ∧ w'.cell? ⟨F.f, 0, none⟩ = some (.int .i64 F.gen) ∧ w'.cell? ⟨c, 5, none⟩ = some (.int .i64 S.floor) ∧ w'.frozen? ⟨c, 85, none⟩ = false ∧ w'.cell? ⟨F.f, 4, none⟩ = some (.int .i64 F.age) ∧ w'.frozen? ⟨F.f, 4, none⟩ = false from ⟨by rw [← hsf]; exact (h.at_.below hb).ft 1, (b1.below hb).cell 0, (h.at_.below hb).hd 5 (by omega), (h.at_.below hb).1.free 85, (b1.below hb).cell 4, (b1.below hb).free 4⟩))
  have HF := hid hF
  have Hb1 := hid b1
  have Hb3 := hid b3
  clear h b1 b3 hsf hF
  go_enter Tryz.func40, Tryz.ntmps40
  go_wp2_with fail
  refine HKn.out.mono ?_
  rintro e w1 ⟨T, ok, rfl, _, hb1⟩
  obtain ⟨d85, d0, d5, f85, d4, f4⟩ := HFc.out w1 hb1
  have HB1 := hid hb1
  have hz1 := hb1.size
  have drop : ∀ nq, GOut w0 c kb mb n id bal G Z 288 w (.returned (.slice none 0 0)) ((w1.drewN nq).setCell ⟨c, 85, none⟩ (.pointer none)) := fun nq => by
   have hq := below_drewN HB1.out nq
   have G2 := H0.out.quiet hq
   obtain ⟨g1, g2⟩ := G2.gf.coord G2.at_ (zAa (o := 85) (Touch.refl _ _) (.pointer none))
   exact zCo ⟨_, _, G2.at_.setFt 1 (.pointer none) { S with fetch := .pointer none } rfl rfl rfl, g1.noFet⟩ ((Fr.of_below hq).trans g2)
  have HDr := hid drop
  clear hb1 HKn c85 k0 drop
  cases ok with
  | true =>
   go_wp2_with fail
   go_quiet (fail)
   go_wp2_with fail
   go_ret
   exact HDr.out _
  | false =>
   by_cases hlo : F.gen < S.floor
   ·go_wp2_with fail
    go_quiet (fail)
    go_wp2_with fail
    go_ret
    exact HDr.out _
   ·clear HDr
    go_wp2_with fail
    go_quiet (fail)
    have hq := below_drewN HB1.out nq
    have G2 := hid (H0.out.quiet hq)
    have HF2 := hid (Fr.of_below (w0 := w0) hq)
    obtain ⟨d85, d0, d5, f85, d4, f4⟩ := HFc.out _ hq
    have Q2 := Hb1.out.below hq
    have X2 := Hb3.out.keep (KeepT.of_below (Ts := []) hq) (by simp) (by simp) (by simp)
    have HX2 := hid X2
    have HQ2 := hid Q2
    have hz2 := hq.size
    clear hq HB1 H0 HFc Hb1 Hb3 X2 Q2
    generalize w1.drewN nq = w2 at G2 HF2 d85 d0 d5 f85 d4 f4 HX2 HQ2 hz2 ⊢
    go_upto_region 8 with fail
    have T3 : Touch (fun k => k = F.f) w2 (w2.setCell ⟨F.f, 4, none⟩ (.int .i64 (wrap64 (F.age + 1)))) := zAa (Touch.refl _ _) _
    have Q3 : Blk (w2.setCell ⟨F.f, 4, none⟩ (.int .i64 (wrap64 (F.age + 1)))) F.f (zCm { F with age := wrap64 (F.age + 1) }) 129 := HQ2.out.set 4 _
    have k3 : KeepT [129] w2 (w2.setCell ⟨F.f, 4, none⟩ (.int .i64 (wrap64 (F.age + 1)))) := KeepT.of_touch T3 (fun q _ hq => Or.inl (by subst hq; exact Tyd.blk HQ2.out (by simp)))
    have X3 := HX2.out.keep k3 (by decide) (by decide) (by decide)
    obtain ⟨g3, f3⟩ := G2.out.gf.setFet F HF.out { F with age := wrap64 (F.age + 1) } rfl T3 Q3 X3
    have G3 : Hid (Gc w0 c kb mb n id bal G Z { D with fet := some { F with age := wrap64 (F.age + 1) } } S (w2.setCell ⟨F.f, 4, none⟩ (.int .i64 (wrap64 (F.age + 1))))) := hid ⟨G2.out.at_.keep k3 (by decide), g3⟩
    have HF3 := hid (HF2.out.trans f3)
    have HX3 := hid X3
    have HQ3 := hid Q3
    clear hlo T3 Q3 k3 X3 g3 f3 G2 HF2 HX2 HQ2 d85 d0 d5 f85 d4 f4
    generalize w2.setCell ⟨F.f, 4, none⟩ (.int .i64 (wrap64 (F.age + 1))) = w3 at G3 HF3 HX3 HQ3 ⊢
    obtain ⟨D3, hD3⟩ : ∃ D3, D3 = { D with fet := some { F with age := wrap64 (F.age + 1) } } := ⟨_, rfl⟩
    rw [← hD3] at G3
    have hf3 : S.fetch = .pointer (some ⟨F.f, 0, none⟩) := by rw [G3.out.gf.fet, hD3]; rfl
    have Hf3 := hid hf3
    clear hD3 hf3 HF
    go_upto_region 9 with fail
    have hb4 := (Below.refl w3.heap.size w3).alloc (Nat.le_refl _) (.cells #[.int .i64 0] 3)
    have R4 : (w3.alloc (.cells #[.int .i64 0] 3)).ownsRow w.heap.size 3 1 (.slice (some ⟨w3.heap.size, 0, none⟩) 1 1) 1 (Bx.numCells [0]) := by
     have h := World.ownsRow_lit (base := w.heap.size) (e := 3) (size := 1) w3 #[.int .i64 0] 1 (by have := HF3.out.2.size; omega) (by unfold maxLen; omega) (by simp)
     exact h
    have HR4 := hid R4
    have G4 := hid (G3.out.quiet hb4)
    have HF4 := hid (HF3.out.trans (Fr.of_below hb4))
    have HX4 := hid (HX3.out.keep (KeepT.of_below (Ts := []) hb4) (by simp) (by simp) (by simp))
    have HQ4 := hid (HQ3.out.below hb4)
    clear hb4 R4 G3 HF3 HX3 HQ3
    generalize w3.alloc (.cells #[.int .i64 0] 3) = w4 at HR4 G4 HF4 HX4 HQ4 ⊢
    generalize w3.heap.size = ab at HR4 ⊢
    have c85 : w4.cell? ⟨c, 85, none⟩ = some (.pointer (some ⟨F.f, 0, none⟩)) := by rw [← Hf3.out]; exact G4.out.at_.ft 1
    have k2 : w4.cell? ⟨F.f, 2, none⟩ = some F.box := HQ4.out.cell 2
    have hl4 := G4.out.at_.1.lt
    have hl4f := HQ4.out.lt
    have hbx := HX4.out.at
    obtain ⟨isb, his⟩ : ∃ isb : Bool, (isb = false ∧ F.box = .pointer none) ∨ (isb = true ∧ ∃ (b gp gh : Nat) (m : List (Option ByteArray)), F.box = .pointer (some ⟨b, 0, none⟩) ∧ Bx.BoxAt w4 b gp gh m ∧ m.length ≤ 4096) := by
     rcases hbx with e | ⟨b, gp, gh, m, e, _, _, _, _, _, _, e2, _, e3, _⟩
     ·exact ⟨false, Or.inl ⟨rfl, e⟩⟩
     ·exact ⟨true, Or.inr ⟨rfl, b, gp, gh, m, e, e2, e3⟩⟩
    have His := hid his
    clear hbx his
    go_cut [64] (fun v wx => v = .bool isb ∧ w4 = wx)
    case first =>
     rcases His.out with ⟨rfl, e⟩ | ⟨rfl, b, gp, gh, m, e, e2, e3⟩
     ·rw [e] at k2
      go_wp2_with fail
      go_meet
      exact ⟨rfl, rfl⟩
     ·rw [e] at k2
      clear e2
      go_wp2_with fail
      go_meet
      exact ⟨rfl, rfl⟩
    case rest =>
     obtain ⟨rfl, rfl⟩ := hcut
     go_upto_if 64 with (fail)
     go_cut [5] (fun v5 wx => ∃ (l : List Nat), Hid (wx.ownsRow w.heap.size 3 1 v5 l.length (Bx.numCells l)) ∧ l.length ≤ 32 ∧ Hid (Gc w0 c kb mb n id bal G Z D3 S wx) ∧ Hid (Fr w0 w wx) ∧ Hid (Blk wx F.f (zCm { F with age := wrap64 (F.age + 1) }) 129))
     case first =>
      rcases His.out with ⟨rfl, e⟩ | ⟨rfl, b, gp, gh, m, e, e2, e3⟩
      ·clear e
       go_wp2_with fail
       go_meet
       exact ⟨[0], HR4, by simp, G4, HF4, HQ4⟩
      ·rw [e] at k2
       have HMi := hid (Bx.missing_any b gp gh m 32 w4 e2 e3)
       have hm32 := zGX m m.length
       clear e e2
       go_wp2_with fail
       refine HMi.out.mono ?_
       clear HMi
       generalize Bx.firstTo m 32 m.length = l at hm32
       rintro e w5 ⟨v, rfl, hrow, hb5⟩
       have HO := hid (And.intro (zAB hrow (show w.heap.size ≤ w4.heap.size from HF4.out.2.size)) (And.intro (G4.out.quiet hb5) (And.intro (HF4.out.trans (Fr.of_below hb5)) (HQ4.out.below hb5))))
       clear hrow hb5
       obtain ⟨xa, xc, rfl⟩ := zAe HO.out.1
       go_wp2_with fail
       go_meet
       exact ⟨l, hid HO.out.1, hm32, hid HO.out.2.1, hid HO.out.2.2.1, hid HO.out.2.2.2⟩
     case rest =>
      obtain ⟨l, HL, hl32, G5, HF5, HQ5⟩ := hcut
      clear HR4 G4 HF4 HX4 HQ4 c85 k2 His
      generalize wc = w5 at HL G5 HF5 HQ5 ⊢
      obtain ⟨la, lc, rfl⟩ := zAe HL.out
      obtain ⟨L, hLl⟩ : ∃ L, L = l.length := ⟨_, rfl⟩
      rw [← hLl] at HL hl32 ⊢
      have HLl := hid hLl
      have c1 : w5.cell? ⟨c, 1, none⟩ = some (.int .i64 (n : Int)) := by rw [← G5.out.gf.n_]; exact G5.out.at_.hd 1 (by omega)
      have hl5 := G5.out.at_.1.lt
      clear hLl
      go_wp2_with fail
      go_loopw [6, 77] (fun ov iv wr => ∃ (v : Nat) (ms : List MG), iv = .int .i64 (v : Int) ∧ v ≤ n ∧ Hid (wr.ownsRow w.heap.size 30 14 ov ms.length (msgsV ms)) ∧ ms.length ≤ v * 32 ∧ Hid (∀ m ∈ ms, SentM m) ∧ Hid (Gc w0 c kb mb n id bal G Z D3 S wr) ∧ Hid (Fr w0 w wr) ∧ Hid (wr.ownsRow w.heap.size 3 1 (.slice la L lc) L (Bx.numCells l)) ∧ Hid (Blk wr F.f (zCm { F with age := wrap64 (F.age + 1) }) 129)) (fun _ iv _ => n - (intOf iv).toNat)
      case atStart => exact ⟨0, [], rfl, Nat.zero_le _, hid (World.ownsRow_nil _ _ _ _), by simp, hid (fun m hm => by cases hm), G5, HF5, HL, HQ5⟩
      case round =>
       obtain ⟨v, ms, rfl, hv, HV, hms, HS, HG, HFr, HLr, HQ⟩ := hrel
       clear G5 HF5 HL HQ5 c1
       by_cases hlt : v < n
       ·go_wp2_with fail
        go_loopw [6, 82] (fun ov iv wr => ∃ (j : Nat) (ms : List MG), iv = .int .i64 (j : Int) ∧ j ≤ L ∧ Hid (wr.ownsRow w.heap.size 30 14 ov ms.length (msgsV ms)) ∧ ms.length ≤ v * 32 + j ∧ Hid (∀ m ∈ ms, SentM m) ∧ Hid (Gc w0 c kb mb n id bal G Z D3 S wr) ∧ Hid (Fr w0 w wr) ∧ Hid (wr.ownsRow w.heap.size 3 1 (.slice la L lc) L (Bx.numCells l)) ∧ Hid (Blk wr F.f (zCm { F with age := wrap64 (F.age + 1) }) 129)) (fun _ iv _ => L - (intOf iv).toNat)
        case atStart => exact ⟨0, ms, rfl, Nat.zero_le _, HV, hms, HS, HG, HFr, HLr, HQ⟩
        case round =>
         obtain ⟨j, ms, rfl, hj, HV, hms, HS, HG, HFr, HLr, HQ⟩ := hrel
         by_cases hjl : j < L
         ·obtain ⟨g, cap, hvv, hg0, hg1, _, _, hcell⟩ := zAz HLr.out (by omega)
          simp only [Value.slice.injEq] at hvv
          obtain ⟨rfl, _, rfl⟩ := hvv
          obtain ⟨i, hi⟩ : ∃ i, l[j]? = some i := ⟨_, List.getElem?_eq_getElem (by have := HLl.out; omega)⟩
          have n1 : wr.cell? ⟨g, j, none⟩ = some (.int .i64 (i : Int)) := by
           have := hcell j (by omega)
           rw [this]; unfold Bx.numCells; rw [List.getElem?_map, hi]; rfl
          have HTo := hid (zEA c S (v : Int) 13 wr HG.out.at_)
          have hszr := HFr.out.2.size
          clear hcell hi
          go_wp2_with fail
          refine HTo.out.mono ?_
          rintro e w6 ⟨rfl, hb6⟩
          simp only [zBM]
          have HB6 := hid hb6
          have hz6 := hb6.size
          clear HTo hb6 n1
          go_upto_region 19 with fail
          have hbA : Below w6.heap.size w6 (w6.alloc (.cells #[.int .i64 13, .int .i64 S.id, .int .i64 (v : Int), .int .i64 S.ballot, .int .i64 0, .int .i64 0, .int .i64 0, .int .i64 0, .int .i64 0, .string ⟨#[]⟩, .int .i64 0, .int .i64 0, .string ⟨#[]⟩, .slice none 0 0] 30)) := (Below.refl _ w6).alloc (Nat.le_refl _) _
          have M7 := Blk.new w6 [.int .i64 13, .int .i64 S.id, .int .i64 (v : Int), .int .i64 S.ballot, .int .i64 0, .int .i64 0, .int .i64 0, .int .i64 0, .int .i64 0, .string ⟨#[]⟩, .int .i64 0, .int .i64 0, .string ⟨#[]⟩, .slice none 0 0] 30
          have HB7 := hid (zAd HB6.out hbA)
          have HM7 := hid M7
          clear hbA M7 HB6
          generalize w6.alloc (.cells #[.int .i64 13, .int .i64 S.id, .int .i64 (v : Int), .int .i64 S.ballot, .int .i64 0, .int .i64 0, .int .i64 0, .int .i64 0, .int .i64 0, .string ⟨#[]⟩, .int .i64 0, .int .i64 0, .string ⟨#[]⟩, .slice none 0 0] 30) = w7 at HB7 HM7 ⊢
          obtain ⟨q, hq⟩ : ∃ q, q = w6.heap.size := ⟨_, rfl⟩
          rw [← hq] at HM7 ⊢
          have hqr : wr.heap.size ≤ q := by omega
          clear hq
          have G7 := HG.out.quiet HB7.out
          have Q7 := HQ.out.below HB7.out
          have x85 : w7.cell? ⟨c, 85, none⟩ = some (.pointer (some ⟨F.f, 0, none⟩)) := by rw [← Hf3.out]; exact G7.at_.ft 1
          have y0 : w7.cell? ⟨F.f, 0, none⟩ = some (.int .i64 F.gen) := Q7.cell 0
          have y1 : w7.cell? ⟨F.f, 1, none⟩ = some (.string F.mrk) := Q7.cell 1
          have hql := HM7.out.lt
          have hcl7 := G7.at_.1.lt
          have hfl7 := Q7.lt
          have hcr := HG.out.at_.1.lt
          have hfr := HQ.out.lt
          have hcq : c ≠ q := by omega
          have hfq : F.f ≠ q := by omega
          have m3 : w7.cell? ⟨q, 3, none⟩ = some (.int .i64 S.ballot) := HM7.out.cell 3
          have m4 : w7.cell? ⟨q, 4, none⟩ = some (.int .i64 0) := HM7.out.cell 4
          have m9 : w7.cell? ⟨q, 9, none⟩ = some (.string ⟨#[]⟩) := HM7.out.cell 9
          have m10 : w7.cell? ⟨q, 10, none⟩ = some (.int .i64 0) := HM7.out.cell 10
          have m11 : w7.cell? ⟨q, 11, none⟩ = some (.int .i64 0) := HM7.out.cell 11
          have m12 : w7.cell? ⟨q, 12, none⟩ = some (.string ⟨#[]⟩) := HM7.out.cell 12
          have g3 := HM7.out.free 3
          have g4 := HM7.out.free 4
          have g9 := HM7.out.free 9
          have g10 := HM7.out.free 10
          have g11 := HM7.out.free 11
          have g12 := HM7.out.free 12
          clear G7 Q7
          go_cut [] (fun wx => Hid (Blk wx q [.int .i64 13, .int .i64 S.id, .int .i64 (v : Int), .int .i64 0, .int .i64 F.gen, .int .i64 0, .int .i64 0, .int .i64 0, .int .i64 0, .string F.mrk, .int .i64 (i : Int), .int .i64 0, .string ⟨#[]⟩, .slice none 0 0] 30) ∧ Hid (Below wr.heap.size wr wx))
          case first =>
           go_region
           all_goals
            have TS8 : Touch (fun j => j = q) w7 (((((((w7.setCell ⟨q, 3, none⟩ (.int .i64 0)).setCell ⟨q, 4, none⟩ (.int .i64 F.gen)).setCell ⟨q, 9, none⟩ (.string F.mrk)).setCell ⟨q, 10, none⟩ (.int .i64 (i : Int))).setCell ⟨q, 11, none⟩ (.int .i64 0)).setCell ⟨q, 12, none⟩ (.string ⟨#[]⟩)).drew) := (zAa (zAa (zAa (zAa (zAa (zAa (Touch.refl _ _) _) _) _) _) _) _).drew
            have M8 : Blk (((((((w7.setCell ⟨q, 3, none⟩ (.int .i64 0)).setCell ⟨q, 4, none⟩ (.int .i64 F.gen)).setCell ⟨q, 9, none⟩ (.string F.mrk)).setCell ⟨q, 10, none⟩ (.int .i64 (i : Int))).setCell ⟨q, 11, none⟩ (.int .i64 0)).setCell ⟨q, 12, none⟩ (.string ⟨#[]⟩)).drew) q [.int .i64 13, .int .i64 S.id, .int .i64 (v : Int), .int .i64 0, .int .i64 F.gen, .int .i64 0, .int .i64 0, .int .i64 0, .int .i64 0, .string F.mrk, .int .i64 (i : Int), .int .i64 0, .string ⟨#[]⟩, .slice none 0 0] 30 := ((((((HM7.out.set 3 _).set 4 _).set 9 _).set 10 _).set 11 _).set 12 _).drew
            have B8 : Below wr.heap.size wr (((((((w7.setCell ⟨q, 3, none⟩ (.int .i64 0)).setCell ⟨q, 4, none⟩ (.int .i64 F.gen)).setCell ⟨q, 9, none⟩ (.string F.mrk)).setCell ⟨q, 10, none⟩ (.int .i64 (i : Int))).setCell ⟨q, 11, none⟩ (.int .i64 0)).setCell ⟨q, 12, none⟩ (.string ⟨#[]⟩)).drew) := HB7.out.trans (TS8.below (by omega) (fun j hj e => by omega))
            clear x85 y0 y1 m3 m4 m9 m10 m11 m12 g3 g4 g9 g10 g11 g12
            go_wp2_with fail
            go_meet
            exact ⟨hid M8, hid B8⟩
          case rest =>
           obtain ⟨HM8, HB8⟩ := hcut
           clear x85 y0 y1 m3 m4 m9 m10 m11 m12 g3 g4 g9 g10 g11 g12 HM7 HB7
           generalize wc = w8 at HM8 HB8 ⊢
           have HG8 := hid (HG.out.quiet HB8.out)
           have HQ8 := hid (HQ.out.below HB8.out)
           have HV8 := hid (zAc HV.out HB8.out)
           have HL8 := hid (zAc HLr.out HB8.out)
           have HF8 := hid (HFr.out.trans (Fr.of_below HB8.out))
           have hsz8 := HF8.out.2.size
           have M8 := HM8.out
           have n0 : w8.cell? ⟨q, 0, none⟩ = some (.int .i64 13) := M8.cell 0
           have n1 : w8.cell? ⟨q, 1, none⟩ = some (.int .i64 S.id) := M8.cell 1
           have n2 : w8.cell? ⟨q, 2, none⟩ = some (.int .i64 (v : Int)) := M8.cell 2
           have n3 : w8.cell? ⟨q, 3, none⟩ = some (.int .i64 0) := M8.cell 3
           have n4 : w8.cell? ⟨q, 4, none⟩ = some (.int .i64 F.gen) := M8.cell 4
           have n5 : w8.cell? ⟨q, 5, none⟩ = some (.int .i64 0) := M8.cell 5
           have n6 : w8.cell? ⟨q, 6, none⟩ = some (.int .i64 0) := M8.cell 6
           have n7 : w8.cell? ⟨q, 7, none⟩ = some (.int .i64 0) := M8.cell 7
           have n8 : w8.cell? ⟨q, 8, none⟩ = some (.int .i64 0) := M8.cell 8
           have n9 : w8.cell? ⟨q, 9, none⟩ = some (.string F.mrk) := M8.cell 9
           have n10 : w8.cell? ⟨q, 10, none⟩ = some (.int .i64 (i : Int)) := M8.cell 10
           have n11 : w8.cell? ⟨q, 11, none⟩ = some (.int .i64 0) := M8.cell 11
           have n12 : w8.cell? ⟨q, 12, none⟩ = some (.string ⟨#[]⟩) := M8.cell 12
           have n13 : w8.cell? ⟨q, 13, none⟩ = some (.slice none 0 0) := M8.cell 13
           have hql8 := M8.lt
           clear M8 HM8 HV HG HQ HFr HLr HB8
           obtain ⟨oa, oc, rfl⟩ := zAe HV8.out
           obtain ⟨ml, hml⟩ : ∃ ml, ml = ms.length := ⟨_, rfl⟩
           rw [← hml] at HV8 hms ⊢
           have Hml := hid hml
           clear hml
           go_wp2_with (at_builtin; refine zAx rfl _ _ 40 rfl w.heap.size 30 14 144 Tryz.underlying40 _ zBE rfl (by decide) _ _ _ rfl HV8.out w8.heap.size rfl [.int .i64 13, .int .i64 S.id, .int .i64 (v : Int), .int .i64 0, .int .i64 F.gen, .int .i64 0, .int .i64 0, .int .i64 0, .int .i64 0, .string F.mrk, .int .i64 (i : Int), .int .i64 0, .string ⟨#[]⟩, .slice none 0 0] rfl rfl (by simp [Value.oneCell']) ?c1 ?c2 ?c3 ?_)
           case c1 => unfold maxLen; omega
           case c2 => omega
           case c3 => first | omega | (simp; omega)
           intro v9 w9 hown hgr
           clear n0 n1 n2 n3 n4 n5 n6 n7 n8 n9 n10 n11 n12 n13
           obtain ⟨g9, f9, k9⟩ := zDl HG8.out HF8.out hw0 HV8.out ((Below.refl w8.heap.size w8).alloc (Nat.le_refl _) _) hgr
           have HG9 := hid g9
           have HF9 := hid f9
           have HQ9 := hid (k9.1.1 _ _ _ (by decide) HQ8.out)
           have HL9 := hid (k9.1.2 _ _ _ _ _ _ (by decide) HL8.out)
           have HV9 := hid (show w9.ownsRow w.heap.size 30 14 v9 (ms ++ [{ MG.zero with k := 13, fr := S.id, to_ := v, gen := F.gen, mrk := F.mrk, pa := (i : Int) }]).length (msgsV (ms ++ [{ MG.zero with k := 13, fr := S.id, to_ := v, gen := F.gen, mrk := F.mrk, pa := (i : Int) }])) from by rw [List.length_append, ← Hml.out, zAL]; exact hown)
           clear hown hgr g9 f9 k9 HG8 HQ8 HV8 HL8 HF8
           go_wp2_with fail
           go_roundw
           case rel => exact ⟨j + 1, ms ++ [{ MG.zero with k := 13, fr := S.id, to_ := v, gen := F.gen, mrk := F.mrk, pa := (i : Int) }], by go_num, by omega, HV9, by rw [List.length_append, ← Hml.out]; simp; omega, hid (fun x hx => by
            rcases List.mem_append.1 hx with e | e
            ·exact HS.out x e
            ·rw [List.mem_singleton.1 e]; exact ⟨rfl, rfl, rfl, Nat.zero_le _⟩), HG9, HF9, HL9, HQ9⟩
           case measure => simp [intOf]; omega
         ·have hjl2 : j = L := by omega
          go_wp2_with fail
          go_roundw
          case rel => exact ⟨v + 1, ms, by go_num, by omega, HV, by omega, HS, HG, HFr, HLr, HQ⟩
          case measure => simp [intOf]; omega
       ·obtain rfl : v = n := by omega
        go_wp2_with fail
        go_ret
        exact ⟨_, ms, rfl, HV.out, by omega, HS.out, ⟨_, _, HG.out⟩, HFr.out⟩
theorem boxOk_at {B : Nat} {m : List (Option ByteArray)} (h : Bx.BoxAt w b gp gh m) (a2 : B ≤ b) (a3 : B ≤ gp) (a4 : B ≤ gh) (a11 : 1 ≤ m.length) (a12 : m.length ≤ 4096) (a13 : Bx.size m ≤ 524288) : BoxOk B w (.pointer (some ⟨b, 0, none⟩)) :=
 boxOk_of h a2 a3 a4 (h.1.ne h.2.1 (by decide)) (h.1.ne h.2.2 (by decide)) (h.2.1.ne h.2.2 (by decide)) a11 a12 a13
theorem Gf.putBox {G : Gh} {D : Dt} {S : CSt} (h : Gf w0 c kb mb n id bal G Z D S w) (F : FetD) (hF : D.fet = some F) (b gp gh : Nat) (m m' : List (Option ByteArray)) (hb : F.box = .pointer (some ⟨b, 0, none⟩)) (hB : Bx.BoxAt w b gp gh m) (a2 : w0.heap.size ≤ b) (a3 : w0.heap.size ≤ gp) (a4 : w0.heap.size ≤ gh) (hT : Touch (Bx.InBox b gp gh) w w') (hB' : Bx.BoxAt w' b gp gh m') (a11 : 1 ≤ m'.length) (a12 : m'.length ≤ 4096) (a13 : Bx.size m' ≤ 524288) :
  Gf w0 c kb mb n id bal G Z D S w' ∧ Fr w0 w w' ∧ KeepT [166, 9, 4] w w' := by
 obtain ⟨b1, b2, b3⟩ := h.fetB F hF
 have hk : Keep [166, 9, 4] w w' := Keep.of_touch hT (fun q _ hq => by
  rcases hq with rfl | rfl | rfl
  ·exact Tyd.blk hB.1 (by simp)
  ·exact Tyd.blk hB.2.1 (by simp)
  ·exact Tyd.blk hB.2.2 (by simp)) (by decide)
 have hab : Abw w0 w w' := hT.mono (fun q _ hq => by rcases hq with rfl | rfl | rfl <;> assumption)
 refine ⟨h.keepX hk.1 (hab.below h.below) (hk.2 _ _ _ h.bok) (fetch := fun _ F' hF' => ?_), ⟨hk.1.mono (by decide), hab⟩, hk.1⟩
 rw [hF] at hF'
 injection hF' with hF'
 subst hF'
 exact ⟨hk.1.1 _ _ _ (by decide) b1, by rw [hb]; exact boxOk_at hB' a2 a3 a4 a11 a12 a13⟩
structure zBX (w0 : World) (c kb mb n : Nat) (id bal : Int) (G : Gh) (Z : Nat) (D : Dt) (S : CSt) (F : FetD) (b gp gh : Nat) (m : List (Option ByteArray)) (w : World) : Prop where
 gc : Gc w0 c kb mb n id bal G Z D S w
 fet : D.fet = some F
 box : F.box = .pointer (some ⟨b, 0, none⟩)
 at_ : Bx.BoxAt w b gp gh m
 b0 : w0.heap.size ≤ b
 gp0 : w0.heap.size ≤ gp
 gh0 : w0.heap.size ≤ gh
 l1 : 1 ≤ m.length
 l2 : m.length ≤ 4096
 sz : Bx.size m ≤ 524288
theorem zBX.quiet {G : Gh} {D : Dt} {S : CSt} {F : FetD} {m : List (Option ByteArray)} (h : zBX w0 c kb mb n id bal G Z D S F b gp gh m w) (hb : Below w.heap.size w w') : zBX w0 c kb mb n id bal G Z D S F b gp gh m w' :=
 { h with gc := h.gc.quiet hb, at_ := Bx.boxAt_same h.at_ hb }
theorem zBX.blk {G : Gh} {D : Dt} {S : CSt} {F : FetD} {m : List (Option ByteArray)} (h : zBX w0 c kb mb n id bal G Z D S F b gp gh m w) : Blk w F.f (zCm F) 129 := (h.gc.gf.fetB F h.fet).1
theorem Gc.noBox {G : Gh} {D : Dt} {S : CSt} (h : Gc w0 c kb mb n id bal G Z D S w) (F : FetD) (hF : D.fet = some F) : Gs w0 c kb mb n id bal G Z (w.setCell ⟨F.f, 2, none⟩ (.pointer none)) ∧ Fr w0 w (w.setCell ⟨F.f, 2, none⟩ (.pointer none)) := by
 obtain ⟨b1, b2, b3⟩ := h.gf.fetB F hF
 have hT : Touch (fun k => k = F.f) w (w.setCell ⟨F.f, 2, none⟩ (.pointer none)) := zAa (Touch.refl _ _) _
 have hk : KeepT [129] w (w.setCell ⟨F.f, 2, none⟩ (.pointer none)) := KeepT.of_touch hT (fun q _ hq => Or.inl (by subst hq; exact Tyd.blk b1 (by simp)))
 obtain ⟨g, f⟩ := h.gf.setFet F hF { F with box := .pointer none } rfl hT (b1.set 2 _) (Or.inl rfl)
 exact ⟨⟨_, _, h.at_.keep hk (by decide), g⟩, f⟩
theorem gc_piece {G : Gh} {D : Dt} {S : CSt} (h : Gc w0 c kb mb n id bal G Z D S w) (hbb : G.bb ≤ 900000000) (kind fr to' bal2 mg basis fl tp rd pa po : Int) (mm pt : ByteArray) (ls : Value) (hpt : pt.size ≤ 9223372036854775807) :
  Calls Tryz.prog 80 #[.pointer (some ⟨c, 0, none⟩), .agg #[.int .i64 kind, .int .i64 fr, .int .i64 to', .int .i64 bal2, .int .i64 mg, .int .i64 basis, .int .i64 fl, .int .i64 tp, .int .i64 rd, .string mm, .int .i64 pa, .int .i64 po, .string pt, ls]] w fun x w' => x = .returned (.tuple #[]) ∧ Gs w0 c kb mb n id bal G Z w' ∧ Fr w0 w w' := by
 have hbl := h.at_.1.lt
 have hb0 := (Below.refl w.heap.size w).alloc (Nat.le_refl _) (.cells #[.int .i64 kind, .int .i64 fr, .int .i64 to', .int .i64 bal2, .int .i64 mg, .int .i64 basis, .int .i64 fl, .int .i64 tp, .int .i64 rd, .string mm, .int .i64 pa, .int .i64 po, .string pt, ls] 30)
 have Q0 := Blk.new w [.int .i64 kind, .int .i64 fr, .int .i64 to', .int .i64 bal2, .int .i64 mg, .int .i64 basis, .int .i64 fl, .int .i64 tp, .int .i64 rd, .string mm, .int .i64 pa, .int .i64 po, .string pt, ls] 30
 have HB0 := hid hb0
 have HQ0 := hid Q0
 have HG0 := hid (h.quiet hb0)
 have HF0 := hid (Fr.of_below (w0 := w0) hb0)
 have Hbb := hid hbb
 have Hpt := hid hpt
 have hw0 := h.gf.below.size
 clear h hb0 Q0 hbb hpt
 go_enter Tryz.func80, Tryz.ntmps80
 go_upto_region 1 with fail
 have hs0 := HB0.out.size
 have Q0 := HQ0.out
 have G0 := HG0.out
 have F0 := HF0.out
 clear HQ0 HG0 HF0 HB0
 generalize w.alloc (.cells #[.int .i64 kind, .int .i64 fr, .int .i64 to', .int .i64 bal2, .int .i64 mg, .int .i64 basis, .int .i64 fl, .int .i64 tp, .int .i64 rd, .string mm, .int .i64 pa, .int .i64 po, .string pt, ls] 30) = w1 at hs0 Q0 G0 F0 ⊢
 generalize w.heap.size = q at Q0 hbl ⊢
 have c85 : w1.cell? ⟨c, 85, none⟩ = some S.fetch := G0.at_.ft 1
 have m4 : w1.cell? ⟨q, 4, none⟩ = some (.int .i64 mg) := Q0.cell 4
 have m9 : w1.cell? ⟨q, 9, none⟩ = some (.string mm) := Q0.cell 9
 have hql := Q0.lt
 have hcl := G0.at_.1.lt
 have HQ := hid Q0
 have HG := hid G0
 have HF := hid F0
 have quit : ∀ nq, Gs w0 c kb mb n id bal G Z (w1.drewN nq) ∧ Fr w0 w (w1.drewN nq) := fun nq => ⟨⟨_, _, HG.out.quiet (below_drewN (Below.refl _ _) nq)⟩, HF.out.trans (Fr.of_below (below_drewN (Below.refl _ _) nq))⟩
 have HX := hid quit
 clear Q0 G0 F0 quit
 cases hFe : D.fet with
 | none =>
  rw [show S.fetch = .pointer none by rw [HG.out.gf.fet, hFe]; rfl] at c85
  clear hFe
  go_wp2_with fail
  go_quiet (fail)
  go_wp2_with fail
  refine bodyPost_ret (results_none rfl _ _ _) rfl ?_
  exact ⟨rfl, (HX.out _).1, (HX.out _).2⟩
 | some F =>
  rw [show S.fetch = .pointer (some ⟨F.f, 0, none⟩) by rw [HG.out.gf.fet, hFe]; rfl] at c85
  obtain ⟨b1, b2, b3⟩ := HG.out.gf.fetB F hFe
  have k0 : w1.cell? ⟨F.f, 0, none⟩ = some (.int .i64 F.gen) := b1.cell 0
  have k1 : w1.cell? ⟨F.f, 1, none⟩ = some (.string F.mrk) := b1.cell 1
  have hfl := b1.lt
  have HFe := hid hFe
  have Hb1 := hid b1
  have Hb3 := hid b3
  clear hFe b1 b3
  by_cases hne : F.gen = mg ∧ F.mrk = mm
  ·have hg : (F.gen != mg) = false := by rw [hne.1]; simp
   have hm : (F.mrk.toList == mm.toList) = true := by rw [hne.2]; simp
   clear hne HX
   go_wp2_with fail
   go_quiet (fail)
   have HG2 := hid (HG.out.quiet (below_drewN (Below.refl _ _) nq))
   have HF2 := hid (HF.out.trans (Fr.of_below (below_drewN (Below.refl _ _) nq)))
   have HQ2 := hid (HQ.out.drewN nq)
   have Hb12 := hid (Hb1.out.drewN nq)
   have Hb32 := hid (Hb3.out.keep (KeepT.of_below (Ts := []) (below_drewN (Below.refl w1.heap.size w1) nq)) (by simp) (by simp) (by simp))
   clear HG HF HQ Hb1 Hb3 c85 m4 m9 k0 k1
   generalize w1.drewN nq = w2 at HG2 HF2 HQ2 Hb12 Hb32 ⊢
   go_upto_region 3 with fail
   have k2 : w2.cell? ⟨F.f, 2, none⟩ = some F.box := Hb12.out.cell 2
   have m11 : w2.cell? ⟨q, 11, none⟩ = some (.int .i64 po) := HQ2.out.cell 11
   have hf2 := Hb12.out.lt
   have hq2 := HQ2.out.lt
   have hbx := Hb32.out.at
   go_cut [48] (fun v wx => ∃ bb : Bool, v = .bool bb ∧ (∃ nq, wx = w2.drewN nq) ∧ Hid (bb = false → ∃ (b gp gh : Nat) (m : List (Option ByteArray)), zBX w0 c kb mb n id bal G Z D S F b gp gh m w2))
   case first =>
    rcases hbx with e | ⟨b, gp, gh, m, e, a2, a3, a4, a5, a6, a7, a8, a9, a10, a11⟩
    ·rw [e] at k2
     go_wp2_with fail
     go_quiet (fail)
     go_wp2_with fail
     go_meet
     exact ⟨true, rfl, ⟨_, rfl⟩, hid (fun e => by cases e)⟩
    ·rw [e] at k2
     have HPA := hid (show zBX w0 c kb mb n id bal G Z D S F b gp gh m w2 from ⟨HG2.out, HFe.out, e, a8, a2, a3, a4, a9, a10, a11⟩)
     have HOf := hid (fun k => Bx.ofOf_any b gp gh m (w2.drewN k) (Bx.boxAt_same a8 (below_drewN (Below.refl _ _) k)))
     clear e a8
     go_wp2_with fail
     go_quiet ((go_at_call 103; first | exact zAf (HOf.out _) | exact quiet_add_left (HOf.out _)))
     go_wp2_with fail
     go_meet
     exact ⟨_, rfl, ⟨_, rfl⟩, hid (fun _ => ⟨b, gp, gh, m, HPA.out⟩)⟩
   case rest =>
    obtain ⟨bb, rfl, ⟨nq2, rfl⟩, HBx⟩ := hcut
    have HG3 := hid (HG2.out.quiet (below_drewN (Below.refl _ _) nq2))
    have HF3 := hid (HF2.out.trans (Fr.of_below (below_drewN (Below.refl _ _) nq2)))
    have HQ3 := hid (HQ2.out.drewN nq2)
    have Hb13 := hid (Hb12.out.drewN nq2)
    have HBx3 : Hid (bb = false → ∃ (b gp gh : Nat) (m : List (Option ByteArray)), zBX w0 c kb mb n id bal G Z D S F b gp gh m (w2.drewN nq2)) := hid (fun e => by
     obtain ⟨b, gp, gh, m, hp⟩ := HBx.out e
     exact ⟨b, gp, gh, m, hp.quiet (below_drewN (Below.refl _ _) nq2)⟩)
    clear HG2 HF2 HQ2 Hb12 Hb32 HBx k2 m11 hbx
    generalize w2.drewN nq2 = w3 at HG3 HF3 HQ3 Hb13 HBx3 ⊢
    have hf3 := Hb13.out.lt
    have hq3 := HQ3.out.lt
    go_upto_if 48 with (fail)
    go_cut [] (fun wx => ∃ (D4 : Dt) (F4 : FetD) (b gp gh : Nat) (m : List (Option ByteArray)), F4.f = F.f ∧ F4.gen = F.gen ∧ F4.mrk = F.mrk ∧ Hid (zBX w0 c kb mb n id bal G Z D4 S F4 b gp gh m wx) ∧ Hid (Blk wx q [.int .i64 kind, .int .i64 fr, .int .i64 to', .int .i64 bal2, .int .i64 mg, .int .i64 basis, .int .i64 fl, .int .i64 tp, .int .i64 rd, .string mm, .int .i64 pa, .int .i64 po, .string pt, ls] 30) ∧ Hid (Fr w0 w wx))
    case first =>
     cases bb with
     | false =>
      obtain ⟨b, gp, gh, m, hp⟩ := HBx3.out rfl
      have HP := hid hp
      clear hp HBx3
      go_wp2_with fail
      go_meet
      exact ⟨D, F, b, gp, gh, m, rfl, rfl, rfl, HP, HQ3, HF3⟩
     | true =>
      clear HBx3
      have m11 : w3.cell? ⟨q, 11, none⟩ = some (.int .i64 po) := HQ3.out.cell 11
      by_cases hn : 1 ≤ po ∧ po ≤ 4096
      ·obtain ⟨M, hM⟩ : ∃ M : Nat, po = (M : Int) := ⟨po.toNat, by omega⟩
       have HNw := hid (Bx.new_any M w3 (by omega) (by omega))
       have hM1 : 1 ≤ M := by omega
       have hM2 : M ≤ 4096 := by omega
       rw [hM] at m11
       have HMe := hid hM
       clear hn hM
       go_wp2_with fail
       refine HNw.out.mono ?_
       rintro e w4 ⟨b, gp, gh, rfl, hB, hb0, hgp0, hgh0, hb4⟩
       have HG4 := hid (HG3.out.quiet hb4)
       have HF4 := hid (HF3.out.trans (Fr.of_below hb4))
       have HQ4 := hid (HQ3.out.below hb4)
       have Hb14 := hid (Hb13.out.below hb4)
       have HBB := hid hB
       have hs4 := HF3.out.2.size
       have k2 : w4.cell? ⟨F.f, 2, none⟩ = some F.box := Hb14.out.cell 2
       have f2 := Hb14.out.free 2
       have hf4 := Hb14.out.lt
       clear hB hb4 HG3 HF3 HQ3 Hb13 HNw m11
       go_wp2_with fail
       go_meet
       have hT : Touch (fun k => k = F.f) w4 (w4.setCell ⟨F.f, 2, none⟩ (.pointer (some ⟨b, 0, none⟩))) := zAa (Touch.refl _ _) _
       have hk : KeepT [129] w4 (w4.setCell ⟨F.f, 2, none⟩ (.pointer (some ⟨b, 0, none⟩))) := KeepT.of_touch hT (fun q _ hq => Or.inl (by subst hq; exact Tyd.blk Hb14.out (by simp)))
       have hBB : Bx.BoxAt (w4.setCell ⟨F.f, 2, none⟩ (.pointer (some ⟨b, 0, none⟩))) b gp gh (List.replicate M none) := ⟨hk.1 _ _ _ (by decide) HBB.out.1, hk.1 _ _ _ (by decide) HBB.out.2.1, hk.1 _ _ _ (by decide) HBB.out.2.2⟩
       have hl1 : 1 ≤ (List.replicate M (none : Option ByteArray)).length := by rw [List.length_replicate]; exact hM1
       have hl2 : (List.replicate M (none : Option ByteArray)).length ≤ 4096 := by rw [List.length_replicate]; exact hM2
       have hsz : Bx.size (List.replicate M none) ≤ 524288 := by rw [Bx.size_new]; omega
       obtain ⟨g5, f5⟩ := HG4.out.gf.setFet F HFe.out { F with box := .pointer (some ⟨b, 0, none⟩) } rfl hT (Hb14.out.set 2 _) (boxOk_at hBB (by omega) (by omega) (by omega) hl1 hl2 hsz)
       exact ⟨{ D with fet := some { F with box := .pointer (some ⟨b, 0, none⟩) } }, { F with box := .pointer (some ⟨b, 0, none⟩) }, b, gp, gh, List.replicate M none, rfl, rfl, rfl, hid ⟨⟨HG4.out.at_.keep hk (by decide), g5⟩, rfl, rfl, hBB, by omega, by omega, by omega, hl1, hl2, hsz⟩, hid (hk.1 _ _ _ (by decide) HQ4.out), hid (HF4.out.trans f5)⟩
      ·have HNo := hid (Bx.new_no po w3 (by omega))
       clear hn
       go_wp2_with fail
       refine HNo.out.mono ?_
       rintro e wx ⟨rfl, rfl⟩
       go_wp2_with fail
       refine bodyPost_ret (results_none rfl _ _ _) rfl ?_
       exact ⟨rfl, ⟨_, _, HG3.out⟩, HF3.out⟩
    case rest =>
     obtain ⟨D4, F4, b, gp, gh, m, e1, e2, e3, HP, HQ4, HF4⟩ := hcut
     clear HG3 HF3 HQ3 Hb13 HBx3 HFe
     generalize wc = w4 at HP HQ4 HF4 ⊢
     have E1 := hid e1
     have E2 := hid e2
     have E3 := hid e3
     have hfl4 : F.f < w4.heap.size := by rw [← e1]; exact HP.out.blk.lt
     have k2 : w4.cell? ⟨F.f, 2, none⟩ = some (.pointer (some ⟨b, 0, none⟩)) := by rw [← e1, ← HP.out.box]; exact HP.out.blk.cell 2
     have m10 : w4.cell? ⟨q, 10, none⟩ = some (.int .i64 pa) := HQ4.out.cell 10
     have m11 : w4.cell? ⟨q, 11, none⟩ = some (.int .i64 po) := HQ4.out.cell 11
     have m12 : w4.cell? ⟨q, 12, none⟩ = some (.string pt) := HQ4.out.cell 12
     have hq4 := HQ4.out.lt
     clear e1 e2 e3
     go_upto_region 7 with fail
     go_still_tail 6, (by kernel_rfl)
     change wpList _ _ _ _ _ w4.drew
     have HP5 := hid (HP.out.quiet (Below.refl _ _).drew)
     have HF5 := hid (HF4.out.trans (Fr.of_below (Below.refl _ _).drew))
     clear k2 m10 m11 m12 HP HF4 HQ4
     generalize w4.drew = w5 at HP5 HF5 ⊢
     have HPu := hid (Bx.put_any b gp gh m pa po pt w5 HP5.out.at_ HP5.out.l2 HP5.out.sz Hpt.out)
     go_wp2_with fail
     refine HPu.out.mono ?_
     rintro e w6 ⟨rfl, hB6, hT6⟩
     have hlen := Bx.putOf_length m pa po pt
     have hsz6 := Bx.putOf_size m pa po pt HP5.out.sz
     obtain ⟨g6, f6, k6⟩ := HP5.out.gc.gf.putBox F4 HP5.out.fet b gp gh m _ HP5.out.box HP5.out.at_ HP5.out.b0 HP5.out.gp0 HP5.out.gh0 hT6 hB6 (by rw [hlen]; exact HP5.out.l1) (by rw [hlen]; exact HP5.out.l2) hsz6
     have HP6 := hid (show zBX w0 c kb mb n id bal G Z D4 S F4 b gp gh (Bx.putOf m pa po pt).1 w6 from ⟨⟨HP5.out.gc.at_.keep k6 (by decide), g6⟩, HP5.out.fet, HP5.out.box, hB6, HP5.out.b0, HP5.out.gp0, HP5.out.gh0, by rw [hlen]; exact HP5.out.l1, by rw [hlen]; exact HP5.out.l2, hsz6⟩)
     have HF6 := hid (HF5.out.trans f6)
     clear hB6 hT6 hlen hsz6 g6 f6 k6 HP5 HF5 HPu
     generalize (Bx.putOf m pa po pt).1 = m6 at HP6
     generalize (Bx.putOf m pa po pt).2 = er
     have hfl6 : F.f < w6.heap.size := by rw [← E1.out]; exact HP6.out.blk.lt
     have k2 : w6.cell? ⟨F.f, 2, none⟩ = some (.pointer (some ⟨b, 0, none⟩)) := by rw [← E1.out, ← HP6.out.box]; exact HP6.out.blk.cell 2
     have f2 : w6.frozen? ⟨F.f, 2, none⟩ = false := by rw [← E1.out]; exact HP6.out.blk.free 2
     by_cases her : er = 0
     ·subst her
      have HLf := hid (Bx.leftOf_any b gp gh m6 w6 HP6.out.at_)
      go_wp2_with fail
      refine HLf.out.mono ?_
      rintro e wx ⟨rfl, rfl⟩
      obtain ⟨lf, hlf⟩ : ∃ lf, lf = Bx.left m6 := ⟨_, rfl⟩
      rw [← hlf]
      by_cases hl : 0 < lf
      ·clear hlf
       go_wp2_with fail
       refine bodyPost_ret (results_none rfl _ _ _) rfl ?_
       exact ⟨rfl, ⟨_, _, HP6.out.gc⟩, HF6.out⟩
      ·have hl0 : Bx.left m6 = 0 := by omega
       have HTx := hid (Bx.text_all b gp gh m6 w6 HP6.out.at_ hl0 HP6.out.l2 HP6.out.l1 HP6.out.sz)
       obtain ⟨T, hT⟩ : ∃ T, T = Bx.flat (Bx.texts m6) := ⟨_, rfl⟩
       have HTl := hid (show T.length ≤ 524288 by rw [hT, Bx.flat_length, Bx.texts_total]; exact HP6.out.sz)
       rw [← hT] at HTx
       obtain rfl : lf = 0 := by omega
       clear hlf hl hl0 hT HLf
       go_wp2_with fail
       refine HTx.out.mono ?_
       rintro e w7 ⟨rfl, hb7⟩
       have HP7 := hid (HP6.out.quiet hb7)
       have HF7 := hid (HF6.out.trans (Fr.of_below hb7))
       clear hb7 HTx HP6 HF6 k2 f2
       rw [show (⟨T.toArray⟩ : ByteArray) = ba T from rfl]
       go_upto_region 11 with fail
       have c2 : w7.cell? ⟨c, 2, none⟩ = some (.pointer (some ⟨kb, 0, none⟩)) := by
        have := HP7.out.gc.at_.hd 2 (by omega)
        rw [show S.head[2]? = some S.book from rfl, HP7.out.gc.gf.bk_] at this
        exact this
       have k1 : w7.cell? ⟨F.f, 1, none⟩ = some (.string F.mrk) := by rw [← E1.out, ← E3.out]; exact HP7.out.blk.cell 1
       have hfl7 : F.f < w7.heap.size := by rw [← E1.out]; exact HP7.out.blk.lt
       have hcl7 := HP7.out.gc.at_.1.lt
       go_still_tail 9, (by kernel_rfl)
       change wpList _ _ _ _ _ w7.drew
       have HP8 := hid (HP7.out.quiet (Below.refl _ _).drew)
       have HF8 := hid (HF7.out.trans (Fr.of_below (Below.refl _ _).drew))
       clear c2 k1 hfl7 hcl7 HP7 HF7
       generalize w7.drew = w8 at HP8 HF8 ⊢
       have HIs := hid (is_any kb mb D4.Bk (ba T) F.mrk w8 HP8.out.gc.gf.bok (by rw [zAl]; have := HTl.out; unfold maxLen; omega) (by have := HP8.out.gc.gf.bokL; have := Hbb.out; omega))
       obtain ⟨tl, htl⟩ : ∃ tl, tl = tells D4.Bk (ba T) F.mrk := ⟨_, rfl⟩
       rw [← htl] at HIs
       clear htl
       go_wp2_with fail
       refine HIs.out.mono ?_
       rintro e w9 ⟨rfl, hb9⟩
       have HP9 := hid (HP8.out.quiet hb9)
       have HF9 := hid (HF8.out.trans (Fr.of_below hb9))
       clear hb9 HIs HP8 HF8
       have hfl9 : F.f < w9.heap.size := by rw [← E1.out]; exact HP9.out.blk.lt
       have hcl9 := HP9.out.gc.at_.1.lt
       cases tl with
       | false =>
        have f2 : w9.frozen? ⟨F.f, 2, none⟩ = false := by rw [← E1.out]; exact HP9.out.blk.free 2
        have k2 : w9.cell? ⟨F.f, 2, none⟩ = some (.pointer (some ⟨b, 0, none⟩)) := by rw [← E1.out, ← HP9.out.box]; exact HP9.out.blk.cell 2
        go_wp2_with fail
        refine bodyPost_ret (results_none rfl _ _ _) rfl ?_
        obtain ⟨g, f⟩ := HP9.out.gc.noBox F4 HP9.out.fet
        rw [E1.out] at g f
        exact ⟨rfl, g, HF9.out.trans f⟩
       | true =>
        have k0 : w9.cell? ⟨F.f, 0, none⟩ = some (.int .i64 F.gen) := by rw [← E1.out, ← E2.out]; exact HP9.out.blk.cell 0
        have HKn := hid (gc_know HP9.out.gc F.gen T HTl.out)
        go_wp2_with fail
        refine HKn.out.mono ?_
        rintro e wA ⟨rfl, ⟨I', v', hG⟩, hF, _⟩
        have HGA := hid hG
        have HFA := hid (HF9.out.trans hF)
        have f85 := hG.at_.1.free 85
        have d85 : wA.cell? ⟨c, 85, none⟩ = some S.fetch := hG.at_.ft 1
        have hlA := hG.at_.1.lt
        clear hG hF HKn k0
        go_wp2_with fail
        go_end0
        obtain ⟨g1, g2⟩ := HGA.out.gf.coord HGA.out.at_ (zAa (o := 85) (Touch.refl _ _) (.pointer none))
        exact ⟨rfl, ⟨_, _, HGA.out.at_.setFt 1 (.pointer none) { { S with images := v' } with fetch := .pointer none } rfl rfl rfl, g1.noFet⟩, HFA.out.trans g2⟩
     ·have herb : (((er : Nat) : Int) != 0) = true := by rw [bne_iff_ne]; omega
      clear her
      go_wp2_with fail
      refine bodyPost_ret (results_none rfl _ _ _) rfl ?_
      obtain ⟨g, f⟩ := HP6.out.gc.noBox F4 HP6.out.fet
      rw [E1.out] at g f
      exact ⟨rfl, g, HF6.out.trans f⟩
  ·have hd : (F.gen != mg) = true ∨ ((F.gen != mg) = false ∧ (F.mrk.toList == mm.toList) = false) := by
    by_cases h1 : F.gen = mg
    ·exact Or.inr ⟨by rw [h1]; simp, by rw [zAY]; exact decide_eq_false (fun e => hne ⟨h1, e⟩)⟩
    ·exact Or.inl (by rw [bne_iff_ne]; exact h1)
   clear hne
   rcases hd with hd | ⟨hd, hd2⟩
   all_goals
    go_wp2_with fail
    go_quiet (fail)
    go_wp2_with fail
    refine bodyPost_ret (results_none rfl _ _ _) rfl ?_
    exact ⟨rfl, (HX.out _).1, (HX.out _).2⟩
end Go.Proofs.YtaemlplcjjbamaaGreatDoor
