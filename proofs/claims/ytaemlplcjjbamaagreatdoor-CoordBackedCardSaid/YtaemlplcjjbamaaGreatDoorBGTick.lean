/- The walk of a coordinator's asks in whatever state. Conditio -/
import Derived.Test.YtaemlplcjjbamaaGreatDoorBGReply
import Derived.Test.YtaemlplcjjbamaaGreatDoorBCClean
import Derived.Test.YtaemlplcjjbamaaGreatDoorBGPiece
namespace Go.Proofs.YtaemlplcjjbamaaGreatDoor
open Go.Lib (hid)
set_option maxRecDepth 100000
set_option maxHeartbeats 8000000
open Go Go.RowKit
set_option linter.unusedVariables false
variable {F : ByteArray} {Z c k kb mb n : Nat} {bal id : Int} {w w' w0 : World}
theorem gc_asks {G : Gh} {D : Dt} {S : CSt} (h : Gc w0 c kb mb n id bal G Z D S w) (hZ : Z ≤ 90000) (hbb : G.bb ≤ 900000000) :
  Calls Tryz.prog 39 #[.pointer (some ⟨c, 0, none⟩)] w (GOut w0 c kb mb n id bal G (Z + 1) 9 w) := by
 have hbl := h.at_.1.lt
 have H0 := hid h
 have Hbb := hid hbb
 have hn1 := h.gf.n1
 have hn9 := h.gf.n9
 have hw0 := h.gf.below.size
 have hcl : clip (n : Int) = n := by unfold clip; rw [if_neg (by omega), if_neg (by omega)]; omega
 have Hcl := hid hcl
 have hrd1 := h.gf.read.1
 have hrd2 : S.read ≤ 90000 := by have := h.gf.read.2; omega
 have c86 : w.cell? ⟨c, 86, none⟩ = some S.call := h.at_.ft 2
 have c84 : w.cell? ⟨c, 84, none⟩ = some S.job := h.at_.ft 0
 have HSe := hid (gc_settled h)
 clear h hcl hbb
 go_enter Tryz.func39, Tryz.ntmps39
 go_upto_region 1 with fail
 go_cut [49] (fun v wx => ∃ b : Bool, v = .bool b ∧ Hid (Below w.heap.size w wx) ∧ Hid (b = false → ∃ K, D.cal = some K ∧ K.kd ≠ 1))
 case first =>
  as_aux_lemma =>
   cases hK : D.cal with
   | none =>
    rw [show S.call = .pointer none by rw [H0.out.gf.cal, hK]; rfl] at c86
    clear hK
    go_wp2_with fail
    go_meet
    exact ⟨true, rfl, hid (Below.refl _ _), hid (fun e => by cases e)⟩
   | some K =>
    rw [show S.call = .pointer (some ⟨K.k, 0, none⟩) by rw [H0.out.gf.cal, hK]; rfl] at c86
    obtain ⟨k1, _⟩ := H0.out.gf.calB K hK
    have q0 : w.cell? ⟨K.k, 0, none⟩ = some (.int .i64 K.kd) := k1.cell 0
    have hkl := k1.lt
    have HK := hid hK
    clear hK k1
    by_cases hk : K.kd = 1
    ·rw [hk] at q0
     clear hk
     go_wp2_with fail
     go_meet
     exact ⟨true, rfl, hid (Below.refl _ _), hid (fun e => by cases e)⟩
    ·have hkb : (K.kd == 1) = false := by rw [beq_eq_false_iff_ne]; exact hk
     have HOk := hid (show ∃ K, D.cal = some K ∧ K.kd ≠ 1 from ⟨K, HK.out, hk⟩)
     clear hk HK
     generalize K.kd = kd at q0 hkb
     generalize K.k = kk at c86 q0 hkl
     obtain ⟨aa, cc, ha⟩ := RAt.shape H0.out.gf.agn
     have c11 : w.cell? ⟨c, 11, none⟩ = some (.slice aa D.ag.length cc) := by rw [← ha]; exact H0.out.at_.hd 11 (by omega)
     have hagl := H0.out.gf.agnL
     clear ha
     generalize D.ag.length = m at c11 hagl
     by_cases hm : 0 < m
     ·go_wp2_with fail
      go_meet
      exact ⟨true, rfl, hid (Below.refl _ _), hid (fun e => by cases e)⟩
     ·obtain rfl : m = 0 := by omega
      clear hm hagl
      cases hj : D.job with
      | none =>
       rw [show S.job = .pointer none by rw [H0.out.gf.job, hj]; rfl] at c84
       clear hj
       go_wp2_with fail
       refine HSe.out.mono ?_
       rintro e w1 ⟨⟨r, rfl⟩, hb⟩
       have HB1 := hid hb
       clear hb HSe
       cases r with
       | true =>
        go_wp2_with fail
        go_meet
        exact ⟨false, rfl, HB1, hid (fun _ => HOk.out)⟩
       | false =>
        go_wp2_with fail
        go_meet
        exact ⟨true, rfl, HB1, hid (fun e => by cases e)⟩
      | some J =>
       rw [show S.job = .pointer (some ⟨J.j, 0, none⟩) by rw [H0.out.gf.job, hj]; rfl] at c84
       have j7 : w.cell? ⟨J.j, 7, none⟩ = some (.bool J.old) := (H0.out.gf.jobB J hj).1.cell 7
       have hjl := (H0.out.gf.jobB J hj).1.lt
       clear hj
       generalize J.j = jj at c84 j7 hjl
       cases ho : J.old with
       | true =>
        rw [ho] at j7
        clear ho
        go_wp2_with fail
        go_meet
        exact ⟨true, rfl, hid (Below.refl _ _), hid (fun e => by cases e)⟩
       | false =>
        rw [ho] at j7
        clear ho
        go_wp2_with fail
        refine HSe.out.mono ?_
        rintro e w1 ⟨⟨r, rfl⟩, hb⟩
        have HB1 := hid hb
        clear hb HSe
        cases r with
        | true =>
         go_wp2_with fail
         go_meet
         exact ⟨false, rfl, HB1, hid (fun _ => HOk.out)⟩
        | false =>
         go_wp2_with fail
         go_meet
         exact ⟨true, rfl, HB1, hid (fun e => by cases e)⟩
 case rest =>
  obtain ⟨b, rfl, HB, HOk⟩ := hcut
  clear c86 c84 HSe
  have H1 := hid (H0.out.quiet HB.out)
  have HF1 := hid (Fr.of_below (w0 := w0) HB.out)
  have hs1 := HB.out.size
  clear H0 HB
  generalize wc = w1 at H1 HF1 hs1 ⊢
  cases b with
  | true =>
   go_wp2_with fail
   go_ret
   exact zCo (Gs.mono ⟨_, _, H1.out⟩ (Nat.le_succ Z)) HF1.out
  | false =>
   obtain ⟨K, hK, hkd⟩ := HOk.out rfl
   have hgk : G.gk ≠ 1 := by rw [← (H1.out.gf.calB K hK).2.2.2.2]; exact hkd
   have HK := hid hK
   have Hgk := hid hgk
   have Hcn := hid (show D.cal ≠ none by rw [hK]; exact fun e => by cases e)
   clear hK hkd hgk HOk
   have d89 : w1.cell? ⟨c, 89, none⟩ = some S.yes := H1.out.at_.ft 5
   have hl1 := H1.out.at_.1.lt
   go_upto_region 3 with fail
   go_cut [54] (fun v wx => v = .bool D.yes.isNone ∧ w1 = wx)
   case first =>
    cases hp : D.yes with
    | none =>
     rw [show S.yes = .pointer none by rw [H1.out.gf.yes, hp]; rfl] at d89
     go_wp2_with fail
     go_meet
     exact ⟨by rw [hp]; rfl, rfl⟩
    | some t =>
     rw [show S.yes = .pointer (some ⟨t.1, 0, none⟩) by rw [H1.out.gf.yes, hp]; rfl] at d89
     go_wp2_with fail
     go_meet
     exact ⟨by rw [hp]; rfl, rfl⟩
   case rest =>
    obtain ⟨rfl, rfl⟩ := hcut
    go_upto_if 54 with (fail)
    go_cut [] (fun wx => ∃ (D1 : Dt) (S1 : CSt) (t : Nat) (M : List Bool), S1.yes = .pointer (some ⟨t, 0, none⟩) ∧ Hid (Gc w0 c kb mb n id bal G (Z + 1) D1 S1 wx) ∧ Hid (D1.yes = some (t, M)) ∧ Hid (D1.cal = some K) ∧ Hid (Fr w0 w wx))
    case first =>
     cases hp : D.yes with
     | none =>
      have Hp := hid hp
      have d88 : w1.cell? ⟨c, 88, none⟩ = some (.int .i64 S.read) := H1.out.at_.ft 4
      have f88 := H1.out.at_.1.free 88
      have C2 : zAb (w1.setCell ⟨c, 88, none⟩ (.int .i64 (S.read + 1))) c { S with read := S.read + 1 } := H1.out.at_.setFt 4 _ _ rfl rfl rfl
      have T2 : Touch (fun k => k = c) w1 (w1.setCell ⟨c, 88, none⟩ (.int .i64 (S.read + 1))) := zAa (Touch.refl _ _) _
      have HC2 := hid C2
      have HT2 := hid T2
      have d1 : (w1.setCell ⟨c, 88, none⟩ (.int .i64 (S.read + 1))).cell? ⟨c, 1, none⟩ = some (.int .i64 (n : Int)) := by rw [← H1.out.gf.n_]; exact C2.hd 1 (by omega)
      clear hp C2 T2
      go_wp2_with fail
      generalize w1.setCell ⟨c, 88, none⟩ (.int .i64 (S.read + 1)) = w2 at HC2 HT2 d1 ⊢
      clear d89 d88 f88
      try (go_wp2_with fail)
      refine (zBB (n : Int) w2).mono ?_
      rintro e w3 ⟨t, rfl, hts, hta, hb3⟩
      rw [Hcl.out] at hta
      have C3 := HC2.out.below hb3
      have e89 : w3.cell? ⟨c, 89, none⟩ = some S.yes := C3.ft 5
      have f89 := C3.1.free 89
      have hl3 := C3.1.lt
      have htb : t ≠ c := hta.1.ne C3.1 (by decide)
      have C4 : zAb (w3.setCell ⟨c, 89, none⟩ (.pointer (some ⟨t, 0, none⟩))) c { S with read := S.read + 1, yes := .pointer (some ⟨t, 0, none⟩) } := C3.setFt 5 _ _ rfl rfl rfl
      have A4 : zAi (w3.setCell ⟨c, 89, none⟩ (.pointer (some ⟨t, 0, none⟩))) t n (List.replicate 9 false) := ⟨hta.1.set_other (a := ⟨c, 89, none⟩) htb _, hta.2⟩
      have T4 : Touch (fun k => k = c) w1 (w3.setCell ⟨c, 89, none⟩ (.pointer (some ⟨t, 0, none⟩))) := zAa (HT2.out.trans (Touch.of_below hb3)) _
      obtain ⟨g4, f4⟩ := H1.out.gf.newYes Hp.out H1.out.at_ T4 t A4 (Nat.le_trans HT2.out.size hts) Hcn.out
      have HG4 := hid (show Gc w0 c kb mb n id bal G (Z + 1) { D with yes := some (t, List.replicate 9 false) } { S with read := S.read + 1, yes := .pointer (some ⟨t, 0, none⟩) } (w3.setCell ⟨c, 89, none⟩ (.pointer (some ⟨t, 0, none⟩))) from ⟨C4, g4⟩)
      have HF4 := hid (HF1.out.trans f4)
      clear C3 hta hb3 C4 A4 T4 g4 f4 d1
      go_wp2_with fail
      go_meet
      exact ⟨_, _, t, _, rfl, HG4, hid rfl, HK, HF4⟩
     | some t =>
      have Hp := hid hp
      clear hp
      go_wp2_with fail
      go_meet
      refine ⟨D, S, t.1, t.2, ?_, hid ⟨H1.out.at_, H1.out.gf.mono (Nat.le_succ Z)⟩, Hp, HK, HF1⟩
      rw [H1.out.gf.yes, Hp.out]; rfl
    case rest =>
     obtain ⟨D1, S1, t, M, hyr, HG, HY, HK1, HF⟩ := hcut
     clear H1 HF1 HK d89 Hcn
     generalize wc = w2 at HG HF ⊢
     have Hyr := hid hyr
     have e89 : w2.cell? ⟨c, 89, none⟩ = some (.pointer (some ⟨t, 0, none⟩)) := by rw [← hyr]; exact HG.out.at_.ft 5
     have hl2 := HG.out.at_.1.lt
     have HWn := hid (zFi t n M w2 (HG.out.gf.yesB _ HY.out).1)
     have HVo := hid (HG.out.gf.yesB _ HY.out).2.1
     clear hyr
     go_wp2_with fail
     refine HWn.out.mono ?_
     rintro e w3 ⟨rfl, k, rfl⟩
     have HG3 := hid (HG.out.quiet (below_drewN (Below.refl _ _) k))
     have HF3 := hid (HF.out.trans (Fr.of_below (below_drewN (Below.refl _ _) k)))
     clear HWn HG HF e89
     generalize w2.drewN k = w3 at HG3 HF3 ⊢
     have hl3 := HG3.out.at_.1.lt
     have hs3 := HF3.out.2.size
     cases hwn : wonT M n with
     | true =>
      have HMj := hid (show ∃ r, Maj n (G.VY r) from ⟨S1.read, M, hwn, HVo.out⟩)
      obtain ⟨k1, _⟩ := HG3.out.gf.calB K HK1.out
      have x86 : w3.cell? ⟨c, 86, none⟩ = some (.pointer (some ⟨K.k, 0, none⟩)) := by rw [← show S1.call = .pointer (some ⟨K.k, 0, none⟩) by rw [HG3.out.gf.cal, HK1.out]; rfl]; exact HG3.out.at_.ft 2
      have q0 : w3.cell? ⟨K.k, 0, none⟩ = some (.int .i64 K.kd) := k1.cell 0
      have hkl := k1.lt
      have HPr := hid (gc_prunes HG3.out K HK1.out Hgk.out HMj.out)
      have HRe := hid (gc_reply HG3.out (by omega) Hbb.out K HK1.out Hgk.out HMj.out)
      clear k1 hwn
      by_cases h5 : K.kd = 5
      ·rw [h5] at q0
       clear h5 HRe
       go_wp2_with fail
       refine HPr.out.mono ?_
       rintro e w4 ⟨x, ms, rfl, hrow, h9, hS, hG, hF⟩
       have HO := hid (And.intro hrow (And.intro h9 (And.intro hS (And.intro hG (HF3.out.trans hF)))))
       clear hrow h9 hS hG hF HPr
       obtain ⟨xa, xc, rfl⟩ := zAe HO.out.1
       go_wp2_with fail
       go_ret
       exact ⟨_, ms, rfl, zAB HO.out.1 hs3, HO.out.2.1, HO.out.2.2.1, HO.out.2.2.2.1, HO.out.2.2.2.2⟩
      ·have h5b : (K.kd == 5) = false := by rw [beq_eq_false_iff_ne]; exact h5
       clear h5 HPr
       go_wp2_with fail
       refine HRe.out.mono ?_
       rintro e w4 ⟨rfl, hG, hF⟩
       have HG4 := hid hG
       have HF4 := hid (HF3.out.trans hF)
       clear hG hF HRe
       go_wp2_with fail
       go_ret
       exact zCo HG4.out HF4.out
     | false =>
      clear hwn
      have d1 : w3.cell? ⟨c, 1, none⟩ = some (.int .i64 (n : Int)) := by rw [← HG3.out.gf.n_]; exact HG3.out.at_.hd 1 (by omega)
      go_wp2_with fail
      go_loopw [3, 91] (fun ov iv wr => ∃ (v : Nat) (ms : List MG), iv = .int .i64 (v : Int) ∧ v ≤ n ∧ Hid (wr.ownsRow w.heap.size 30 14 ov ms.length (msgsV ms)) ∧ ms.length ≤ v ∧ Hid (∀ m ∈ ms, SentM m) ∧ Hid (Gc w0 c kb mb n id bal G (Z + 1) D1 S1 wr) ∧ Hid (Fr w0 w wr)) (fun _ iv _ => n - (intOf iv).toNat)
      case atStart => exact ⟨0, [], rfl, Nat.zero_le _, hid (World.ownsRow_nil _ _ _ _), Nat.le_refl _, hid (fun m hm => by cases hm), HG3, HF3⟩
      case round =>
       obtain ⟨v, ms, rfl, hv, HV, hL, HS, HGr, HFr⟩ := hrel
       clear HG3 HF3 d1 hs3
       by_cases hlt : v < n
       ·have e89 : wr.cell? ⟨c, 89, none⟩ = some (.pointer (some ⟨t, 0, none⟩)) := by rw [← Hyr.out]; exact HGr.out.at_.ft 5
        have HH := hid (zDF t n M v wr (HGr.out.gf.yesB _ HY.out).1 hlt)
        have HTo := hid (zEA c S1 (v : Int) 11 wr HGr.out.at_)
        have hszr := HFr.out.2.size
        cases hb : M.getD v false with
        | true =>
         rw [hb] at HH
         go_wp2_with fail
         refine HH.out.mono ?_
         rintro e wx ⟨rfl, rfl⟩
         go_wp2_with fail
         go_roundw
         case rel => exact ⟨v + 1, ms, by go_num, by omega, HV, by omega, HS, HGr, HFr⟩
         case measure => simp [intOf]; omega
        | false =>
         rw [hb] at HH
         go_wp2_with fail
         refine HH.out.mono ?_
         rintro e wx ⟨rfl, rfl⟩
         go_wp2_with fail
         refine HTo.out.mono ?_
         rintro e w6 ⟨rfl, hb6⟩
         have HG6 := hid (HGr.out.quiet hb6)
         have HV6 := hid (zAc HV.out hb6)
         have HF6 := hid (HFr.out.trans (Fr.of_below hb6))
         have hsz6 := HF6.out.2.size
         have x88 : w6.cell? ⟨c, 88, none⟩ = some (.int .i64 S1.read) := HG6.out.at_.ft 4
         have hl6 := HG6.out.at_.1.lt
         clear hb6 HGr HV HFr HH HTo e89
         simp only [zBM]
         obtain ⟨oa, oc, rfl⟩ := zAe HV6.out
         obtain ⟨ml, hml⟩ : ∃ ml, ml = ms.length := ⟨_, rfl⟩
         rw [← hml] at HV6 hL ⊢
         have Hml := hid hml
         clear hml
         have HVa := hid (HV6.out.alloc (.cells (askM S1.id v S1.ballot S1.read).vals.toArray 30))
         go_wp2_with (at_builtin; refine zAx rfl _ _ 40 rfl w.heap.size 30 14 144 Tryz.underlying40 _ zBE rfl (by decide) _ _ _ rfl HVa.out (w6.heap.size + 1) (by simp) (askM S1.id v S1.ballot S1.read).vals rfl rfl (MG.vals_one _) ?c1 ?c2 ?c3 ?_)
         case c1 => unfold maxLen; omega
         case c2 => omega
         case c3 => first | omega | (simp; omega)
         intro v7 w7 hown hgr
         obtain ⟨g7, f7, _⟩ := zDl HG6.out HF6.out hw0 HV6.out (((Below.refl w6.heap.size w6).alloc (Nat.le_refl _) _).alloc (by simp) _) hgr
         have HV7 := hid (show w7.ownsRow w.heap.size 30 14 v7 (ms ++ [askM S1.id v S1.ballot S1.read]).length (msgsV (ms ++ [askM S1.id v S1.ballot S1.read])) by rw [List.length_append, ← Hml.out, zAL, show msgsV [askM S1.id v S1.ballot S1.read] = (askM S1.id v S1.ballot S1.read).vals by unfold msgsV; simp]; exact hown)
         have HG7 := hid g7
         have HF7 := hid f7
         clear hown hgr g7 f7 HV6 HVa HG6 HF6 x88
         go_wp2_with fail
         go_roundw
         case rel => exact ⟨v + 1, ms ++ [askM S1.id v S1.ballot S1.read], by go_num, by omega, HV7, by rw [List.length_append, ← Hml.out]; simp; omega, hid (fun x hx => by
          rcases List.mem_append.1 hx with e | e
          ·exact HS.out x e
          ·rw [List.mem_singleton.1 e]; exact zDo _ rfl rfl rfl rfl), HG7, HF7⟩
         case measure => simp [intOf]; omega
       ·obtain rfl : v = n := by omega
        go_wp2_with fail
        go_ret
        exact ⟨_, ms, rfl, HV.out, by omega, HS.out, ⟨_, _, HGr.out⟩, HFr.out⟩
def imgL (fs : List TFile) : List UInt8 := headL fs.length fs ++ bodyL fs
theorem next_job (b j : Nat) (c : CSt) (w : World) (h : zAb w b c) (hj : c.job = .pointer (some ⟨j, 0, none⟩)) :
  Calls Tryz.prog 37 #[.pointer (some ⟨b, 0, none⟩)] w fun e w' => e = .returned (.tuple #[]) ∧ w = w' := by
 have c84 : w.cell? ⟨b, 84, none⟩ = some (.pointer (some ⟨j, 0, none⟩)) := by have := h.ft 0; rw [← hj]; exact this
 clear h hj
 go_enter Tryz.func37, Tryz.ntmps37
 go_wp2
 refine bodyPost_ret (results_none rfl _ _ _) rfl ⟨rfl, rfl⟩
theorem next_other (b kc ca cc : Nat) (aa : Option Addr) (c : CSt) (kd : Int) (cs : List Value) (w : World) (h : zAb w b c) (hj : c.job = .pointer none) (ha : c.again = .slice aa 0 cc) (hcl : c.call = .pointer (some ⟨kc, 0, none⟩)) (hq : Blk w kc (.int .i64 kd :: cs) 33) (hkd : (kd == 1) = false) :
  Calls Tryz.prog 37 #[.pointer (some ⟨b, 0, none⟩)] w fun e w' => e = .returned (.tuple #[]) ∧ w = w' := by
 have c84 : w.cell? ⟨b, 84, none⟩ = some (.pointer none) := by have := h.ft 0; rw [← hj]; exact this
 have c86 : w.cell? ⟨b, 86, none⟩ = some (.pointer (some ⟨kc, 0, none⟩)) := by have := h.ft 2; rw [← hcl]; exact this
 have c11 : w.cell? ⟨b, 11, none⟩ = some (.slice aa 0 cc) := by rw [← ha]; exact h.hd 11 (by omega)
 have k0 : w.cell? ⟨kc, 0, none⟩ = some (.int .i64 kd) := hq.cell 0
 clear h hj ha hcl hq
 go_enter Tryz.func37, Tryz.ntmps37
 go_wp2
 go_end0
 exact ⟨rfl, rfl⟩
def hasB (F : ByteArray) (x : Int) : Bool := F.data.toList.any fun c => (c.toNat : Int) == x
theorem hasB_true {x : Int} (h : k < F.size) (e : ((F[k]'h).toNat : Int) = x) : hasB F x = true := by
 unfold hasB
 rw [List.any_eq_true]
 exact ⟨F[k]'h, List.mem_iff_getElem.2 ⟨k, h, rfl⟩, by simpa using e⟩
theorem hasB_false {x : Int} (hn : ∀ i (h : i < F.size), ((F[i]'h).toNat : Int) ≠ x) : hasB F x = false := by
 unfold hasB
 rw [List.any_eq_false]
 intro c hc
 obtain ⟨i, hi, rfl⟩ := List.mem_iff_getElem.1 hc
 have hi2 : i < F.size := by simpa using hi
 have t : (((F.data.toList[i]'hi).toNat : Nat) : Int) ≠ x := hn i hi2
 exact fun e => t (by simpa using e)
theorem lawHas_any (k x : Int) (hk : zCG k) (w : World) : Calls Tryz.prog 76 #[.int .i64 k, .int .u8 x] w fun e w' => e = .returned (.bool (hasB (fieldsOf k) x)) ∧ w = w' := by
 have H := hid (zDP k hk w)
 obtain ⟨hFs, _⟩ := zFC k hk
 generalize fieldsOf k = F at H hFs ⊢
 clear hk
 go_enter Tryz.func76, Tryz.ntmps76
 go_wp2_with fail
 refine H.out.mono ?_
 rintro e w1 ⟨rfl, rfl⟩
 go_wp2_with fail
 go_loopw [6] (fun iv wr => ∃ i : Nat, iv = .int .i64 (i : Int) ∧ i ≤ F.size ∧ Hid (∀ j (h : j < F.size), j < i → ((F[j]'h).toNat : Int) ≠ x) ∧ w = wr) (fun iv _ => F.size - (intOf iv).toNat)
 case atStart => exact ⟨0, rfl, Nat.zero_le _, hid (fun j _ hj => absurd hj (Nat.not_lt_zero _)), rfl⟩
 case round =>
  obtain ⟨i, rfl, hi, HN, rfl⟩ := hrel
  by_cases hlt : i < F.size
  ·by_cases hx : ((F[i]'hlt).toNat : Int) = x
   ·have e1 : (((F[i]'hlt).toNat : Int) == x) = true := by rw [hx]; simp
    have HT := hid (hasB_true hlt hx)
    clear hx
    go_wp2_with fail
    go_ret
    rw [HT.out]
    exact ⟨rfl, rfl⟩
   ·have e1 : (((F[i]'hlt).toNat : Int) == x) = false := by rw [beq_eq_false_iff_ne]; exact hx
    have HX := hid hx
    clear hx
    go_wp2_with fail
    go_roundw
    case rel =>
     refine ⟨i + 1, by go_num, by omega, hid (fun j h hj => ?_), by first | rfl | trivial⟩
     by_cases hji : j < i
     ·exact HN.out j h hji
     ·obtain rfl : j = i := by omega
      exact HX.out
    case measure => simp [intOf]; omega
  ·have HF := hid (hasB_false (F := F) (x := x) (fun j h => HN.out j h (by omega)))
   go_wp2_with fail
   go_ret
   rw [HF.out]
   exact ⟨rfl, rfl⟩
theorem zFM {fs : List TFile} (h8 : fs.length ≤ 8) (hd : ∀ f ∈ fs, f.data.size ≤ 2000) (hc : zAy fs = 0) : (imgL fs).length ≤ 30000 := by
 have h1 := zDv fs (fun f hf => ⟨zGl hc f hf, hd f hf⟩)
 have h2 := zDp fs hd
 have h3 := zAI (n := fs.length) (by omega)
 unfold imgL headL
 rw [List.length_append, List.length_append]
 omega
attribute [local go_sem ↓] Go.wp_at_zero Go.wp_at_succ
theorem zJc (b cc : Nat) (aa : Option Addr) (c : CSt) (w : World) (h : zAb w b c) (hj : c.job = .pointer none) (ha : c.again = .slice aa 0 cc) (hcl : c.call = .pointer none) :
  Calls Tryz.prog 37 #[.pointer (some ⟨b, 0, none⟩)] w fun e w' => e = .returned (.tuple #[]) ∧ w = w' := by
 have c84 : w.cell? ⟨b, 84, none⟩ = some (.pointer none) := by have := h.ft 0; rw [← hj]; exact this
 have c86 : w.cell? ⟨b, 86, none⟩ = some (.pointer none) := by have := h.ft 2; rw [← hcl]; exact this
 have c11 : w.cell? ⟨b, 11, none⟩ = some (.slice aa 0 cc) := by rw [← ha]; exact h.hd 11 (by omega)
 clear h hj ha hcl
 go_enter Tryz.func37, Tryz.ntmps37
 go_wp2
 go_end0
 exact ⟨rfl, rfl⟩
theorem zGz {G : Gh} {D : Dt} {S : CSt} (h : Gc w0 c kb mb n id bal G Z D S w) (hbb : G.bb ≤ 900000000) (hj : D.job = none) (cc : Nat) (aa : Option Addr) (ha : S.again = .slice aa 0 cc) (K : CalD) (hc : D.cal = some K) (hkd : K.kd = 1) :
  Calls Tryz.prog 37 #[.pointer (some ⟨c, 0, none⟩)] w fun x w' => x = .returned (.tuple #[]) ∧ Gs w0 c kb mb n id bal (G.more 1) Z w' ∧ Fr w0 w w' := by
 have H0 := hid h
 have Hj := hid hj
 have Hbb := hid hbb
 have hbl := h.at_.1.lt
 obtain ⟨k1, k2, k3, k4, k5⟩ := h.gf.calB K hc
 have hmk := h.gf.mk1 K hc hkd
 have hsc : S.call = .pointer (some ⟨K.k, 0, none⟩) := by rw [h.gf.cal, hc]; rfl
 have c84 : w.cell? ⟨c, 84, none⟩ = some (.pointer none) := by have := h.at_.ft 0; rw [show (CSt.foot S)[0]? = some S.job from rfl, h.gf.job, hj] at this; exact this
 have c86 : w.cell? ⟨c, 86, none⟩ = some (.pointer (some ⟨K.k, 0, none⟩)) := by have := h.at_.ft 2; rw [← hsc]; exact this
 have c11 : w.cell? ⟨c, 11, none⟩ = some (.slice aa 0 cc) := by rw [← ha]; exact h.at_.hd 11 (by omega)
 have k0 : w.cell? ⟨K.k, 0, none⟩ = some (.int .i64 1) := by rw [← hkd]; exact k1.cell 0
 have hgk : G.gk = 1 := by rw [← k5, hkd]
 have HRm := hid (gc_room h)
 have HIm := hid (fun w' (hb : Below w.heap.size w w') => zFk K.ad K.cap K.fs w' (zDs (zAc k2 hb)) k3 k4)
 have hne : D.cal ≠ none := by rw [hc]; exact fun e => by cases e
 have HW := hid (fun w' (hb : Below w.heap.size w w') => (show w'.cell? ⟨c, 86, none⟩ = some (.pointer (some ⟨K.k, 0, none⟩)) ∧ w'.cell? ⟨c, 6, none⟩ = some (.int .i64 S.top) ∧ w'.cell? ⟨K.k, 2, none⟩ = some (.slice K.ad K.fs.length K.cap) from ⟨by rw [← hsc]; exact (h.at_.below hb).ft 2, (h.at_.below hb).hd 6 (by omega), (k1.below hb).cell 2⟩))
 obtain ⟨ck, hck⟩ : ∃ ck, ck = zAy K.fs := ⟨_, rfl⟩
 rw [← hck] at HIm
 have Hck := hid hck
 have Hmk := hid hmk
 have Hcal := hid (And.intro hne hgk)
 have Hsm := hid (fun (e : zAy K.fs = 0) => zFM k3 (fun f hf => (k4 f hf).2) e)
 generalize S.top = ct at HW
 obtain ⟨m, hm⟩ : ∃ m, m = K.fs.length := ⟨_, rfl⟩
 have HIL := hid (show imgT K.fs = headL m K.fs ++ bodyL K.fs by unfold imgT; rw [hm])
 rw [← hm] at HW HIm k3
 clear h hj hbb k1 k2 k4 k5 hmk hsc ha hc hkd hgk hne hck hm
 go_enter Tryz.func37, Tryz.ntmps37
 go_wp2_with fail
 refine HRm.out.mono ?_
 rintro e w1 ⟨r, rfl, hr, hG, hF⟩
 have HG1 := hid (hG.more 1)
 have HF1 := hid hF
 clear hG hF HRm c84 c86 c11 k0
 cases r with
 | false =>
  clear hr
  go_wp2_with fail
  go_end0
  exact ⟨rfl, HG1.out, HF1.out⟩
 | true =>
  have hb1 := hr rfl
  obtain ⟨d86, d6, k2⟩ := HW.out w1 hb1
  have HB1 := hid hb1
  have HIm1 := hid (HIm.out w1 hb1)
  clear hr hb1 HG1 HF1
  go_wp2_with fail
  refine HIm1.out.mono ?_
  rintro e w2 ⟨s, rfl, hs, hb2⟩
  have hB2 := zAd HB1.out hb2
  obtain ⟨e86, e6, k22⟩ := HW.out w2 hB2
  have HB2 := hid hB2
  have Hs := hid hs
  have HF2 := hid (Fr.of_below (w0 := w0) hB2)
  have HG2 := hid (H0.out.quiet hB2)
  clear hs hb2 hB2 HIm1 HIm HW d86 d6 k2
  by_cases hc0 : ck = 0
  ·subst hc0
   have hck := Hck.out
   have hsL : s = ba (imgT K.fs) := by rw [HIL.out]; exact Hs.out rfl
   subst hsL
   have m12 := Hmk.out hck.symm
   have HP := hid (zFX HG2.out Hj.out ct (imgT K.fs) (by have := Hsm.out hck.symm; show (imgL K.fs).length ≤ _; omega) true (fun _ => ⟨Hcal.out.1, Hcal.out.2, m12⟩) Hbb.out)
   clear hck m12 Hs
   go_wp2_with fail
   refine HP.out.mono ?_
   rintro e w3 ⟨rfl, hG, hF⟩
   have HG3 := hid hG
   have HF3 := hid (HF2.out.trans hF)
   clear hG hF HP
   go_wp2_with fail
   go_end0
   exact ⟨rfl, HG3.out, HF3.out⟩
  ·have hcb : (ck != 0) = true := by rw [bne_iff_ne]; exact hc0
   have HE := hid (zEm HG2.out ck 0 0 none none 0 0 0 0 (fun e => absurd e hc0))
   clear hc0
   go_wp2_with fail
   refine HE.out.mono ?_
   rintro e w3 ⟨rfl, hG, hF⟩
   have HG3 := hid (hG.more 1)
   have HF3 := hid (HF2.out.trans hF)
   clear hG hF HE
   go_wp2_with fail
   refine bodyPost_ret (results_none rfl _ _ _) rfl ?_
   exact ⟨rfl, HG3.out, HF3.out⟩
theorem gc_next {G : Gh} {D : Dt} {S : CSt} (h : Gc w0 c kb mb n id bal G Z D S w) (hbb : G.bb ≤ 900000000) :
  Calls Tryz.prog 37 #[.pointer (some ⟨c, 0, none⟩)] w fun x w' => x = .returned (.tuple #[]) ∧ Gs w0 c kb mb n id bal (G.more 1) Z w' ∧ Fr w0 w w' := by
 have same : ∀ (x : Ending) (w' : World), (x = .returned (.tuple #[]) ∧ w = w') → x = .returned (.tuple #[]) ∧ Gs w0 c kb mb n id bal (G.more 1) Z w' ∧ Fr w0 w w' := by
  rintro x w' ⟨rfl, rfl⟩
  exact ⟨rfl, ⟨D, S, h.at_, h.gf.more 1⟩, Fr.of_below (Below.refl _ _)⟩
 cases hj : D.job with
 | some J => exact (next_job c J.j S w h.at_ (by rw [h.gf.job, hj]; rfl)).mono same
 | none =>
  have hsj : S.job = .pointer none := by rw [h.gf.job, hj]; rfl
  by_cases hm : 0 < D.ag.length
  ·exact zIl h hbb hj hm
  ·obtain ⟨aa, cc, ha⟩ := RAt.shape h.gf.agn
   rw [show D.ag.length = 0 by omega] at ha
   cases hc : D.cal with
   | none => exact (zJc c cc aa S w h.at_ hsj ha (by rw [h.gf.cal, hc]; rfl)).mono same
   | some K =>
    by_cases hk : K.kd = 1
    ·exact zGz h hbb hj cc aa ha K hc hk
    ·exact (next_other c K.k 0 cc aa S K.kd _ w h.at_ hsj ha (by rw [h.gf.cal, hc]; rfl) (h.gf.calB K hc).1 (by rw [beq_eq_false_iff_ne]; exact hk)).mono same
theorem gc_prepare {G : Gh} {D : Dt} {S : CSt} (h : Gc w0 c kb mb n id bal G Z D S w) :
  Calls Tryz.prog 36 #[.pointer (some ⟨c, 0, none⟩)] w (GOut w0 c kb mb n id bal G Z 9 w) := by
 have hbl := h.at_.1.lt
 have HG := hid h
 have HF := hid (Fr.of_below (w0 := w0) (Below.refl w.heap.size w))
 have hn1 := h.gf.n1
 have hn9 := h.gf.n9
 have hw0 := h.gf.below.size
 have c1 : w.cell? ⟨c, 1, none⟩ = some (.int .i64 (n : Int)) := by rw [← h.gf.n_]; exact h.at_.hd 1 (by omega)
 have Hpr := hid h.gf.prm
 clear h
 go_enter Tryz.func36, Tryz.ntmps36
 go_wp2_with fail
 go_loopw [3, 9] (fun ov iv wr => ∃ (v : Nat) (ms : List MG), iv = .int .i64 (v : Int) ∧ v ≤ n ∧ Hid (wr.ownsRow w.heap.size 30 14 ov ms.length (msgsV ms)) ∧ ms.length ≤ v ∧ Hid (∀ m ∈ ms, SentM m) ∧ Hid (Gc w0 c kb mb n id bal G Z D S wr) ∧ Hid (Fr w0 w wr)) (fun _ iv _ => n - (intOf iv).toNat)
 case atStart => exact ⟨0, [], rfl, Nat.zero_le _, hid (World.ownsRow_nil _ _ _ _), Nat.le_refl _, hid (fun m hm => by cases hm), HG, HF⟩
 case round =>
  obtain ⟨v, ms, rfl, hv, HV, hL, HS, HGr, HFr⟩ := hrel
  clear HG HF c1
  by_cases hlt : v < n
  ·have e9 : wr.cell? ⟨c, 9, none⟩ = some (.pointer (some ⟨D.pt, 0, none⟩)) := by rw [← Hpr.out]; exact HGr.out.at_.hd 9 (by omega)
   have HH := hid (zDF D.pt n D.pM v wr HGr.out.gf.prmT hlt)
   have HTo := hid (zEA c S (v : Int) 1 wr HGr.out.at_)
   have hszr := HFr.out.2.size
   generalize D.pt = pt at e9 HH
   generalize D.pM.getD v false = b at HH
   cases b with
   | true =>
    go_wp2_with fail
    refine HH.out.mono ?_
    rintro e wx ⟨rfl, rfl⟩
    go_wp2_with fail
    go_roundw
    case rel => exact ⟨v + 1, ms, by go_num, by omega, HV, by omega, HS, HGr, HFr⟩
    case measure => simp [intOf]; omega
   | false =>
    go_wp2_with fail
    refine HH.out.mono ?_
    rintro e wx ⟨rfl, rfl⟩
    go_wp2_with fail
    refine HTo.out.mono ?_
    rintro e w6 ⟨rfl, hb6⟩
    have HG6 := hid (HGr.out.quiet hb6)
    have HV6 := hid (zAc HV.out hb6)
    have HF6 := hid (HFr.out.trans (Fr.of_below hb6))
    have hsz6 := HF6.out.2.size
    clear hb6 HGr HV HFr HH HTo e9
    simp only [zBM]
    obtain ⟨oa, oc, rfl⟩ := zAe HV6.out
    obtain ⟨ml, hml⟩ : ∃ ml, ml = ms.length := ⟨_, rfl⟩
    rw [← hml] at HV6 hL ⊢
    have Hml := hid hml
    clear hml
    go_wp2_with (at_builtin; refine zAx rfl _ _ 40 rfl w.heap.size 30 14 144 Tryz.underlying40 _ zBE rfl (by decide) _ _ _ rfl HV6.out w6.heap.size rfl ({ MG.zero with k := 1, fr := S.id, to_ := v, bal := S.ballot } : MG).vals rfl rfl (MG.vals_one _) ?c1 ?c2 ?c3 ?_)
    case c1 => unfold maxLen; omega
    case c2 => omega
    case c3 => first | omega | (simp; omega)
    intro v7 w7 hown hgr
    obtain ⟨g7, f7, _⟩ := zDl HG6.out HF6.out hw0 HV6.out ((Below.refl w6.heap.size w6).alloc (Nat.le_refl _) _) hgr
    have HV7 := hid (show w7.ownsRow w.heap.size 30 14 v7 (ms ++ [({ MG.zero with k := 1, fr := S.id, to_ := v, bal := S.ballot } : MG)]).length (msgsV (ms ++ [({ MG.zero with k := 1, fr := S.id, to_ := v, bal := S.ballot } : MG)])) by rw [List.length_append, ← Hml.out, zAL]; exact hown)
    have HG7 := hid g7
    have HF7 := hid f7
    clear hown hgr g7 f7 HV6 HG6 HF6
    go_wp2_with fail
    go_roundw
    case rel => exact ⟨v + 1, ms ++ [({ MG.zero with k := 1, fr := S.id, to_ := v, bal := S.ballot } : MG)], by go_num, by omega, HV7, by rw [List.length_append, ← Hml.out]; simp; omega, hid (fun x hx => by
     rcases List.mem_append.1 hx with e | e
     ·exact HS.out x e
     ·rw [List.mem_singleton.1 e]; exact ⟨rfl, rfl, rfl, Nat.zero_le _⟩), HG7, HF7⟩
    case measure => simp [intOf]; omega
  ·obtain rfl : v = n := by omega
   go_wp2_with fail
   go_ret
   exact ⟨_, ms, rfl, HV.out, by omega, HS.out, ⟨_, _, HGr.out⟩, HFr.out⟩
theorem Gh.more_more (G : Gh) (a b : Nat) : (G.more a).more b = G.more (a + b) := by unfold Gh.more; simp [Nat.add_assoc]
theorem Gs.upto {G : Gh} {Z a b : Nat} (h : Gs w0 c kb mb n id bal (G.more a) Z w) (hab : a ≤ b) : Gs w0 c kb mb n id bal (G.more b) Z w := by
 have := h.more (b - a)
 rw [Gh.more_more, show a + (b - a) = b by omega] at this
 exact this
theorem Gf.ticked {G : Gh} {D : Dt} {S : CSt} (h : Gf w0 c kb mb n id bal G Z D S w) (hc : zAb w c S) (hT : Touch (fun k => k = c) w w') : Gf w0 c kb mb n id bal G (Z + 1) D { S with left := S.left - 1 } w' ∧ Fr w0 w w' := by
 obtain ⟨g1, g2⟩ := h.coord hc hT
 exact ⟨{ g1.mono (Nat.le_succ Z) with
  left := ⟨by have := h.left.1; show -((Z + 1 : Nat) : Int) ≤ S.left - 1; omega, by have := h.left.2; show S.left - 1 ≤ 1000; omega⟩ }, g2⟩
theorem gc_tick {G : Gh} {D : Dt} {S : CSt} (h : Gc w0 c kb mb n id bal G Z D S w) (hZ : Z ≤ 80000) (hbb : G.bb ≤ 590000000) :
  Calls Tryz.prog 17 #[.pointer (some ⟨c, 0, none⟩)] w (GOut w0 c kb mb n id bal (G.more 9437212) (Z + 2) 585 w) := by
 have hbl := h.at_.1.lt
 have H0 := hid h
 have hn1 := h.gf.n1
 have hn9 := h.gf.n9
 have hw0 := h.gf.below.size
 have hl1 := h.gf.left.1
 have hl2 := h.gf.left.2
 have HN := hid (zAh c S w h.at_ (by have := h.gf.n_; omega))
 have c4 : w.cell? ⟨c, 4, none⟩ = some (.int .i64 S.phase) := h.at_.hd 4 (by omega)
 have c86 : w.cell? ⟨c, 86, none⟩ = some S.call := h.at_.ft 2
 have c87 : w.cell? ⟨c, 87, none⟩ = some (.int .i64 S.left) := h.at_.ft 3
 have f87 := h.at_.1.free 87
 clear h
 by_cases hph : S.phase = 0
 ·rw [hph] at c4
  clear hph
  go_enter Tryz.func17, Tryz.ntmps17
  go_wp2_with fail
  refine HN.out.mono ?_
  rintro e wx ⟨rfl, rfl⟩
  go_wp2_with fail
  go_ret
  exact zCo ⟨_, _, H0.out.at_, (H0.out.gf.mono (Nat.le_add_right Z 2)).more _⟩ (Fr.of_below (Below.refl _ _))
 ·have hpb : (S.phase == 0) = false := by rw [beq_eq_false_iff_ne]; exact hph
  clear hph
  go_enter Tryz.func17, Tryz.ntmps17
  go_wp2_with fail
  refine HN.out.mono ?_
  rintro e wx ⟨rfl, rfl⟩
  clear HN
  go_upto_region 3 with fail
  go_cut [18] (fun v wx => v = .bool D.cal.isSome ∧ w = wx)
  case first =>
   cases hK : D.cal with
   | none =>
    rw [show S.call = .pointer none by rw [H0.out.gf.cal, hK]; rfl] at c86
    go_wp2_with fail
    go_meet
    exact ⟨by rw [hK]; rfl, rfl⟩
   | some K =>
    rw [show S.call = .pointer (some ⟨K.k, 0, none⟩) by rw [H0.out.gf.cal, hK]; rfl] at c86
    go_wp2_with fail
    go_meet
    exact ⟨by rw [hK]; rfl, rfl⟩
  case rest =>
   obtain ⟨rfl, rfl⟩ := hcut
   go_upto_if 18 with (fail)
   go_cut [] (fun wx => ∃ (D1 : Dt) (S1 : CSt), Hid (Gc w0 c kb mb n id bal G (Z + 1) D1 S1 wx) ∧ Hid (Fr w0 w wx))
   case first =>
    cases hK : D.cal with
    | none =>
     clear hK
     go_wp2_with fail
     go_meet
     exact ⟨D, S, hid ⟨H0.out.at_, H0.out.gf.mono (Nat.le_succ Z)⟩, hid (Fr.of_below (Below.refl _ _))⟩
    | some K =>
     have C1 : zAb (w.setCell ⟨c, 87, none⟩ (.int .i64 (S.left - 1))) c { S with left := S.left - 1 } := H0.out.at_.setFt 3 _ _ rfl rfl rfl
     obtain ⟨g1, f1⟩ := H0.out.gf.ticked H0.out.at_ (zAa (o := 87) (Touch.refl _ w) (.int .i64 (S.left - 1)))
     have HG1 := hid (show Gc w0 c kb mb n id bal G (Z + 1) D { S with left := S.left - 1 } (w.setCell ⟨c, 87, none⟩ (.int .i64 (S.left - 1))) from ⟨C1, g1⟩)
     have HF1 := hid f1
     clear C1 g1 f1 hK
     go_upto_region 5 with fail
     clear c4 c86 c87 f87
     generalize w.setCell ⟨c, 87, none⟩ (.int .i64 (S.left - 1)) = w1 at HG1 HF1 ⊢
     have d87 : w1.cell? ⟨c, 87, none⟩ = some (.int .i64 (S.left - 1)) := HG1.out.at_.ft 3
     have hlc := HG1.out.at_.1.lt
     generalize hlv : S.left - 1 = lv at HG1 d87
     by_cases hle : lv ≤ 0
     ·have HE := hid (zEm HG1.out 17 0 0 none none 0 0 0 0 (fun e => absurd e (by decide)))
      clear hlv
      go_wp2_with fail
      refine HE.out.mono ?_
      rintro e w3 ⟨rfl, ⟨D3, S3, hG⟩, hF⟩
      have HG3 := hid hG
      have HF3 := hid (HF1.out.trans hF)
      clear hG hF HE
      go_wp2_with fail
      go_meet
      exact ⟨D3, S3, HG3, HF3⟩
     ·clear hlv
      go_wp2_with fail
      go_meet
      exact ⟨D, _, HG1, HF1⟩
   case rest =>
    obtain ⟨D1, S1, HG, HF⟩ := hcut
    clear H0 c4 c86 c87 f87 hpb
    generalize wc = w1 at HG HF ⊢
    have d4 : w1.cell? ⟨c, 4, none⟩ = some (.int .i64 S1.phase) := HG.out.at_.hd 4 (by omega)
    have hlc := HG.out.at_.1.lt
    have hs1 := HF.out.2.size
    by_cases hp1 : S1.phase = 1
    ·rw [hp1] at d4
     have HPr := hid (gc_prepare HG.out)
     clear hp1
     go_wp2_with fail
     refine HPr.out.mono ?_
     rintro e w4 ⟨x, ms, rfl, hrow, h9, hS, hG, hF⟩
     have HO := hid (And.intro hrow (And.intro h9 (And.intro hS (And.intro hG (HF.out.trans hF)))))
     clear hrow h9 hS hG hF HPr
     obtain ⟨xa, xc, rfl⟩ := zAe HO.out.1
     go_wp2_with fail
     go_ret
     exact ⟨_, ms, rfl, zAB HO.out.1 hs1, Nat.le_trans HO.out.2.1 (by omega), HO.out.2.2.1, Gs.mono (HO.out.2.2.2.1.more _) (by omega), HO.out.2.2.2.2⟩
    ·have hp1b : (S1.phase == 1) = false := by rw [beq_eq_false_iff_ne]; exact hp1
     have HNe := hid (gc_next HG.out (by omega))
     clear hp1
     go_wp2_with fail
     refine HNe.out.mono ?_
     rintro e w2 ⟨rfl, hG, hF⟩
     have HG2 := hid hG
     have HF2 := hid (HF.out.trans hF)
     have e1 : w2.cell? ⟨c, 1, none⟩ = some (.int .i64 (n : Int)) := by
      obtain ⟨D2, S2, h2⟩ := hG
      rw [← h2.gf.n_]; exact h2.at_.hd 1 (by omega)
     have hl2c : c < w2.heap.size := by
      obtain ⟨D2, S2, h2⟩ := hG
      exact h2.at_.1.lt
     clear hG hF HNe HG HF d4
     go_wp2_with fail
     go_loopw [3, 47] (fun ov iv wr => ∃ (v : Nat) (ms : List MG), iv = .int .i64 (v : Int) ∧ v ≤ n ∧ Hid (wr.ownsRow w.heap.size 30 14 ov ms.length (msgsV ms)) ∧ ms.length ≤ v * 32 ∧ Hid (∀ m ∈ ms, SentM m) ∧ Hid (Gs w0 c kb mb n id bal (G.more (1 + v * 1048579)) (Z + 1) wr) ∧ Hid (Fr w0 w wr)) (fun _ iv _ => n - (intOf iv).toNat)
     case atStart => exact ⟨0, [], rfl, Nat.zero_le _, hid (World.ownsRow_nil _ _ _ _), by simp, hid (fun m hm => by cases hm), HG2, HF2⟩
     case round =>
      obtain ⟨v, ms, rfl, hv, HV, hms, HS, HGr, HFr⟩ := hrel
      clear HG2 HF2 e1
      obtain ⟨Dr, Sr, hGr⟩ := HGr.out
      have hGb : (G.more (1 + v * 1048579)).bb = G.bb + (1 + v * 1048579) := rfl
      have hszr := HFr.out.2.size
      by_cases hlt : v < n
      ·have HSv := hid (gc_serve hGr (by omega) (by rw [hGb]; omega) v hlt)
       clear hGr HGr
       go_wp2_with fail
       refine HSv.out.mono ?_
       rintro e w3 ⟨sv, l, rfl, hrow, h32, hSl, hG, hF⟩
       have hG' : Gs w0 c kb mb n id bal (G.more (1 + (v + 1) * 1048579)) (Z + 1) w3 := by
        rw [Gh.more_more, show 1 + v * 1048579 + 1048579 = 1 + (v + 1) * 1048579 by omega] at hG
        exact hG
       obtain ⟨D3, S3, hG3⟩ := hG'
       have HG3 := hid hG3
       have HF3 := hid (HFr.out.trans hF)
       have HV3 := hid (hF.1.2 _ _ _ _ _ _ (by decide) HV.out)
       have HR3 := hid hrow
       have HSl := hid hSl
       have hsz3 := HF3.out.2.size
       clear hrow hSl hG hG3 hF HSv HV HFr
       obtain ⟨oa, oc, rfl⟩ := zAe HV3.out
       obtain ⟨sa, sc, rfl⟩ := zAe HR3.out
       go_wp2_with (at_builtin; refine zBd rfl _ _ 40 rfl 30 _ 14 144 Tryz.underlying40 zBE rfl (by decide) w.heap.size _ _ _ _ _ (ms.length + l.length) _ _ rfl rfl HV3.out HR3.out (zEL _) rfl ?c1 ?c2 ?c3 ?_)
       case c1 => unfold maxLen; omega
       case c2 => omega
       case c3 => omega
       intro va cap w4 hown hgr _ _
       obtain ⟨g4, f4, _⟩ := zDl HG3.out HF3.out hw0 HV3.out (Below.refl _ _) hgr
       have HG4 := hid (show Gs w0 c kb mb n id bal (G.more (1 + (v + 1) * 1048579)) (Z + 1) w4 from ⟨_, _, g4⟩)
       have HF4 := hid f4
       have HV4 := hid (show w4.ownsRow w.heap.size 30 14 (.slice va (ms.length + l.length) cap) (ms ++ l).length (msgsV (ms ++ l)) by rw [List.length_append, zAL]; exact hown)
       clear hown hgr g4 f4 HG3 HF3 HV3 HR3
       go_wp2_with fail
       go_roundw
       case rel => exact ⟨v + 1, ms ++ l, by go_num, by omega, HV4, by rw [List.length_append]; omega, hid (fun x hx => (List.mem_append.1 hx).elim (HS.out x) (HSl.out x)), HG4, HF4⟩
       case measure => simp [intOf]; omega
      ·obtain rfl : v = n := by omega
       have HAs := hid (gc_asks hGr (by omega) (by rw [hGb]; omega))
       clear hGr HGr
       go_wp2_with fail
       refine HAs.out.mono ?_
       rintro e w3 ⟨sv, l, rfl, hrow, h9, hSl, ⟨D3, S3, hG3⟩, hF⟩
       have HG3 := hid hG3
       have HF3 := hid (HFr.out.trans hF)
       have HV3 := hid (hF.1.2 _ _ _ _ _ _ (by decide) HV.out)
       have HR3 := hid hrow
       have HSl := hid hSl
       have hsz3 := HF3.out.2.size
       clear hrow hSl hG3 hF HAs HV HFr
       obtain ⟨oa, oc, rfl⟩ := zAe HV3.out
       obtain ⟨sa, sc, rfl⟩ := zAe HR3.out
       go_wp2_with (at_builtin; refine zBd rfl _ _ 40 rfl 30 _ 14 144 Tryz.underlying40 zBE rfl (by decide) w.heap.size _ _ _ _ _ (ms.length + l.length) _ _ rfl rfl HV3.out HR3.out (zEL _) rfl ?c1 ?c2 ?c3 ?_)
       case c1 => unfold maxLen; omega
       case c2 => omega
       case c3 => omega
       intro va cap w4 hown hgr _ _
       obtain ⟨g4, f4, _⟩ := zDl HG3.out HF3.out hw0 HV3.out (Below.refl _ _) hgr
       have HF4 := hid f4
       have HV4 := hid (show w4.ownsRow w.heap.size 30 14 (.slice va (ms ++ l).length cap) (ms ++ l).length (msgsV (ms ++ l)) by rw [List.length_append, zAL]; exact hown)
       have HSa := hid (fun x (hx : x ∈ ms ++ l) => (List.mem_append.1 hx).elim (HS.out x) (HSl.out x))
       have HFt := hid (gc_fetches g4)
       have hs4 := f4.2.size
       have hL4 : (ms ++ l).length ≤ 297 := by rw [List.length_append]; omega
       have Hl4 := hid (show (ms ++ l).length = ms.length + l.length from List.length_append)
       clear hown hgr g4 f4 HG3 HF3 HV3 HR3 HS HSl
       rw [← Hl4.out]
       generalize ms ++ l = L at HV4 HSa hL4 ⊢
       clear Hl4
       go_wp2_with fail
       refine HFt.out.mono ?_
       rintro e w5 ⟨fv, fl, rfl, hrow, h288, hSl, ⟨D5, S5, hG5⟩, hF⟩
       have HG5 := hid hG5
       have HF5 := hid (HF4.out.trans hF)
       have HV5 := hid (hF.1.2 _ _ _ _ _ _ (by decide) HV4.out)
       have HR5 := hid hrow
       have HSl := hid hSl
       have hsz5 := HF5.out.2.size
       clear hrow hSl hG5 hF HFt HV4 HF4
       obtain ⟨sa, sc, rfl⟩ := zAe HR5.out
       go_wp2_with (at_builtin; refine zBd rfl _ _ 40 rfl 30 _ 14 144 Tryz.underlying40 zBE rfl (by decide) w.heap.size _ _ _ _ _ (L.length + fl.length) _ _ rfl rfl HV5.out HR5.out (zEL _) rfl ?c1 ?c2 ?c3 ?_)
       case c1 => unfold maxLen; omega
       case c2 => omega
       case c3 => omega
       intro vb cap2 w6 hown2 hgr2 _ _
       obtain ⟨g6, f6, _⟩ := zDl HG5.out HF5.out hw0 HV5.out (Below.refl _ _) hgr2
       have HG6 := hid (Gs.upto (show Gs w0 c kb mb v id bal (G.more (1 + v * 1048579)) (Z + 2) w6 from ⟨_, _, g6⟩) (show 1 + v * 1048579 ≤ 9437212 by omega))
       have HF6 := hid f6
       have HV6 := hid (show w6.ownsRow w.heap.size 30 14 (.slice vb (L.length + fl.length) cap2) (L ++ fl).length (msgsV (L ++ fl)) by rw [List.length_append, zAL]; exact hown2)
       clear hown2 hgr2 g6 f6 HG5 HF5 HV5 HR5
       go_wp2_with fail
       go_ret
       exact ⟨_, L ++ fl, rfl, HV6.out, by rw [List.length_append]; omega, fun x hx => (List.mem_append.1 hx).elim (HSa.out x) (HSl.out x), HG6.out, HF6.out⟩
end Go.Proofs.YtaemlplcjjbamaaGreatDoor
