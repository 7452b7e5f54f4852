/- The walk of a coordinator's parts in whatever state. Conditi -/
import Derived.Test.YtaemlplcjjbamaaGreatDoorBGPartM
namespace Go.Proofs.YtaemlplcjjbamaaGreatDoor
open Go.Lib (hid)
set_option maxRecDepth 100000
set_option maxHeartbeats 8000000
open Go Go.RowKit
set_option linter.unusedVariables false
variable {Z c kb mb n : Nat} {bal id : Int} {w w0 : World}
attribute [local go_sem ↓] Go.wp_at_zero Go.wp_at_succ
theorem gc_parts {G : Gh} {D : Dt} {S : CSt} (h : Gc w0 c kb mb n id bal G Z D S w) (hbb : G.bb ≤ 600000000) (v : Nat) (hv : v < 9) (gen : Int) (mk : ByteArray) (T : List UInt8) (hT : T.length ≤ 524288) :
  Calls Tryz.prog 59 #[.pointer (some ⟨c, 0, none⟩), .int .i64 (v : Int), .int .i64 gen, .string mk, .string (ba T)] w (zBx w0 c kb mb n id bal G Z w) := by
 have hps := h.gf.prsL
 have hbl := h.at_.1.lt
 obtain ⟨p, hpv⟩ : ∃ p, p = D.ps[v]'(by omega) := ⟨_, rfl⟩
 have p7 : w.cell? ⟨c, 12 + v * 8 + 7, none⟩ = some p.pack := by rw [hpv]; exact h.at_.peer h.gf.prs v (by omega) 7 (by omega)
 have p5 : w.cell? ⟨c, 12 + v * 8 + 5, none⟩ = some (.bool p.whole) := by rw [hpv]; exact h.at_.peer h.gf.prs v (by omega) 5 (by omega)
 have hpk := h.gf.pck p (by rw [hpv]; exact List.getElem_mem _)
 have hv1 : (0 : Int) ≤ (v : Int) := by omega
 have hv2 : (v : Int) < 9 := by omega
 have H0 := hid h
 have Hpv := hid hpv
 have HT := hid hT
 have Hbb := hid hbb
 have hcc := h.at_
 clear h hpv hT hbb
 go_enter Tryz.func59, Tryz.ntmps59
 go_upto_region 2 with fail
 go_cut [66] (fun v66 wx => ∃ b : Bool, v66 = .bool b ∧ w = wx ∧ Hid (b = false → zFO w0.heap.size w p))
 case first =>
  rcases hpk with hpk | ⟨pk, gp, bp, mp, pv, l, hpk, hB, hrest⟩
  ·rw [hpk] at p7
   clear hcc hpk
   go_wp2_with fail
   go_meet
   exact ⟨true, rfl, rfl, hid (fun e => by cases e)⟩
  ·have HPI := hid (show zFO w0.heap.size w p from ⟨Or.inr ⟨pk, gp, bp, mp, pv, l, hpk, hB, hrest⟩, by rw [hpk]; exact fun e => by cases e⟩)
   rw [hpk] at p7
   have k0 : w.cell? ⟨pk, 0, none⟩ = some (.int .i64 gp) := hB.cell 0
   have k1 : w.cell? ⟨pk, 1, none⟩ = some (.int .i64 bp) := hB.cell 1
   have k2 : w.cell? ⟨pk, 2, none⟩ = some (.string mp) := hB.cell 2
   have hkl := hB.lt
   clear hcc hpk hB hrest
   have hms := zAY mp mk
   cases h1 : (gp == gen) with
   | false =>
    go_wp2_with fail
    all_goals go_meet
    all_goals exact ⟨_, rfl, rfl, hid (fun _ => HPI.out)⟩
   | true =>
    cases h2 : (mp.toList == mk.toList) with
    | false =>
     go_wp2_with fail
     all_goals go_meet
     all_goals exact ⟨_, rfl, rfl, hid (fun _ => HPI.out)⟩
    | true =>
     cases h3 : p.whole with
     | false =>
      rw [h3] at p5
      go_wp2_with fail
      all_goals go_meet
      all_goals exact ⟨_, rfl, rfl, hid (fun _ => HPI.out)⟩
     | true =>
      rw [h3] at p5
      go_wp2_with fail
      all_goals go_meet
      all_goals exact ⟨_, rfl, rfl, hid (fun _ => HPI.out)⟩
 case rest =>
  obtain ⟨b, rfl, rfl, HPI⟩ := hcut
  have hat := H0.out.at_
  have c2 : w.cell? ⟨c, 2, none⟩ = some (.pointer (some ⟨kb, 0, none⟩)) := by
   have := hat.hd 2 (by omega)
   rw [show S.head[2]? = some S.book from rfl, H0.out.gf.bk_] at this
   exact this
  have p0 : w.cell? ⟨c, 12 + v * 8, none⟩ = some (.bool p.told) := by rw [Hpv.out]; exact hat.peer H0.out.gf.prs v (by omega) 0 (by omega)
  clear hcc hpk hat
  go_upto_if 66 with (fail)
  go_cut [] (fun wx => ∃ (D2 : Dt) (S2 : CSt), Hid (Gc w0 c kb mb n id bal (G.more 1048579) Z D2 S2 wx) ∧ Hid (∃ p2 ∈ D2.ps[v]?, zFO w0.heap.size wx p2) ∧ Hid (Fr w0 w wx))
  case first =>
   ·cases b with
    | false =>
     have hp2 := HPI.out rfl
     have HP2 := hid hp2
     clear hp2 c2 p0 p5 p7
     go_wp2_with fail
     go_meet
     refine ⟨D, S, hid ⟨H0.out.at_, H0.out.gf.more _⟩, hid ⟨p, ?_, HP2.out⟩, hid (Fr.of_below (Below.refl _ _))⟩
     rw [List.getElem?_eq_getElem (by omega), Hpv.out]
     rfl
    | true =>
     have HS0 := hid (zHs kb mb w0.heap.size D.Bk (.slice none 0 0) [] 0 0 gen T w H0.out.gf.bok (RAt.nil _ _ _ _) (by simp) (fun x hx => by cases hx) HT.out (by have := H0.out.gf.bokL; have := Hbb.out; omega))
     clear HPI p7
     go_wp2_with fail
     refine HS0.out.mono ?_
     rintro e w1 ⟨bs, s, Bk1, rfl, hs1, hK1, hX1, hL1, hT1⟩
     obtain ⟨g1, f1, k1⟩ := H0.out.gf.book hT1 Bk1 hK1 hX1 0 (by have := H0.out.gf.bokL; have h9 : Bk1.length ≤ D.Bk.length := hL1; omega)
     have G1 : Hid (Gc w0 c kb mb n id bal (G.more 0) Z { D with Bk := Bk1 } S w1) := hid ⟨H0.out.at_.keep k1 (by simp), g1⟩
     have HF1 := hid f1
     have Hs1 := hid hs1
     clear HS0 hs1 hK1 hX1 hL1 hT1 g1 f1 k1 c2 p0 p5
     have hat := G1.out.at_
     have c2 : w1.cell? ⟨c, 2, none⟩ = some (.pointer (some ⟨kb, 0, none⟩)) := by
      have := hat.hd 2 (by omega)
      rw [show S.head[2]? = some S.book from rfl, H0.out.gf.bk_] at this
      exact this
     have p0 : w1.cell? ⟨c, 12 + v * 8, none⟩ = some (.bool p.told) := by rw [Hpv.out]; exact hat.peer H0.out.gf.prs v (by omega) 0 (by omega)
     have p5 : w1.cell? ⟨c, 12 + v * 8 + 5, none⟩ = some (.bool p.whole) := by rw [Hpv.out]; exact hat.peer H0.out.gf.prs v (by omega) 5 (by omega)
     clear hat
     go_upto_region 4 with fail
     go_cut [88] (fun v88 wx => ∃ b2 : Bool, v88 = .bool b2 ∧ w1 = wx)
     case first =>
      cases ht : p.told with
      | false =>
       rw [ht] at p0
       go_wp2_with fail
       go_meet
       exact ⟨_, rfl, rfl⟩
      | true =>
       rw [ht] at p0
       go_wp2_with fail
       all_goals go_meet
       all_goals exact ⟨_, rfl, rfl⟩
     case rest =>
      obtain ⟨b2, rfl, rfl⟩ := hcut
      go_upto_if 88 with (fail)
      go_cut [12, 13] (fun v12 v13 wx => ∃ (bs2 : Int) (s2 : List UInt8) (Bk2 : List ByteArray), v12 = .int .i64 bs2 ∧ v13 = .string (ba s2) ∧ Hid (Gc w0 c kb mb n id bal (G.more 1048579) Z { D with Bk := Bk2 } S wx) ∧ Hid (s2.length ≤ 524289) ∧ Hid (Fr w0 w wx))
      case first =>
       cases b2 with
       | false =>
        clear c2 p0 p5
        go_wp2_with fail
        go_meet
        exact ⟨bs, s, Bk1, rfl, rfl, hid ⟨G1.out.at_, G1.out.gf.more 1048579⟩, Hs1, HF1⟩
       | true =>
        obtain ⟨ia, ic, hi⟩ := RAt.shape G1.out.gf.img
        have Hi := hid (show S.images = .slice ia D.I.length ic from hi)
        clear hi
        have HS1 := hid (zHs kb mb w0.heap.size Bk1 (.slice ia D.I.length ic) D.I (max p.floor S.floor) (min p.top S.top) gen T w1.drew (G1.out.gf.bok.below (Below.refl _ _).drew) (by rw [← Hi.out]; exact G1.out.gf.img.below (Below.refl _ _).drew) G1.out.gf.imgL G1.out.gf.imgS HT.out (by have h1 := G1.out.gf.bokL; have h2 := Hbb.out; have : Bk1.length ≤ G.bb + 0 := h1; omega))
        have HFf := hid (fun w' (ha : zAb w' c S) => (show w'.cell? ⟨c, 2, none⟩ = some (.pointer (some ⟨kb, 0, none⟩)) ∧ w'.cell? ⟨c, 8, none⟩ = some (.slice ia D.I.length ic) ∧ w'.cell? ⟨c, 5, none⟩ = some (.int .i64 S.floor) ∧ w'.cell? ⟨c, 6, none⟩ = some (.int .i64 S.top) ∧ w'.cell? ⟨c, 12 + v * 8 + 1, none⟩ = some (.int .i64 p.floor) ∧ w'.cell? ⟨c, 12 + v * 8 + 2, none⟩ = some (.int .i64 p.top) from by
         refine ⟨?_, by rw [← Hi.out]; exact ha.hd 8 (by omega), ha.hd 5 (by omega), ha.hd 6 (by omega), by rw [Hpv.out]; exact ha.peer H0.out.gf.prs v (by omega) 1 (by omega), by rw [Hpv.out]; exact ha.peer H0.out.gf.prs v (by omega) 2 (by omega)⟩
         have := ha.hd 2 (by omega)
         rw [show S.head[2]? = some S.book from rfl, H0.out.gf.bk_] at this
         exact this))
        have hk0 := HFf.out w1.drew G1.out.at_.drew
        clear c2 p0 p5
        go_wp2_with fail
        go_region_held3 (fun w' => w'.cell? ⟨c, 2, none⟩ = some (.pointer (some ⟨kb, 0, none⟩)) ∧ w'.cell? ⟨c, 8, none⟩ = some (.slice ia D.I.length ic) ∧ w'.cell? ⟨c, 5, none⟩ = some (.int .i64 S.floor) ∧ w'.cell? ⟨c, 6, none⟩ = some (.int .i64 S.top) ∧ w'.cell? ⟨c, 12 + v * 8 + 1, none⟩ = some (.int .i64 p.floor) ∧ w'.cell? ⟨c, 12 + v * 8 + 2, none⟩ = some (.int .i64 p.top))
         (first | with_reducible exact hk0 | with_reducible exact hk2 | go_keep)
         ((go_at_call 91; refine HS1.out.mono ?_; rintro e w2 ⟨bs2, s2, Bk2, rfl, hs2, hK2, hX2, hL2, hT2⟩; obtain ⟨g2, f2, kk2⟩ := (G1.out.quiet (Below.refl _ _).drew).gf.book hT2 Bk2 hK2 hX2 1048579 (by have h1 := G1.out.gf.bokL; have : Bk1.length ≤ (G.more 0).bb := h1; have hg : gkn D.I.length ≤ 1048579 := (by unfold gkn; split <;> omega); omega); have hk2 := HFf.out w2 (G1.out.at_.drew.keep kk2 (by simp))))
        all_goals go_wp2_with fail
        all_goals go_meet
        all_goals exact ⟨bs2, s2, Bk2, rfl, rfl, hid ⟨G1.out.at_.drew.keep kk2 (by simp), g2⟩, hid hs2, hid ((HF1.out.trans (Fr.of_below (Below.refl _ _).drew)).trans f2)⟩
      case rest =>
       obtain ⟨bs2, s2, Bk2, rfl, rfl, HG2, HS2, HF2⟩ := hcut
       refine use_K (P := fun a w' => Code.wp Tryz.prog (fAt [1, 1, 0, 1, 2, 1, 1] Tryz.f59) (Exit.then _ (bodyPost Tryz.prog Tryz.f59 (zBx w0 c kb mb n id bal G Z w))) a w') (by assumption) (gparts_mid H0.out.gf.prs hps v hv p Hpv gen mk T bs2 s2 Bk2 HG2 HS2 HF2 _ ?_ _ _ _ _ _ _ _ _ _ _ _ _ _ _ _ _ _ _ _ _ _ _ _ _ _ _ _ _ _ _ _ _ _ _ _ _ _ _ _ _ _ _ _ _ _ _ _ _ _ _ _ _ _ _ _ _ _ _ _ _ _ _ _ _ _ _ _ _ _ _ _ _ _ _ _ _ _ _ _ _ _ _ _ _ _ _ _ _ _ _ _ _ _ _ _ _ _ _ _ _ _ _ _ _ _ _ _ _ _ _ _ _ _ _ _ _ _ _ _ _ _ _ _ _ _ _ _ _ _ _ _ _ _ _ _ _ _ _ _ _ _ _ _ _ _ _ _ _ _ _ _ _ _ _ _ _ _ _ _ _ _ _ _ _ _ _ _ _ _ _ _ _ _ _ _ _ _ _ _ _ _ _ _ _)
       intro u10 u12 u13 u14 u15 u18 u19 u20 u21 u22 u23 u24 u25 u26 u27 u28 u29 u30 u31 u32 u33 u34 u35 u36 u37 u38 u39 u40 u41 u42 u43 u44 u45 u46 u47 u48 u49 u50 u51 u52 u53 u54 u55 u56 u57 u58 u59 u60 u61 u62 u63 u64 u65 u66 u67 u68 u69 u70 u71 u72 u73 u74 u75 u76 u77 u78 u79 u80 u81 u82 u83 u84 u85 u86 u87 u88 u89 u90 u91 u92 u93 u94 u95 u96 u97 u98 u99 u100 u101 u102 u103 u104 u105 u106 u107 u108 u109 u110 u111 u112 u113 u114 u115 u116 u117 u118 u119 u120 u121 u122 u123 u124 u125 u126 u127 u128 u129 u130 u131 u132 u133 u134 u135 u136 u137 u138 u139 u140 u141 u142 u143 u144 u145 u146 u147 u148 u151 u152 u153 u154 u155 u156 u157 u158 u159 u160 u161 u162 u163 u164 u165 u166 u167 u168 u169 u170 u171 u172 u173 u174 u175 u176 u177 u178 u179 u180 u181 u182 u183 u184 u185 u186 u187 u188 u189 u190 u191 u192 u193 u194 u195 u196 u197 u198 u199 u200 u201 u202 u203 wx h
       clear G1 HF1 Hs1 c2 p0 p5 HG2 HS2 HF2
       go_wp2_with fail
       go_meet
       exact h
  case rest =>
   obtain ⟨D2, S2, HG2, HP2, HF2⟩ := hcut
   exact use_K (P := fun a w' => Code.wp Tryz.prog (fTail 3 Tryz.f59) (bodyPost Tryz.prog Tryz.f59 (zBx w0 c kb mb n id bal G Z w)) a w') (by assumption) (zIV H0.out.gf.below v hv gen mk T HG2 HP2 HF2 _ _ _ _ _ _ _ _ _ _ _ _ _ _ _ _ _ _ _ _ _ _ _ _ _ _ _ _ _ _ _ _ _ _ _ _ _ _ _ _ _ _ _ _ _ _ _ _ _ _ _ _ _ _ _ _ _ _ _ _ _ _ _ _ _ _ _ _ _ _ _ _ _ _ _ _ _ _ _ _ _ _ _ _ _ _ _ _ _ _ _ _ _ _ _ _ _ _ _ _ _ _ _ _ _ _ _ _ _ _ _ _ _ _ _ _ _ _ _ _ _ _ _ _ _ _ _ _ _ _ _ _ _ _ _ _ _ _ _ _ _ _ _ _ _ _ _ _ _ _ _ _ _ _ _ _ _ _ _ _ _ _ _ _ _ _ _ _ _ _ _ _ _ _ _ _ _ _ _ _ _ _ _ _ _ _ _ _ _)
end Go.Proofs.YtaemlplcjjbamaaGreatDoor
