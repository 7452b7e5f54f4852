/- plan.Send at any texts at hand. Condition: texts of at most  -/
import Derived.Test.YtaemlplcjjbamaaGreatDoorBGPack
namespace Go.Proofs.YtaemlplcjjbamaaGreatDoor
open Go.Lib (hid)
set_option maxRecDepth 100000
set_option maxHeartbeats 8000000
open Go Go.RowKit
set_option linter.unusedVariables false
variable {P : Program} {Q : Exit → Act → World → Prop} {Z c k kb mb n : Nat} {bal id : Int} {w w' w0 wc : World}
def gkn (m : Nat) : Nat := if m = 0 then 0 else 1048579
def GSendSays (m kb mb : Nat) (B : List ByteArray) (w : World) (e : Ending) (w' : World) : Prop :=
 ∃ (bs : Int) (s : List UInt8) (Bk : List ByteArray), e = .returned (.tuple #[.int .i64 bs, .string (ba s)]) ∧ s.length ≤ 524289 ∧ zAo w' kb mb Bk ∧ Ext B Bk ∧ Bk.length ≤ B.length + gkn m ∧ Touch (fun j => j = mb) w w'
theorem zHs (kb mb base : Nat) (B : List ByteArray) (v : Value) (l : List (Int × List UInt8)) (floor top kg : Int) (T : List UInt8) (w : World) (hK : zAo w kb mb B) (hr : RAt w base 151 2 v l.length (knV l)) (hl : l.length ≤ 32) (hO : ∀ x ∈ l, x.2.length ≤ 524288) (hT : T.length ≤ 524288) (hB : B.length ≤ 700000000) :
  Calls Tryz.prog 91 #[.pointer (some ⟨kb, 0, none⟩), v, .int .i64 floor, .int .i64 top, .agg #[.int .i64 kg, .string (ba T)]] w (GSendSays l.length kb mb B w) := by
 have hne := hK.self_ne
 obtain ⟨va, vc, rfl⟩ := RAt.shape hr
 have hml := hK.map_lt
 have hkl := hK.at_.lt
 have HB0 := hid ((Below.refl w.heap.size w).alloc (Nat.le_refl _) (.cells #[.int .i64 kg, .string (ba T)] 151))
 have HQ0 := hid (Blk.new w [.int .i64 kg, .string (ba T)] 151)
 have HK0 := hid (hK.below HB0.out)
 have HR0 := hid (hr.below HB0.out)
 have HO := hid hO
 have Hne := hid hne
 clear hK hr hO hne
 obtain ⟨m, hm⟩ : ∃ m, m = l.length := ⟨_, rfl⟩
 rw [← hm] at hl ⊢
 have Hm := hid hm
 clear hm
 obtain ⟨G, hG⟩ : ∃ G, G = l.map Prod.fst := ⟨_, rfl⟩
 have HG := hid hG
 have HGl := hid (show G.length = m by rw [hG, List.length_map]; exact Hm.out.symm)
 clear hG
 go_enter Tryz.func91, Tryz.ntmps91
 go_upto_region 1 with fail
 generalize w.alloc (.cells #[.int .i64 kg, .string (ba T)] 151) = w0 at HB0 HQ0 HK0 HR0 ⊢
 obtain ⟨gx, hgx⟩ : ∃ gx, gx = w.heap.size := ⟨_, rfl⟩
 rw [← hgx] at HQ0 HB0 hml hkl ⊢
 have Hgx := hid hgx
 have hgl := HQ0.out.lt
 clear hgx
 go_wp2_with fail
 go_loopw [12, 24] (fun hv kv wr => ∃ (k : Nat) (hx : Value), hv = hx ∧ kv = .int .i64 (k : Int) ∧ k ≤ m ∧ Hid (wr.ownsRow w0.heap.size 3 1 hv k (gensV (G.take k))) ∧ Hid (Below w0.heap.size w0 wr)) (fun _ kv _ => m - (intOf kv).toNat)
 case atStart => exact ⟨0, _, rfl, rfl, Nat.zero_le _, hid (World.ownsRow_nil _ _ _ _), hid (Below.refl _ _)⟩
 case round =>
  obtain ⟨k, hv, rfl, rfl, hk, HV, HB⟩ := hrel
  have hszr := HB.out.size
  by_cases hlt : k < m
  ·have HRr := hid (HR0.out.below HB.out)
   obtain ⟨g, off, cap, hv0, hg2, hg3, hg4, hg6, hg5⟩ := RAt.some HRr.out (by have := Hm.out; omega)
   simp only [Value.slice.injEq] at hv0
   obtain ⟨rfl, _, rfl⟩ := hv0
   obtain ⟨x, hx⟩ : ∃ x, l[k]? = some x := ⟨_, List.getElem?_eq_getElem (by have := Hm.out; omega)⟩
   obtain ⟨v1, v2⟩ := zHJ hx
   have hml := Hm.out
   have e1 : wr.cell? ⟨g, off + k * 2, none⟩ = _ := (hg5 (k * 2) (by omega)).trans v1
   have e2 : wr.cell? ⟨g, off + k * 2 + 1, none⟩ = _ := (hg5 (k * 2 + 1) (by omega)).trans v2
   have Htk := hid (show G.take (k + 1) = G.take k ++ [x.1] by
    rw [HG.out, List.take_add_one, List.getElem?_map, hx]; rfl)
   obtain ⟨xg, xt⟩ := x
   simp only at e1 e2
   obtain ⟨ha, hc, rfl⟩ := zAe HV.out
   have HVa := hid (HV.out.alloc (.cells #[.int .i64 xg, .string (ba xt)] 151))
   clear hg5 v1 v2 hx hml
   go_wp2_with (at_builtin; refine zAx rfl _ _ 130 rfl w0.heap.size 3 1 8 Tryz.underlying130 _ zCl rfl (by decide) _ _ _ rfl HVa.out (wr.heap.size + 1) (by simp) [.int .i64 xg] rfl rfl (by simp [Value.oneCell']) ?c1 ?c2 ?c3 ?_)
   case c1 => unfold maxLen; omega
   case c2 => omega
   case c3 => first | omega | (simp; omega)
   intro v' w2 hown hg
   have hown2 : w2.ownsRow w0.heap.size 3 1 v' (k + 1) (gensV (G.take (k + 1))) := by
    rw [Htk.out]
    unfold gensV at hown ⊢
    rw [List.map_append]
    exact hown
   have hb2 : Below w0.heap.size wr w2 := (zAm (((Touch.refl (fun j => w0.heap.size ≤ j) wr).alloc _).alloc _) hg (fun g hg => Or.inl (HV.out.lt g hg).1)).below (by omega) (fun k hk e => by omega)
   have HV2 := hid hown2
   have HB2 := hid (HB.out.trans hb2)
   clear hown hown2 hg hb2
   go_wp2_with fail
   go_roundw
   case rel => exact ⟨k + 1, _, rfl, by go_num, by omega, HV2, HB2⟩
   case measure => simp [intOf]; omega
  ·have hkm : k = m := by omega
   subst hkm
   have HV3 := HV.out
   have hgl2 := HGl.out
   rw [← hgl2, List.take_length] at HV3
   obtain ⟨ad, cap, rfl, hat⟩ := zIx HV3
   have HBs := hid (basis_any wr ad cap G floor top kg hat (by omega))
   have hbin := basis_in floor top kg G
   obtain ⟨bs, hbs⟩ : ∃ bs, bs = basis floor top kg G := ⟨_, rfl⟩
   rw [← hbs] at HBs hbin
   have Hbin := hid hbin
   rw [hgl2] at HBs ⊢
   have HQr := hid (HQ0.out.below HB.out)
   have HRr := hid (HR0.out.below HB.out)
   have HKr := hid (HK0.out.below HB.out)
   have HTr := hid (Touch.of_below (S := fun j => j = mb) (show Below w.heap.size w wr by rw [← Hgx.out]; exact HB0.out.trans (HB.out.mono (Nat.le_of_lt hgl))))
   have c0 : wr.cell? ⟨gx, 0, none⟩ = some (.int .i64 kg) := HQr.out.cell 0
   clear HV3 hgl2 hat hbs hbin HV HB
   go_wp2_with fail
   refine HBs.out.mono ?_
   clear HBs
   rintro e w2 ⟨rfl, rfl⟩
   go_upto_region 9 with fail
   clear c0
   obtain ⟨wz0, hwz0⟩ : ∃ wz0, wz0 = wr := ⟨_, rfl⟩
   rw [← hwz0] at HQr HRr HKr HTr ⊢
   clear hwz0
   go_loopw [42] (fun jv wr => ∃ j : Nat, jv = .int .i64 (j : Int) ∧ j ≤ k ∧ Hid (bs = kg ∨ ∀ i, i < j → ∀ y, l[i]? = some y → y.1 ≠ bs) ∧ Hid (Below wz0.heap.size wz0 wr)) (fun jv _ => k - (intOf jv).toNat)
   case atStart => exact ⟨0, rfl, Nat.zero_le _, hid (Or.inr (fun i hi => absurd hi (Nat.not_lt_zero _))), hid (Below.refl _ _)⟩
   case round =>
    obtain ⟨j, rfl, hj, HF, HB⟩ := hrel
    have HQz := hid (HQr.out.below HB.out)
    have HRz := hid (HRr.out.below HB.out)
    have HKz := hid (HKr.out.below HB.out)
    have HTz := hid (HTr.out.trans (Touch.of_below HB.out))
    by_cases hlt : j < k
    ·obtain ⟨g, off, cap, hv0, hg2, hg3, hg4, hg6, hg5⟩ := RAt.some HRz.out (by have := Hm.out; omega)
     simp only [Value.slice.injEq] at hv0
     obtain ⟨rfl, _, rfl⟩ := hv0
     obtain ⟨x, hx⟩ : ∃ x, l[j]? = some x := ⟨_, List.getElem?_eq_getElem (by have := Hm.out; omega)⟩
     obtain ⟨v1, v2⟩ := zHJ hx
     have hml := Hm.out
     have e1 : wr.cell? ⟨g, off + j * 2, none⟩ = _ := (hg5 (j * 2) (by omega)).trans v1
     have e2 : wr.cell? ⟨g, off + j * 2 + 1, none⟩ = _ := (hg5 (j * 2 + 1) (by omega)).trans v2
     have hxl := HO.out x (List.mem_of_getElem? hx)
     have Hx := hid hx
     obtain ⟨xg, xt⟩ := x
     simp only at e1 e2 hxl
     have z0 : wr.cell? ⟨gx, 0, none⟩ = some (.int .i64 kg) := HQz.out.cell 0
     have z1 : wr.cell? ⟨gx, 1, none⟩ = some (.string (ba T)) := HQz.out.cell 1
     have hgw := HQz.out.lt
     have hBa : Below wr.heap.size wr (wr.alloc (.cells #[.int .i64 xg, .string (ba xt)] 151)) := (Below.refl _ wr).alloc (Nat.le_refl _) _
     have HBa := hid (HB.out.trans (hBa.mono HB.out.size))
     clear hg5 v1 v2 hx
     by_cases h1 : xg = bs
     ·have hb1 : (xg != bs) = false := by rw [h1]; simp
      have Hxb := hid h1
      clear h1
      by_cases h2 : bs = kg
      ·have hb2 : (bs == kg) = true := by rw [h2]; simp
       have H2 := hid h2
       clear h2 hBa
       go_wp2_with fail
       go_roundw
       case rel => exact ⟨j + 1, by go_num, by omega, hid (Or.inl H2.out), HBa⟩
       case measure => simp [intOf]; omega
      ·have hb2 : (bs == kg) = false := by rw [beq_eq_false_iff_ne]; exact h2
       have H2 := hid h2
       have HPk := hid (gpack_any kb mb B xt T (wr.alloc (.cells #[.int .i64 xg, .string (ba xt)] 151)) (HKz.out.below hBa) Hne.out (by omega) (by omega) hB)
       have HQa := hid (HQz.out.below hBa)
       have HTa := hid (HTz.out.trans (Touch.of_below hBa))
       have hml2 : mb < gx := by omega
       clear h2 hBa HQz
       go_wp2_with fail
       refine HPk.out.mono ?_
       clear HPk z0 z1 e1 e2
       rintro e w3 ⟨s, is_, Bk, rfl, hs3, hK3, hX3, hL3, hT3⟩
       have HX3 := hid hX3
       have HS3 := hid hs3
       have HK3 := hid hK3
       have HT3 := hid (HTa.out.trans hT3)
       have HQz := hid (HQa.out.touch hT3 (by omega))
       have hL4 : Bk.length ≤ B.length + gkn k := by unfold gkn; rw [if_neg (by omega)]; omega
       clear hK3 hX3 hL3 hT3 hs3 HQa HTa
       cases is_ with
       | true =>
        go_wp2_with fail
        go_ret2
        exact ⟨bs, s, Bk, rfl, HS3.out, HK3.out, HX3.out, hL4, HT3.out⟩
       | false =>
        have z0 : w3.cell? ⟨gx, 0, none⟩ = some (.int .i64 kg) := HQz.out.cell 0
        have z1 : w3.cell? ⟨gx, 1, none⟩ = some (.string (ba T)) := HQz.out.cell 1
        have HWr := hid (zEs T w3 (by omega))
        go_wp2_with fail
        refine HWr.out.mono ?_
        clear HWr z0 z1
        rintro e wy ⟨rfl, hby⟩
        have z2 : wy.cell? ⟨gx, 0, none⟩ = some (.int .i64 kg) := (HQz.out.below hby).cell 0
        have HKy := hid (HK3.out.below hby)
        have HTy := hid (HT3.out.trans (Touch.of_below hby))
        clear hby
        go_wp2_with fail
        go_ret2
        exact ⟨kg, wrapL T, Bk, rfl, by have := zFg T; omega, HKy.out, HX3.out, hL4, HTy.out⟩
     ·have hb1 : (xg != bs) = true := by rw [bne_iff_ne]; exact h1
      have H1 := hid h1
      have HFn := hid (show bs = kg ∨ ∀ i, i < j + 1 → ∀ y, l[i]? = some y → y.1 ≠ bs from HF.out.imp id (fun h i hi y hy => by
       by_cases hij : i < j
       ·exact h i hij y hy
       ·have : i = j := by omega
        subst this
        have h9 := hy.symm.trans Hx.out
        injection h9 with h9
        rw [h9]
        exact H1.out))
      clear h1 hBa
      go_wp2_with fail
      go_roundw
      case rel => exact ⟨j + 1, by go_num, by omega, HFn, HBa⟩
      case measure => simp [intOf]; omega
    ·have hB4 : B.length ≤ B.length + gkn k := by omega
     have z0 : wr.cell? ⟨gx, 0, none⟩ = some (.int .i64 kg) := HQz.out.cell 0
     have z1 : wr.cell? ⟨gx, 1, none⟩ = some (.string (ba T)) := HQz.out.cell 1
     have HWr := hid (zEs T wr (by omega))
     go_wp2_with fail
     refine HWr.out.mono ?_
     clear HWr z0 z1
     rintro e wy ⟨rfl, hby⟩
     have z2 : wy.cell? ⟨gx, 0, none⟩ = some (.int .i64 kg) := (HQz.out.below hby).cell 0
     have HKy := hid (HKz.out.below hby)
     have HTy := hid (HTz.out.trans (Touch.of_below hby))
     clear hby
     go_wp2_with fail
     go_ret2
     exact ⟨kg, wrapL T, B, rfl, by have := zFg T; omega, HKy.out, Ext.refl _, hB4, HTy.out⟩
theorem gc_settled {G : Gh} {D : Dt} {S : CSt} (h : Gc w0 c kb mb n id bal G Z D S w) :
  Calls Tryz.prog 60 #[.pointer (some ⟨c, 0, none⟩)] w fun e w' => (∃ r, e = .returned (.bool r)) ∧ Below w.heap.size w w' := by
 have HC := hid h.at_
 have hps := h.gf.prsL
 have hn1 := h.gf.n1
 have hn9 := h.gf.n9
 have hcn := h.gf.n_
 have Hp := hid h.gf.prs
 have c1 : w.cell? ⟨c, 1, none⟩ = some (.int .i64 (n : Int)) := by rw [← hcn]; exact h.at_.hd 1 (by omega)
 have hcl : clip (n : Int) = n := by unfold clip; rw [if_neg (by omega), if_neg (by omega)]; omega
 have Hcl := hid hcl
 have Hcn := hid hcn
 clear h hcn hcl
 go_enter Tryz.func60, Tryz.ntmps60
 go_wp2_with fail
 refine (zBB (n : Int) w).mono ?_
 rintro e w1 ⟨t, rfl, hts, hta, hb1⟩
 rw [Hcl.out] at hta
 have HT1 := hid hta
 have HB1 := hid hb1
 have d1 : w1.cell? ⟨c, 1, none⟩ = some (.int .i64 (n : Int)) := by rw [← Hcn.out]; exact (HC.out.below hb1).hd 1 (by omega)
 clear hta hb1 c1
 go_wp2_with fail
 go_loopw [15] (fun iv wr => ∃ (v : Nat) (m : List Bool), iv = .int .i64 (v : Int) ∧ v ≤ n ∧ Hid (zAi wr t n m) ∧ Hid (Below w.heap.size w wr)) (fun iv _ => n - (intOf iv).toNat)
 case atStart => exact ⟨0, _, rfl, Nat.zero_le _, HT1, HB1⟩
 case round =>
  obtain ⟨v, m, rfl, hv, HT, HB⟩ := hrel
  clear HT1 HB1 d1
  by_cases hlt : v < n
  ·have hCr := HC.out.below HB.out
   have p0 : wr.cell? ⟨c, 12 + v * 8, none⟩ = some (.bool (D.ps[v]'(by omega)).told) := hCr.peer Hp.out v (by omega) 0 (by omega)
   have p1 : wr.cell? ⟨c, 12 + v * 8 + 1, none⟩ = some (.int .i64 (D.ps[v]'(by omega)).floor) := hCr.peer Hp.out v (by omega) 1 (by omega)
   have c5 : wr.cell? ⟨c, 5, none⟩ = some (.int .i64 S.floor) := hCr.hd 5 (by omega)
   generalize (D.ps[v]'(by omega)).floor = pf at p1
   generalize (D.ps[v]'(by omega)).told = pt at p0
   generalize S.floor = cf at c5
   have hv1 : (0 : Int) ≤ (v : Int) := by omega
   have hv2 : (v : Int) < 9 := by omega
   have HAd := hid (fun k => zDS t n m (v : Int) (wr.drewN k) (HT.out.drewN k))
   clear hCr
   cases pt with
   | false =>
    go_wp2
    go_quiet (fail)
    go_wp2_with fail
    go_roundw
    case rel => exact ⟨v + 1, m, by go_num, by omega, hid (HT.out.drewN _), hid (below_drewN HB.out _)⟩
    case measure => simp [intOf]; omega
   | true =>
    by_cases hge : cf ≤ pf
    ·go_wp2
     go_quiet (fail)
     go_wp2_with fail
     refine (HAd.out _).mono ?_
     rintro e w3 ⟨rfl, hT3, ht3⟩
     have HT3 := hid hT3
     have HB3 := hid (show Below w.heap.size w w3 from (below_drewN HB.out _).trans (ht3.below (show w.heap.size ≤ (wr.drewN _).heap.size from HB.out.size) (fun j hj (e : j = t) => by omega)))
     clear hT3 ht3 HAd
     go_wp2_with fail
     go_roundw
     case rel => exact ⟨v + 1, _, by go_num, by omega, HT3, HB3⟩
     case measure => simp [intOf]; omega
    ·go_wp2
     go_quiet (fail)
     go_wp2_with fail
     go_roundw
     case rel => exact ⟨v + 1, m, by go_num, by omega, hid (HT.out.drewN _), hid (below_drewN HB.out _)⟩
     case measure => simp [intOf]; omega
  ·obtain rfl : v = n := by omega
   have HWn := hid (zFi t v m wr HT.out)
   go_wp2_with fail
   refine HWn.out.mono ?_
   rintro e w3 ⟨rfl, k, rfl⟩
   go_wp2_with fail
   go_ret
   exact ⟨⟨_, rfl⟩, below_drewN HB.out k⟩
def GoalSays (w : World) (e : Ending) (w' : World) : Prop := ∃ (g : Int) (mk : ByteArray) (ch ok : Bool), e = .returned (.tuple #[.int .i64 g, .string mk, .bool ch, .bool ok]) ∧ Below w.heap.size w w'
theorem gc_goal {G : Gh} {D : Dt} {S : CSt} (h : Gc w0 c kb mb n id bal G Z D S w) (hZ : Z ≤ 100000) (v : Nat) (hvn : v < n) :
  Calls Tryz.prog 58 #[.pointer (some ⟨c, 0, none⟩), .int .i64 (v : Int)] w (GoalSays w) := by
 have hps := h.gf.prsL
 have hn9 := h.gf.n9
 obtain ⟨p, hpv⟩ : ∃ p, p = D.ps[v]'(by omega) := ⟨_, rfl⟩
 have c0 : w.cell? ⟨c, 12 + v * 8, none⟩ = some (.bool p.told) := by rw [hpv]; exact h.at_.peer h.gf.prs v (by omega) 0 (by omega)
 have c2 : w.cell? ⟨c, 12 + v * 8 + 2, none⟩ = some (.int .i64 p.top) := by rw [hpv]; exact h.at_.peer h.gf.prs v (by omega) 2 (by omega)
 have c6 : w.cell? ⟨c, 6, none⟩ = some (.int .i64 S.top) := h.at_.hd 6 (by omega)
 have c5 : w.cell? ⟨c, 5, none⟩ = some (.int .i64 S.floor) := h.at_.hd 5 (by omega)
 have c84 : w.cell? ⟨c, 84, none⟩ = some S.job := h.at_.ft 0
 have HM := hid (fun k g => zIb c w0.heap.size S D.l g (w.drewN k) (h.at_.drewN k) (h.gf.cho.below (below_drewN (Below.refl _ _) k)) (by have := h.gf.choL; omega))
 have hjc : S.job = .pointer none ∨ ∃ (j : Nat) (g : Int) (mk : ByteArray) (ta : Nat), S.job = .pointer (some ⟨j, 0, none⟩) ∧ w.cell? ⟨j, 0, none⟩ = some (.int .i64 g) ∧ w.cell? ⟨j, 2, none⟩ = some (.string mk) ∧ w.cell? ⟨j, 4, none⟩ = some (.pointer (some ⟨ta, 0, none⟩)) ∧ j < w.heap.size ∧ ∃ hsb : Bool, Hid (∀ k, Calls Tryz.prog 51 #[.pointer (some ⟨ta, 0, none⟩), .int .i64 (v : Int)] (w.drewN k) fun e w' => e = .returned (.bool hsb) ∧ (w.drewN k) = w') := by
  cases hj : D.job with
  | none => exact Or.inl (by rw [h.gf.job, hj]; rfl)
  | some J =>
   obtain ⟨a1, a2, a3⟩ := h.gf.jobB J hj
   exact Or.inr ⟨J.j, J.gen, J.mrk, J.ta, by rw [h.gf.job, hj]; rfl, a1.cell 0, a1.cell 2, a1.cell 4, a1.lt, J.aM.getD v false, hid (fun k => zDF J.ta n J.aM v (w.drewN k) (a2.drewN k) hvn)⟩
 have hv1 : (0 : Int) ≤ (v : Int) := by omega
 have hv2 : (v : Int) < 9 := by omega
 generalize p.told = pd at c0
 generalize p.top = pt at c2
 generalize S.top = ct at c6
 generalize S.floor = cf at c5
 generalize S.job = sj at c84 hjc
 clear h hpv
 cases pd with
 | false =>
  rcases hjc with hjc | ⟨j, g, mk, ta, hjc, j0, j2, j4, hjl, hsb, HH⟩
  ·rw [hjc] at c84
   clear hjc
   go_enter Tryz.func58, Tryz.ntmps58
   go_wp2
   go_quiet (fail)
   go_wp2_with fail
   refine bodyPost_ret (zAv rfl _ _ _) rfl ⟨_, _, _, _, rfl, below_drewN (Below.refl w.heap.size w) _⟩
  ·rw [hjc] at c84
   clear hjc
   go_enter Tryz.func58, Tryz.ntmps58
   go_wp2
   go_quiet (fail)
   go_wp2_with fail
   refine (HH.out _).mono ?_
   rintro e w1 ⟨rfl, rfl⟩
   cases hb : hsb with
   | true =>
    go_wp2
    refine bodyPost_ret (zAv rfl _ _ _) rfl ⟨_, _, _, _, rfl, below_drewN (Below.refl w.heap.size w) _⟩
   | false =>
    go_wp2
    go_quiet (fail)
    go_wp2
    refine bodyPost_ret (zAv rfl _ _ _) rfl ⟨_, _, _, _, rfl, below_drewN (below_drewN (Below.refl w.heap.size w) _) _⟩
 | true =>
  by_cases htp : pt < ct
  ·clear hjc
   go_enter Tryz.func58, Tryz.ntmps58
   go_wp2
   go_quiet (fail)
   go_wp2_with fail
   go_quiet (fail)
   go_wp2_with fail
   refine (HM.out _ _).mono ?_
   rintro e w1 ⟨rfl, hb1⟩
   have HB1 := hid (zAd (below_drewN (Below.refl w.heap.size w) _) hb1)
   clear hb1
   go_wp2_with fail
   refine bodyPost_ret (zAv rfl _ _ _) rfl ⟨_, _, _, _, rfl, HB1.out⟩
  ·have hnt : ¬ pt < ct := htp
   rcases hjc with hjc | ⟨j, g, mk, ta, hjc, j0, j2, j4, hjl, hsb, HH⟩
   ·rw [hjc] at c84
    clear hjc
    go_enter Tryz.func58, Tryz.ntmps58
    go_wp2
    go_quiet (fail)
    go_wp2_with fail
    refine bodyPost_ret (zAv rfl _ _ _) rfl ⟨_, _, _, _, rfl, below_drewN (Below.refl w.heap.size w) _⟩
   ·rw [hjc] at c84
    clear hjc
    go_enter Tryz.func58, Tryz.ntmps58
    go_wp2
    go_quiet (fail)
    go_wp2_with fail
    refine (HH.out _).mono ?_
    rintro e w1 ⟨rfl, rfl⟩
    cases hb : hsb with
    | true =>
     go_wp2
     refine bodyPost_ret (zAv rfl _ _ _) rfl ⟨_, _, _, _, rfl, below_drewN (Below.refl w.heap.size w) _⟩
    | false =>
     go_wp2
     go_quiet (fail)
     go_wp2
     refine bodyPost_ret (zAv rfl _ _ _) rfl ⟨_, _, _, _, rfl, below_drewN (below_drewN (Below.refl w.heap.size w) _) _⟩
attribute [local go_sem ↓] Go.wp_at_zero Go.wp_at_succ
def zFO (B : Nat) (w : World) (p : Peer) : Prop := zDw B w p ∧ p.pack ≠ .pointer none
def SentM (m : MG) : Prop := m.la = none ∧ m.ll = 0 ∧ m.lc = 0 ∧ m.pt.size ≤ 524289
def zBx (w0 : World) (c kb mb n : Nat) (id bal : Int) (G : Gh) (Z : Nat) (w : World) (e : Ending) (w' : World) : Prop :=
 ∃ (x : Value) (ms : List MG), e = .returned x ∧ w'.ownsRow w.heap.size 30 14 x ms.length (msgsV ms) ∧ ms.length ≤ 32 ∧ (∀ m ∈ ms, SentM m) ∧ Gs w0 c kb mb n id bal (G.more 1048579) Z w' ∧ Fr w0 w w'
theorem Fr.grow {w0 w a b : World} (h : Fr w0 w a) (hT : Touch (fun j => w.heap.size ≤ j) a b) (hw : w0.heap.size ≤ w.heap.size) : Fr w0 w b :=
 ⟨⟨fun q cs T hT' hq => (h.1.1 q cs T hT' hq).touch hT (fun e => by have := hq.lt; omega), fun B T sz v k xs hT' hr => zAj (h.1.2 B T sz v k xs hT' hr) hT (fun g hg e => by have := (zCe hr hg).2; omega)⟩, Touch.trans h.2 (hT.mono (fun j _ e => by omega))⟩
theorem Gf.newPack {G : Gh} {D : Dt} {S : CSt} (h : Gf w0 c kb mb n id bal G Z D S w) (hc : zAb w c S) (hT : Touch (fun k => k = c) w w') (v : Nat) (hv : v < 9) (p' : Peer) (hp : zDw w0.heap.size w' p') :
  Gf w0 c kb mb n id bal G Z { D with ps := D.ps.set v p' } { S with peers := zAg (D.ps.set v p') } w' ∧ Fr w0 w w' := by
 obtain ⟨g1, g2⟩ := h.coord hc hT
 refine ⟨{ g1 with
  prs := rfl
  prsL := by rw [List.length_set]; exact h.prsL
  pck := fun p hpm => ?_ }, g2⟩
 rcases zDK hpm with rfl | e
 ·exact hp
 ·exact g1.pck p e
def cTail : Nat → Code → Code
 | 0, c => c
 | k + 1, .seq _ b => cTail k b
 | _ + 1, c => c
def fTail (k : Nat) (f : Func) : Code := match f.body with | some c => cTail k c | none => .ret
theorem wp_tail {f : Func} {c1 c2 : Code} {a : Act} (h : fTail k f = .seq c1 c2) (hw : (Code.seq c1 c2).wp P Q a w) : (fTail k f).wp P Q a w := h ▸ hw
theorem zIV {G : Gh} {D2 : Dt} {S2 : CSt} (hbw : Below w0.heap.size w0 w) (v : Nat) (hv : v < 9) (gen : Int) (mk : ByteArray) (T : List UInt8)
  (HG2 : Hid (Gc w0 c kb mb n id bal (G.more 1048579) Z D2 S2 wc)) (HP2 : Hid (∃ p2 ∈ D2.ps[v]?, zFO w0.heap.size wc p2)) (HF2 : Hid (Fr w0 w wc)) (u10 u12 u13 u14 u15 u18 u19 u20 u21 u22 u23 u24 u25 u26 u27 u28 u29 u30 u31 u32 u33 u34 u35 u36 u37 u38 u39 u40 u41 u42 u43 u44 u45 u46 u47 u48 u49 u50 u51 u52 u53 u54 u55 u56 u57 u58 u59 u60 u61 u62 u63 u64 u65 u66 u67 u68 u69 u70 u71 u72 u73 u74 u75 u76 u77 u78 u79 u80 u81 u82 u83 u84 u85 u86 u87 u88 u89 u90 u91 u92 u93 u94 u95 u96 u97 u98 u99 u100 u101 u102 u103 u104 u105 u106 u107 u108 u109 u110 u111 u112 u113 u114 u115 u116 u117 u118 u119 u120 u121 u122 u123 u124 u125 u126 u127 u128 u129 u130 u131 u132 u133 u134 u135 u136 u137 u138 u139 u140 u141 u142 u143 u144 u145 u146 u147 u148 u151 u152 u153 u154 u155 u156 u157 u158 u159 u160 u161 u162 u163 u164 u165 u166 u167 u168 u169 u170 u171 u172 u173 u174 u175 u176 u177 u178 u179 u180 u181 u182 u183 u184 u185 u186 u187 u188 u189 u190 u191 u192 u193 u194 u195 u196 u197 u198 u199 u200 u201 u202 u203 : Value) :
  Code.wp Tryz.prog (fTail 3 Tryz.f59) (bodyPost Tryz.prog Tryz.f59 (zBx w0 c kb mb n id bal G Z w)) ⟨#[.pointer (some ⟨c, 0, none⟩), .int .i64 (v : Int), .int .i64 gen, .string mk, .string (ba T), undef, undef, undef, undef, undef, u10, .pointer (some ⟨c, 12 + v * 8, none⟩), u12, u13, u14, u15, undef, undef, u18, u19, u20, u21, u22, u23, u24, u25, u26, u27, u28, u29, u30, u31, u32, u33, u34, u35, u36, u37, u38, u39, u40, u41, u42, u43, u44, u45, u46, u47, u48, u49, u50, u51, u52, u53, u54, u55, u56, u57, u58, u59, u60, u61, u62, u63, u64, u65, u66, u67, u68, u69, u70, u71, u72, u73, u74, u75, u76, u77, u78, u79, u80, u81, u82, u83, u84, u85, u86, u87, u88, u89, u90, u91, u92, u93, u94, u95, u96, u97, u98, u99, u100, u101, u102, u103, u104, u105, u106, u107, u108, u109, u110, u111, u112, u113, u114, u115, u116, u117, u118, u119, u120, u121, u122, u123, u124, u125, u126, u127, u128, u129, u130, u131, u132, u133, u134, u135, u136, u137, u138, u139, u140, u141, u142, u143, u144, u145, u146, u147, u148, undef, undef, u151, u152, u153, u154, u155, u156, u157, u158, u159, u160, u161, u162, u163, u164, u165, u166, u167, u168, u169, u170, u171, u172, u173, u174, u175, u176, u177, u178, u179, u180, u181, u182, u183, u184, u185, u186, u187, u188, u189, u190, u191, u192, u193, u194, u195, u196, u197, u198, u199, u200, u201, u202, u203], []⟩ wc := by
 have hv1 : (0 : Int) ≤ (v : Int) := by omega
 have hv2 : (v : Int) < 9 := by omega
 obtain ⟨p2, hp2, hpi⟩ := HP2.out
 have hps2 := HG2.out.gf.prsL
 have hvq : v < D2.ps.length := by omega
 have hp2e : p2 = D2.ps[v] := by
  rw [List.getElem?_eq_getElem hvq] at hp2
  injection hp2 with hp2
  exact hp2.symm
 rcases hpi.1 with e | ⟨pk, gp, bp, mp, pv, l, hpk, hB, hR, l1, l2, q0, q1, hsz⟩
 ·exact absurd e hpi.2
 obtain ⟨cu, hcu⟩ : ∃ cu : Nat, p2.cursor = (cu : Int) := ⟨p2.cursor.toNat, by omega⟩
 have hcul : cu < l.length := by omega
 obtain ⟨pa, pc, rfl⟩ := zAe hR
 have hat := HG2.out.at_
 have x7 : wc.cell? ⟨c, 12 + v * 8 + 7, none⟩ = some (.pointer (some ⟨pk, 0, none⟩)) := by rw [← hpk, hp2e]; exact hat.peer HG2.out.gf.prs v hvq 7 (by omega)
 have k3 : wc.cell? ⟨pk, 3, none⟩ = some (.slice pa l.length pc) := hB.cell 3
 have hset : D2.ps.set v { p2 with cursor := (cu : Int) } = D2.ps := by
  rw [← hcu, hp2e]
  exact List.set_getElem_self ..
 have HGc : Hid (Gc w0 c kb mb n id bal (G.more 1048579) Z { D2 with ps := D2.ps.set v { p2 with cursor := (cu : Int) } } { S2 with peers := zAg (D2.ps.set v { p2 with cursor := (cu : Int) }) } wc) := hid (by
  rw [hset, ← HG2.out.gf.prs]
  exact HG2.out)
 have HBk := hid hB
 have HRw := hid hR
 have HSz := hid hsz
 have Hpk := hid hpk
 have hl0 := hat.1.lt
 have hbase := HG2.out.gf.below.size
 have hszw := HF2.out.2.size
 obtain ⟨N, hN⟩ : ∃ N, N = l.length := ⟨_, rfl⟩
 rw [← hN] at k3 HRw hcul l1 l2
 have HN := hid hN
 obtain ⟨M, hM⟩ : ∃ M : Nat, M = min 32 N := ⟨_, rfl⟩
 have hM32 : M ≤ 32 := by omega
 have hMN : M ≤ N := by omega
 have Hmin := hid (show min (32 : Int) (N : Int) = (M : Int) by omega)
 clear hpk hB hR hsz hp2 hpi HP2 hat hset hcu q0 q1 hN hM
 refine wp_tail rfl ?_
 go_wp2_with fail
 try rw [Hmin.out]
 go_loopw [16, 150] (fun ov iv wr => ∃ (k cu : Nat) (ms : List MG), iv = .int .i64 (k : Int) ∧ k ≤ M ∧ cu < N ∧ Hid (wr.ownsRow w.heap.size 30 14 ov k (msgsV ms)) ∧ Hid (ms.length = k) ∧ Hid (∀ m ∈ ms, SentM m) ∧ Hid (Gc w0 c kb mb n id bal (G.more 1048579) Z { D2 with ps := D2.ps.set v { p2 with cursor := (cu : Int) } } { S2 with peers := zAg (D2.ps.set v { p2 with cursor := (cu : Int) }) } wr) ∧ Hid (Blk wr pk (packVals gp bp mp (.slice pa N pc)) 156) ∧ Hid (wr.ownsRow w0.heap.size 27 3 (.slice pa N pc) N (zBb l)) ∧ Hid (Fr w0 w wr)) (fun _ iv _ => M - (intOf iv).toNat)
 case atStart => exact ⟨0, cu, [], rfl, Nat.zero_le _, hcul, hid (World.ownsRow_nil _ _ _ _), hid rfl, hid (fun m hm => by cases hm), HGc, by rw [HN.out] at *; exact HBk, HRw, HF2⟩
 case round =>
  obtain ⟨k, cu, ms, rfl, hk, hcu, HV, HL, HSm, HG, HQ, HR, HF⟩ := hrel
  clear HGc HBk HRw HF2
  by_cases hlt : k < M
  ·have hszr := HF.out.2.size
   have HTo := hid (zEA c _ (v : Int) 4 wr HG.out.at_)
   go_wp2_with fail
   refine HTo.out.mono ?_
   rintro e w5 ⟨rfl, hb5⟩
   simp only [zBM]
   have HB5 := hid hb5
   clear HTo hb5
   go_upto_region 14 with fail
   have hbA : Below w5.heap.size w5 (w5.alloc (.cells #[.int .i64 4, .int .i64 S2.id, .int .i64 (v : Int), .int .i64 S2.ballot, .int .i64 0, .int .i64 0, .int .i64 0, .int .i64 0, .int .i64 0, .string ⟨#[]⟩, .int .i64 0, .int .i64 0, .string ⟨#[]⟩, .slice none 0 0] 30)) := (Below.refl _ w5).alloc (Nat.le_refl _) _
   have M6 := Blk.new w5 [.int .i64 4, .int .i64 S2.id, .int .i64 (v : Int), .int .i64 S2.ballot, .int .i64 0, .int .i64 0, .int .i64 0, .int .i64 0, .int .i64 0, .string ⟨#[]⟩, .int .i64 0, .int .i64 0, .string ⟨#[]⟩, .slice none 0 0] 30
   have hb6 := zAd HB5.out hbA
   clear hbA
   have hq5 : wr.heap.size ≤ w5.heap.size := HB5.out.size
   generalize w5.alloc (.cells #[.int .i64 4, .int .i64 S2.id, .int .i64 (v : Int), .int .i64 S2.ballot, .int .i64 0, .int .i64 0, .int .i64 0, .int .i64 0, .int .i64 0, .string ⟨#[]⟩, .int .i64 0, .int .i64 0, .string ⟨#[]⟩, .slice none 0 0] 30) = w6 at M6 hb6 ⊢
   obtain ⟨q, hq⟩ : ∃ q, q = w5.heap.size := ⟨_, rfl⟩
   rw [← hq] at M6 hq5 ⊢
   have G6 := HG.out.quiet hb6
   have Q6 := HQ.out.below hb6
   have R6 := zAc HR.out hb6
   have HV6 := hid (zAc HV.out hb6)
   have HVlt := hid (fun g (hg : (u16 : Value).ownBlock = some g) => (zCe HV.out hg).2)
   have HB6 := hid hb6
   obtain ⟨g, cap, hsv, hg0, hg, _, _, hcell⟩ := zAz R6 (by omega)
   simp only [Value.slice.injEq] at hsv
   obtain ⟨rfl, _, rfl⟩ := hsv
   have hcl : cu < l.length := by rw [← HN.out]; exact hcu
   obtain ⟨z0, z1, z2⟩ := pscells_at l cu hcl
   have Hxm := hid (HSz.out l[cu] (List.getElem_mem _))
   obtain ⟨xa, hxa⟩ : ∃ xa, xa = l[cu].1 := ⟨_, rfl⟩
   obtain ⟨xo, hxo⟩ : ∃ xo, xo = l[cu].2.1 := ⟨_, rfl⟩
   obtain ⟨xt, hxt⟩ : ∃ xt, xt = l[cu].2.2 := ⟨_, rfl⟩
   rw [← hxt] at Hxm z2
   rw [← hxa] at z0
   rw [← hxo] at z1
   have y0 := (hcell (cu * 3) (by omega)).trans z0
   have y1 := (hcell (cu * 3 + 1) (by omega)).trans z1
   have y2 := (hcell (cu * 3 + 2) (by omega)).trans z2
   have x6 : w6.cell? ⟨c, 12 + v * 8 + 6, none⟩ = some (.int .i64 (cu : Int)) := G6.at_.peerS hvq 6 (by omega)
   have x7 : w6.cell? ⟨c, 12 + v * 8 + 7, none⟩ = some (.pointer (some ⟨pk, 0, none⟩)) := by rw [← Hpk.out]; exact G6.at_.peerS hvq 7 (by omega)
   have k1 : w6.cell? ⟨pk, 1, none⟩ = some (.int .i64 bp) := Q6.cell 1
   have k3 : w6.cell? ⟨pk, 3, none⟩ = some (.slice (some ⟨g, 0, none⟩) N pc) := Q6.cell 3
   have m4 : w6.cell? ⟨q, 4, none⟩ = some (.int .i64 0) := M6.cell 4
   have m5 : w6.cell? ⟨q, 5, none⟩ = some (.int .i64 0) := M6.cell 5
   have m9 : w6.cell? ⟨q, 9, none⟩ = some (.string ⟨#[]⟩) := M6.cell 9
   have m10 : w6.cell? ⟨q, 10, none⟩ = some (.int .i64 0) := M6.cell 10
   have m11 : w6.cell? ⟨q, 11, none⟩ = some (.int .i64 0) := M6.cell 11
   have m12 : w6.cell? ⟨q, 12, none⟩ = some (.string ⟨#[]⟩) := M6.cell 12
   have g4 := M6.free 4
   have g5 := M6.free 5
   have g9 := M6.free 9
   have g10 := M6.free 10
   have g11 := M6.free 11
   have g12 := M6.free 12
   have hql := M6.lt
   have hcl6 := G6.at_.1.lt
   have hpl6 := Q6.lt
   have hcr := HG.out.at_.1.lt
   have hpr := HQ.out.lt
   have hcq : c ≠ q := by omega
   have hpq : pk ≠ q := by omega
   have hgq : g ≠ q := fun e => zAp R6 M6 (by decide) (by rw [e]; rfl)
   have hk0 : (0 : Int) ≤ (cu : Int) := by omega
   have hvn1 : (0 : Int) ≤ (v : Int) := by omega
   have HM6 := hid M6
   clear M6 G6 Q6 R6 hb6 hcell z0 z1 z2 hxa hxo hxt hq HB5
   go_cut [] (fun wx => Hid (Blk wx q [.int .i64 4, .int .i64 S2.id, .int .i64 (v : Int), .int .i64 S2.ballot, .int .i64 gen, .int .i64 bp, .int .i64 0, .int .i64 0, .int .i64 0, .string mk, .int .i64 xa, .int .i64 xo, .string xt, .slice none 0 0] 30) ∧ Hid (Below wr.heap.size wr wx))
   case first =>
    have KB := hid (show ∀ w', Touch (fun j => j = q) w6 w' → (w'.cell? ⟨c, 12 + v * 8 + 6, none⟩ = some (.int .i64 (cu : Int)) ∧ w'.cell? ⟨c, 12 + v * 8 + 7, none⟩ = some (.pointer (some ⟨pk, 0, none⟩)) ∧ w'.cell? ⟨pk, 1, none⟩ = some (.int .i64 bp) ∧ w'.cell? ⟨pk, 3, none⟩ = some (.slice (some ⟨g, 0, none⟩) N pc) ∧ w'.cell? ⟨g, cu * 3, none⟩ = some (.int .i64 xa) ∧ w'.cell? ⟨g, cu * 3 + 1, none⟩ = some (.int .i64 xo) ∧ w'.cell? ⟨g, cu * 3 + 2, none⟩ = some (.string xt)) from fun w' ht => by
     have e : ∀ b o, b < w6.heap.size → b ≠ q → w'.cell? ⟨b, o, none⟩ = w6.cell? ⟨b, o, none⟩ := fun b o hb hn => ht.cell (p := ⟨b, o, none⟩) hb hn
     exact ⟨(e _ _ hcl6 hcq).trans x6, (e _ _ hcl6 hcq).trans x7, (e _ _ hpl6 hpq).trans k1, (e _ _ hpl6 hpq).trans k3, (e _ _ hg hgq).trans y0, (e _ _ hg hgq).trans y1, (e _ _ hg hgq).trans y2⟩)
    have T0 := hid (Touch.refl (fun j => j = q) w6)
    go_region_held3 (fun w' => w'.cell? ⟨c, 12 + v * 8 + 6, none⟩ = some (.int .i64 (cu : Int)) ∧ w'.cell? ⟨c, 12 + v * 8 + 7, none⟩ = some (.pointer (some ⟨pk, 0, none⟩)) ∧ w'.cell? ⟨pk, 1, none⟩ = some (.int .i64 bp) ∧ w'.cell? ⟨pk, 3, none⟩ = some (.slice (some ⟨g, 0, none⟩) N pc) ∧ w'.cell? ⟨g, cu * 3, none⟩ = some (.int .i64 xa) ∧ w'.cell? ⟨g, cu * 3 + 1, none⟩ = some (.int .i64 xo) ∧ w'.cell? ⟨g, cu * 3 + 2, none⟩ = some (.string xt))
     ((refine KB.out _ ?_; with_reducible (repeat (first | exact T0.out | refine zAa ?_ _ | refine Touch.drew ?_))))
     (fail)
    all_goals
     have TS7 : Touch (fun j => j = q) w6 (((((((w6.setCell ⟨q, 4, none⟩ (.int .i64 gen)).setCell ⟨q, 5, none⟩ (.int .i64 bp)).setCell ⟨q, 9, none⟩ (.string mk)).setCell ⟨q, 10, none⟩ (.int .i64 xa)).setCell ⟨q, 11, none⟩ (.int .i64 xo)).setCell ⟨q, 12, none⟩ (.string xt)).drew) := (zAa (zAa (zAa (zAa (zAa (zAa (Touch.refl _ _) _) _) _) _) _) _).drew
     have M7 : Blk (((((((w6.setCell ⟨q, 4, none⟩ (.int .i64 gen)).setCell ⟨q, 5, none⟩ (.int .i64 bp)).setCell ⟨q, 9, none⟩ (.string mk)).setCell ⟨q, 10, none⟩ (.int .i64 xa)).setCell ⟨q, 11, none⟩ (.int .i64 xo)).setCell ⟨q, 12, none⟩ (.string xt)).drew) q [.int .i64 4, .int .i64 S2.id, .int .i64 (v : Int), .int .i64 S2.ballot, .int .i64 gen, .int .i64 bp, .int .i64 0, .int .i64 0, .int .i64 0, .string mk, .int .i64 xa, .int .i64 xo, .string xt, .slice none 0 0] 30 := ((((((HM6.out.set 4 _).set 5 _).set 9 _).set 10 _).set 11 _).set 12 _).drew
     have B7 : Below wr.heap.size wr (((((((w6.setCell ⟨q, 4, none⟩ (.int .i64 gen)).setCell ⟨q, 5, none⟩ (.int .i64 bp)).setCell ⟨q, 9, none⟩ (.string mk)).setCell ⟨q, 10, none⟩ (.int .i64 xa)).setCell ⟨q, 11, none⟩ (.int .i64 xo)).setCell ⟨q, 12, none⟩ (.string xt)).drew) := HB6.out.trans (TS7.below (by omega) (fun j hj e => by omega))
     clear x6 x7 k1 k3 m4 m5 m9 m10 m11 m12 g4 g5 g9 g10 g11 g12 y0 y1 y2
     go_wp2_with fail
     go_meet
     exact ⟨hid M7, hid B7⟩
   case rest =>
    obtain ⟨HM7, HB7⟩ := hcut
    clear x6 x7 k1 k3 m4 m5 m9 m10 m11 m12 g4 g5 g9 g10 g11 g12 y0 y1 y2
    have HG7 := hid (HG.out.quiet HB7.out)
    have HQ7 := hid (HQ.out.below HB7.out)
    have HR7 := hid (zAc HR.out HB7.out)
    have HV7 := hid (zAc HV.out HB7.out)
    have HF7 := hid (HF.out.trans (Fr.of_below HB7.out))
    have M7 := HM7.out
    have n0 : wc.cell? ⟨q, 0, none⟩ = some (.int .i64 4) := M7.cell 0
    have n1 : wc.cell? ⟨q, 1, none⟩ = some (.int .i64 S2.id) := M7.cell 1
    have n2 : wc.cell? ⟨q, 2, none⟩ = some (.int .i64 (v : Int)) := M7.cell 2
    have n3 : wc.cell? ⟨q, 3, none⟩ = some (.int .i64 S2.ballot) := M7.cell 3
    have n4 : wc.cell? ⟨q, 4, none⟩ = some (.int .i64 gen) := M7.cell 4
    have n5 : wc.cell? ⟨q, 5, none⟩ = some (.int .i64 bp) := M7.cell 5
    have n6 : wc.cell? ⟨q, 6, none⟩ = some (.int .i64 0) := M7.cell 6
    have n7 : wc.cell? ⟨q, 7, none⟩ = some (.int .i64 0) := M7.cell 7
    have n8 : wc.cell? ⟨q, 8, none⟩ = some (.int .i64 0) := M7.cell 8
    have n9 : wc.cell? ⟨q, 9, none⟩ = some (.string mk) := M7.cell 9
    have n10 : wc.cell? ⟨q, 10, none⟩ = some (.int .i64 xa) := M7.cell 10
    have n11 : wc.cell? ⟨q, 11, none⟩ = some (.int .i64 xo) := M7.cell 11
    have n12 : wc.cell? ⟨q, 12, none⟩ = some (.string xt) := M7.cell 12
    have n13 : wc.cell? ⟨q, 13, none⟩ = some (.slice none 0 0) := M7.cell 13
    have hsz7 := HB7.out.size
    have hql7 := M7.lt
    clear M7 HM7 HM6 HV6 HV HG HQ HR HF HB6 HB7
    obtain ⟨oa, oc, rfl⟩ := zAe HV7.out
    go_wp2_with (at_builtin; refine zAx rfl _ _ 40 rfl w.heap.size 30 14 144 Tryz.underlying40 _ zBE rfl (by decide) _ _ _ rfl HV7.out wc.heap.size rfl [.int .i64 4, .int .i64 S2.id, .int .i64 (v : Int), .int .i64 S2.ballot, .int .i64 gen, .int .i64 bp, .int .i64 0, .int .i64 0, .int .i64 0, .string mk, .int .i64 xa, .int .i64 xo, .string xt, .slice none 0 0] rfl rfl (by simp [Value.oneCell']) ?c1 ?c2 ?c3 ?_)
    case c1 => unfold maxLen; omega
    case c2 => omega
    case c3 => first | omega | (simp; omega)
    intro v8 w8 hown hgr
    clear n0 n1 n2 n3 n4 n5 n6 n7 n8 n9 n10 n11 n12 n13
    have hbA : Below wc.heap.size wc (wc.alloc (.cells #[.int .i64 4, .int .i64 S2.id, .int .i64 (v : Int), .int .i64 S2.ballot, .int .i64 gen, .int .i64 bp, .int .i64 0, .int .i64 0, .int .i64 0, .string mk, .int .i64 xa, .int .i64 xo, .string xt, .slice none 0 0] 30)) := (Below.refl _ wc).alloc (Nat.le_refl _) _
    have TT : Touch (fun j => w.heap.size ≤ j) wc w8 := zAm ((Touch.refl _ _).alloc _) hgr (fun g hg => Or.inl (zCe HV7.out hg).1)
    have hww : w0.heap.size ≤ w.heap.size := hbw.size
    have HF8 := hid (HF7.out.grow TT hww)
    have K8 : Keep [30] wc w8 := (Keep.of_below hbA).trans (Keep.of_grown (zAc HV7.out hbA) hgr (by simp) (by decide))
    have HG8 := hid (HG7.out.keep K8 (HF8.out.2.below hbw) (by decide))
    have HQ8 := hid (K8.1.1 _ _ _ (by decide) HQ7.out)
    have HR8 := hid (K8.1.2 _ _ _ _ _ _ (by decide) HR7.out)
    have HV8 := hid (show w8.ownsRow w.heap.size 30 14 v8 (k + 1) (msgsV (ms ++ [{ MG.zero with k := 4, fr := S2.id, to_ := v, bal := S2.ballot, gen := gen, bas := bp, mrk := mk, pa := xa, po := xo, pt := xt }])) from by rw [zAL]; exact hown)
    clear hown hgr hbA TT K8 HG7 HQ7 HR7 HV7 HF7
    have x6 : w8.cell? ⟨c, 12 + v * 8 + 6, none⟩ = some (.int .i64 (cu : Int)) := HG8.out.at_.peerS hvq 6 (by omega)
    have x7 : w8.cell? ⟨c, 12 + v * 8 + 7, none⟩ = some (.pointer (some ⟨pk, 0, none⟩)) := by rw [← Hpk.out]; exact HG8.out.at_.peerS hvq 7 (by omega)
    have k3 : w8.cell? ⟨pk, 3, none⟩ = some (.slice (some ⟨g, 0, none⟩) N pc) := HQ8.out.cell 3
    have f6 := HG8.out.at_.1.free (12 + v * 8 + 6)
    have hc8 := HG8.out.at_.1.lt
    have hp8 := HQ8.out.lt
    go_wp2_with fail
    go_region
    have hcm : ((cu : Int) + 1) % (N : Int) = (((cu + 1) % N : Nat) : Int) := by rw [Int.natCast_emod]; rfl
    rw [hcm]
    have T9 : Touch (fun j => j = c) w8 ((w8.setCell ⟨c, 12 + v * 8 + 6, none⟩ (.int .i64 (((cu + 1) % N : Nat) : Int))).drew) := (zAa (Touch.refl _ _) _).drew
    have C9 : zAb ((w8.setCell ⟨c, 12 + v * 8 + 6, none⟩ (.int .i64 (((cu + 1) % N : Nat) : Int))).drew) c { S2 with peers := zAg (D2.ps.set v { p2 with cursor := (((cu + 1) % N : Nat) : Int) }) } := (HG8.out.at_.setPeer2 hvq 6 (by omega) (.int .i64 (((cu + 1) % N : Nat) : Int)) { p2 with cursor := (((cu + 1) % N : Nat) : Int) } rfl).drew
    have hpkc : pk ≠ c := HQ8.out.ne HG8.out.at_.1 (by decide)
    have Q9 := HQ8.out.touch T9 (fun e => hpkc e)
    have hgc : (Value.slice (some ⟨g, 0, none⟩) N pc).ownBlock ≠ some c := zAp HR8.out HG8.out.at_.1 (by decide)
    have R9 := zAj HR8.out T9 (fun g' hg' e => hgc (by rw [hg', e]))
    have V9 := zAj HV8.out T9 (fun g' hg' e => zAp HV8.out HG8.out.at_.1 (by decide) (by rw [hg', e]))
    have hml : (cu + 1) % N < N := Nat.mod_lt _ (by omega)
    obtain ⟨g9, f9⟩ := HG8.out.gf.newPack HG8.out.at_ T9 v hv { p2 with cursor := (((cu + 1) % N : Nat) : Int) } (Or.inr ⟨pk, gp, bp, mp, .slice (some ⟨g, 0, none⟩) N pc, l, Hpk.out, Q9, by rw [← HN.out]; exact R9, by rw [← HN.out]; exact l1, by rw [← HN.out]; exact l2, Int.natCast_nonneg _, by rw [← HN.out]; show (((cu + 1) % N : Nat) : Int) < (N : Int); omega, HSz.out⟩)
    have hss : (D2.ps.set v { p2 with cursor := (cu : Int) }).set v { p2 with cursor := (((cu + 1) % N : Nat) : Int) } = D2.ps.set v { p2 with cursor := (((cu + 1) % N : Nat) : Int) } := List.set_set ..
    have HG9 : Hid (Gc w0 c kb mb n id bal (G.more 1048579) Z { D2 with ps := D2.ps.set v { p2 with cursor := (((cu + 1) % N : Nat) : Int) } } { S2 with peers := zAg (D2.ps.set v { p2 with cursor := (((cu + 1) % N : Nat) : Int) }) } ((w8.setCell ⟨c, 12 + v * 8 + 6, none⟩ (.int .i64 (((cu + 1) % N : Nat) : Int))).drew)) := hid ⟨C9, by
     have g9' := g9
     simp only [hss] at g9'
     exact g9'⟩
    have HF9 := hid (HF8.out.trans f9)
    have HQ9 := hid Q9
    have HR9 := hid R9
    have HV9 := hid V9
    have Hml := hid hml
    clear T9 C9 hpkc Q9 hgc R9 V9 hml g9 f9 hss HG8 HF8 HQ8 HR8 HV8 x6 x7 k3 f6 hcm
    generalize (w8.setCell ⟨c, 12 + v * 8 + 6, none⟩ (.int .i64 (((cu + 1) % N : Nat) : Int))).drew = w9 at HG9 HF9 HQ9 HR9 HV9 ⊢
    go_wp2_with fail
    go_roundw
    case rel => exact ⟨k + 1, (cu + 1) % N, ms ++ [{ MG.zero with k := 4, fr := S2.id, to_ := v, bal := S2.ballot, gen := gen, bas := bp, mrk := mk, pa := xa, po := xo, pt := xt }], by go_num, by omega, Hml.out, HV9, hid (by rw [List.length_append, HL.out]; rfl), hid (fun m hm => by
     rcases List.mem_append.1 hm with e | e
     ·exact HSm.out m e
     ·rw [List.mem_singleton.1 e]; exact ⟨rfl, rfl, rfl, Hxm.out⟩), HG9, HQ9, HR9, HF9⟩
    case measure => simp [intOf]; omega
  ·obtain rfl : k = M := by omega
   go_wp2_with fail
   go_ret
   exact ⟨_, ms, rfl, by rw [HL.out]; exact HV.out, by rw [HL.out]; exact hM32, HSm.out, ⟨_, _, HG.out⟩, HF.out⟩
end Go.Proofs.YtaemlplcjjbamaaGreatDoor
