/- The walk of PlanSends: what is sent of a generation makes it of the basis that is told, or is the whole. No condition. -/
import Derived.Test.YtogobhpnlndcaaaGreatOpenKnown
import Derived.Test.YtogobhpnlndcaaaGreatDRead
import Derived.Test.YtogobhpnlndcaaaGreatDApply
import Derived.Test.YtogobhpnlndcaaaGreatOpenW
import Derived.Test.YtogobhpnlndcaaaGreatHeld
import Derived.Deep.CutBlock
namespace Go.Proofs.YtogobhpnlndcaaaGreat
open Go Go.RowKit
set_option linter.unusedVariables false

theorem info_known : (Tryz.prog.info? 40).map (fun i => (i.zero, i.size, i.bytes)) = some (some (.agg #[.int .i64 0, .string ByteArray.empty]), 2, 24) := by kernel_rfl
set_option maxRecDepth 100000 in
set_option maxHeartbeats 8000000 in
theorem planSends_walk (ad : Option Addr) (cap : Nat) (z : List (Int × ByteArray)) (floor top kg : Int) (ks : ByteArray) (w : World) (hz : z.length ≤ maxLen) (h : KnownsAt w ad z) (_h1 : (Lit.int .i64 floor).wf = true) (_h2 : (Lit.int .i64 top).wf = true) :
    Calls Tryz.prog 4 #[.slice ad z.length cap, .int .i64 floor, .int .i64 top, .agg #[.int .i64 kg, .string ks]] w fun e w' => e = .returned (.bool true) ∧ Below w.heap.size w w' := by
  clear _h1 _h2
  have HZ := Lib.hid h
  unfold maxLen at hz
  obtain ⟨n, hn⟩ : ∃ n, n = z.length := ⟨_, rfl⟩
  rw [← hn] at hz ⊢
  have Hn := Lib.hid hn
  have HB0 := Lib.hid ((Below.refl w.heap.size w).alloc (Nat.le_refl _) (.cells #[.int .i64 kg, .string ks] 40))
  have HQ0 := Lib.hid (Blk.new w [.int .i64 kg, .string ks] 40)
  clear h hn
  go_enter Tryz.func4, Tryz.ntmps4
  go_upto_region 1 with fail
  generalize w.alloc (.cells #[.int .i64 kg, .string ks] 40) = w0 at HB0 HQ0 ⊢
  obtain ⟨gx, hgx⟩ : ∃ gx, gx = w.heap.size := ⟨_, rfl⟩
  rw [← hgx] at HQ0 ⊢
  have Hgx := Lib.hid hgx
  have hgl := HQ0.out.lt
  clear hgx
  have HC := Lib.hid (fun (s : ByteArray) w' => cut_any s w')
  go_upto_block 0 with fail
  go_cut [9] (fun hv wx => ∃ (v : Value) (G : List (Int × List UInt8)), hv = v ∧ G.length ≤ 8 ∧ Hid (wx.ownsRow w0.heap.size 40 2 v G.length (knV G)) ∧ Hid (∀ x ∈ G, x.2.length ≤ 1500) ∧ Hid (Below w0.heap.size w0 wx))
  case first =>
    go_wp2_with fail
    go_loopw [9, 10] (fun hv iv_ wr => ∃ (i : Nat) (v : Value) (G : List (Int × List UInt8)), hv = v ∧ iv_ = .int .i64 (i : Int) ∧ i ≤ n ∧ i ≤ 8 ∧ G.length = i ∧ Hid (wr.ownsRow w0.heap.size 40 2 v i (knV G)) ∧ Hid (∀ x ∈ G, x.2.length ≤ 1500) ∧ Hid (Below w0.heap.size w0 wr)) (fun _ iv_ _ => 8 - (intOf iv_).toNat)
    case atStart => exact ⟨0, _, [], rfl, rfl, Nat.zero_le _, Nat.zero_le _, rfl, Lib.hid (World.ownsRow_nil _ _ _ _), Lib.hid (fun x hx => by cases hx), Lib.hid (Below.refl _ _)⟩
    case round =>
      obtain ⟨i, v, G, rfl, rfl, hi, hi8, hGl, HV, HG, HB⟩ := hrel
      have hszr := HB.out.size
      by_cases hlt : i < n ∧ i < 8
      · obtain ⟨hlt1, hlt2⟩ := hlt
        obtain ⟨b, off, rfl, e1, e2⟩ := HZ.out.get (HB0.out.trans (HB.out.mono HB0.out.size)) i (by rw [← Hn.out]; exact hlt1)
        generalize z[i]'(by rw [← Hn.out]; exact hlt1) = x at e1 e2
        obtain ⟨xg, xs⟩ := x
        simp only at e1 e2
        obtain ⟨ha, hc, rfl⟩ := row_shape HV.out
        have HCx := Lib.hid (fun w' => HC.out xs w')
        obtain ⟨i0, hi0, hz0, hz1, hz2⟩ := info_parts info_known
        have hown := HV.out
        have hxw : (knV G).length = i * 2 := by rw [knV_length, hGl]
        have hal1 : off + (i * 2 + 1) = off + i * 2 + 1 := by omega
        rw [hal1] at e2
        clear hal1
        go_upto_region 5 with fail
        go_region_law (first
          | (refine step_append_lies _ (by rfl) _ _ _ (by rfl) w0.heap.size 40 i0 _ 2 24 Tryz.underlying38 hi0 hz0 hz1 hz2 rfl (by omega) (.slice ha i hc) i (knV G) (by rfl) ((hown.alloc _).drew) ⟨wr.heap.size, 0, none⟩ 1 1 [.int .i64 xg, .string (ba L)] (by rfl) (by rfl) (World.news_of_block (cs := #[.int .i64 xg, .string (ba L)]) (t := 40) (fr := (0, 0)) (heap_alloc_new wr _)) (by simp [Value.oneCell']) (by omega) (by unfold maxLen; omega) (by omega) (by simp; omega) (wr.heap.size + 1) (by simp) ?_; intro gg ucap w4 hown4 hgrow hat hlt4)
          | (go_simp; go_at_call 5; refine (HCx.out _).mono ?_; rintro e w5 ⟨⟨L, rfl, hL⟩, rfl⟩))
        all_goals
          have hb4 : Below w0.heap.size wr w4 := (touch_grown (((Touch.refl (fun j => w0.heap.size ≤ j) wr).alloc _).drew) hgrow (fun g hg => Or.inl (HV.out.lt g hg).1)).below (by omega) (fun k hk e => by omega)
          have HV4 := Lib.hid (show w4.ownsRow w0.heap.size 40 2 (.slice (some ⟨gg, 0, none⟩) (i + 1) ucap) (i + 1) (knV (G ++ [(xg, L)])) by rw [knV_snoc]; exact hown4)
          have HB4 := Lib.hid (HB.out.trans hb4)
          have HG4 := Lib.hid (show ∀ x ∈ G ++ [(xg, L)], x.2.length ≤ 1500 from fun x hx => by
            rcases List.mem_append.1 hx with e | e
            · exact HG.out x e
            · rw [List.mem_singleton.1 e]; exact hL)
          clear hown4 hgrow hat hlt4 hb4 hown hxw hi0 hz0 hz1 hz2 e1 e2
          go_wp2_with fail
          go_roundw
          case rel => exact ⟨i + 1, _, G ++ [(xg, L)], rfl, by go_num, by omega, by omega, by rw [List.length_append, hGl]; rfl, HV4, HG4, HB4⟩
          case measure => simp [intOf]; omega
      · have hvg : G.length ≤ 8 := by omega
        have HVg := Lib.hid (hGl.symm ▸ HV.out)
        go_wp2_with fail
        all_goals
          go_meet
          exact ⟨_, G, rfl, hvg, by first | exact HVg | (rw [hGl]; exact HV), HG, HB⟩
  case rest =>
    obtain ⟨v, G, rfl, hG8, HV, HG, HB⟩ := hcut
    obtain ⟨wr, hwr⟩ : ∃ wr, wr = wc := ⟨_, rfl⟩
    rw [← hwr] at HV HB ⊢
    clear hwr
    obtain ⟨i, hi⟩ : ∃ i, i = G.length := ⟨_, rfl⟩
    rw [← hi] at HV hG8
    have Hi := Lib.hid hi
    clear hi
    have HQr := Lib.hid (HQ0.out.below HB.out)
    have HBr := Lib.hid (show Below gx w wr from (show Below gx w w0 by rw [Hgx.out]; exact HB0.out).trans (HB.out.mono (Nat.le_of_lt hgl)))
    have hql := HQr.out.lt
    have z0 : wr.cell? ⟨gx, 0, none⟩ = some (.int .i64 kg) := HQr.out.cell 0
    have z1 : wr.cell? ⟨gx, 1, none⟩ = some (.string ks) := HQr.out.cell 1
    have y1 := HQr.out.free 1
    obtain ⟨va, vc, rfl⟩ := row_shape HV.out
    have HCk := Lib.hid (HC.out ks wr)
    go_upto_region 6 with fail
    have hvr : (Value.slice va i vc).ownBlock ≠ some gx := fun e => by
      have h0 := (HV.out.lt gx e).1
      have hq0 := HQ0.out.lt
      omega
    go_wp2_with fail
    refine HCk.out.mono ?_
    clear HCk
    rintro e w1 ⟨⟨T, rfl, hT⟩, rfl⟩
    go_upto_region 7 with fail
    have hTs : Touch (fun j => j = gx) wr (wr.setCell ⟨gx, 1, none⟩ (.string (ba T))) := touchB (Touch.refl _ wr) _
    have HQ2 := Lib.hid (HQr.out.set 1 (.string (ba T)))
    have HV2 := Lib.hid (row_touch HV.out hTs (fun g hg e => hvr (by rw [hg, e])))
    have HB2 := Lib.hid (HBr.out.trans (hTs.below (Nat.le_of_lt hql) (fun k hk e => by omega)))
    generalize wr.setCell ⟨gx, 1, none⟩ (.string (ba T)) = w2 at HQ2 HV2 HB2 ⊢
    have hql2 := HQ2.out.lt
    clear z0 z1 y1 hTs hvr HV HB HQr HBr hql
    go_wp2_with fail
    refine (ideal_book w2).mono ?_
    rintro e w3 ⟨kb, mb, rfl, hkb, hmb, hK, hb3⟩
    have HQ3 := Lib.hid (show Blk w3 gx [.int .i64 kg, .string (ba T)] 40 from HQ2.out.below hb3)
    have HV3 := Lib.hid (ownsRow_below HV2.out hb3)
    have HB3 := Lib.hid (HB2.out.trans (hb3.mono (Nat.le_of_lt hql2)))
    have HSn := Lib.hid (send_any kb mb w0.heap.size [] (.slice va i vc) G floor top kg T w3 hK (Hi.out ▸ HV3.out) (by have := Hi.out; omega) HG.out hT (by simp))
    have Hne := Lib.hid hK.self_ne
    have Hvm := Lib.hid (hK.ne_row HV3.out (by decide)).2
    have hg3 : gx < mb := by omega
    have z0 : w3.cell? ⟨gx, 0, none⟩ = some (.int .i64 kg) := HQ3.out.cell 0
    have z1 : w3.cell? ⟨gx, 1, none⟩ = some (.string (ba T)) := HQ3.out.cell 1
    clear hK hb3 HQ2 HV2 HB2
    go_wp2_with fail
    refine HSn.out.mono ?_
    clear HSn z0 z1
    rintro e w4 ⟨bs, s, Bk, rfl, hK4, hL4, hT4, hok⟩
    have HQ4 := Lib.hid (HQ3.out.touch hT4 (by omega))
    have HV4 := Lib.hid (row_touch HV3.out hT4 (fun g hg e => Hvm.out (by rw [hg, e])))
    have HB4 := Lib.hid (HB3.out.trans (hT4.below (B := gx) (Nat.le_of_lt HQ3.out.lt) (fun k hk e => by omega)))
    have HK4 := Lib.hid hK4
    have hL4' : Bk.length ≤ 0 + 4000 := hL4
    have HL4 := Lib.hid (show Bk.length ≤ 900000000 by omega)
    have hawk := Lib.hid (fun w' => awake_any w')
    clear hK4 hL4 hT4 HQ3 HV3 HB3
    rcases hok with ⟨rfl, rfl⟩ | ⟨hbk, hb1, hb2, hb3, i0, O, hO, hfst, hlt, bl, sl, l, hs, hmk, hbz, hsz2, hbl, hsl, hmO, hmT⟩
    · have hwl := wrapL_len T
      have HO := Lib.hid (openW_any (wrapL T) w4 (by omega))
      rw [open_wrap T (by omega)] at HO
      clear hwl
      go_wp2_with fail
      refine HO.out.mono ?_
      clear HO
      rintro e w5 ⟨rfl, hb5⟩
      have HQ5 := Lib.hid (HQ4.out.below hb5)
      have HB5 := Lib.hid (HB4.out.trans (hb5.mono (Nat.le_of_lt HQ4.out.lt)))
      have z0 : w5.cell? ⟨gx, 0, none⟩ = some (.int .i64 bs) := HQ5.out.cell 0
      have z1 : w5.cell? ⟨gx, 1, none⟩ = some (.string (ba T)) := HQ5.out.cell 1
      clear hb5
      go_wp2_with fail
      refine (hawk.out _).mono ?_
      rintro e w6 ⟨rfl, hb6⟩
      have HB6 := Lib.hid (HB5.out.trans (hb6.mono (Nat.le_of_lt HQ5.out.lt)))
      clear hb6
      go_wp2_with fail
      go_ret
      exact ⟨by first | rfl | exact ret_bool (by simp), by rw [← Hgx.out]; exact HB6.out⟩
    · obtain ⟨D, hD⟩ : ∃ D, D = dlBytes ⟨bl, sl, (T.length : Nat), l⟩ := ⟨_, rfl⟩
      rw [← hD] at hs
      have hOl : O.length ≤ 1500 := HG.out (bs, O) (List.mem_of_getElem? hO)
      have hDl : D.length ≤ 1048576 := by rw [hD]; exact dlBytes_len hmk hbz hsz2 (by omega) (by omega)
      have hwl := wrapL_len T
      have HOp := Lib.hid (openW_any s w4 (by omega))
      rw [show openL s = (D, 0) by rw [hs]; exact open_wrap D hDl] at HOp
      have HRd := Lib.hid (fun w' => dRead_any bl sl O T l D w' hD (by omega) hbz hsz2 hmk (by omega) (by omega))
      have HAp := Lib.hid (fun w' dv base (hr : w'.ownsRow base 64 3 dv l.length (stpsV l)) (hk : BookIs w' kb mb Bk) => dApply_any kb mb Bk (ba bl) (ba sl) dv base O T l w' hk Hne.out HL4.out (by omega) (by omega) hmO hmT hbl hsl hr hmk)
      have hi0 : i0 < i := by rw [Hi.out]; exact (List.getElem?_eq_some_iff.1 hO).1
      have HOg := Lib.hid hO
      have Hfst := Lib.hid hfst
      have hbk2 : (bs == kg) = false := by rw [beq_eq_false_iff_ne]; exact hbk
      have hbt : decide (floor ≤ bs) = true := decide_eq_true hb1
      have hbt2 : decide (bs < top) = true := decide_eq_true hb2
      have hbt3 : decide (bs < kg) = true := decide_eq_true hb3
      clear hwl hs hD hmk hbz hsz2 hbl hsl hmO hmT hO hfst hlt hbk
      go_wp2_with fail
      refine HOp.out.mono ?_
      clear HOp
      rintro e w5 ⟨rfl, hb5⟩
      have HQ5 := Lib.hid (HQ4.out.below hb5)
      have HV5 := Lib.hid (ownsRow_below HV4.out hb5)
      have HK5 := Lib.hid (HK4.out.below hb5)
      have HB5 := Lib.hid (HB4.out.trans (hb5.mono (Nat.le_of_lt HQ4.out.lt)))
      have z0 : w5.cell? ⟨gx, 0, none⟩ = some (.int .i64 kg) := HQ5.out.cell 0
      clear hb5
      go_wp2_with fail
      go_loopw [16] (fun jv wr => ∃ j : Nat, jv = .int .i64 (j : Int) ∧ j ≤ i0 ∧ w5 = wr) (fun jv _ => i0 - (intOf jv).toNat)
      case atStart => exact ⟨0, rfl, Nat.zero_le _, rfl⟩
      case round =>
        obtain ⟨j, rfl, hj, rfl⟩ := hrel
        obtain ⟨g, cp, hv0, hg2, hg3', hg4, hg6, hg5⟩ := row_some HV5.out (by omega)
        simp only [Value.slice.injEq] at hv0
        obtain ⟨rfl, _, rfl⟩ := hv0
        obtain ⟨x, hx⟩ : ∃ x, G[j]? = some x := ⟨_, List.getElem?_eq_getElem (by have := Hi.out; omega)⟩
        obtain ⟨v1, v2⟩ := knV_at hx
        have e1 := (hg5 (j * 2) (by omega)).trans v1
        have e2 := (hg5 (j * 2 + 1) (by omega)).trans v2
        have Hx := Lib.hid hx
        have hji : j < i := by omega
        clear hg5 v1 v2 hx
        by_cases hlt : j < i0
        · have hne := Hfst.out j hlt x Hx.out
          obtain ⟨xg, xt⟩ := x
          simp only at e1 e2 hne
          have hb1 : (xg != bs) = true := by rw [bne_iff_ne]; exact hne
          clear hne
          go_wp2_with fail
          go_roundw
          case rel => exact ⟨j + 1, by go_num, by omega, by trivial⟩
          case measure => simp [intOf]; omega
        · have hj0 : j = i0 := by omega
          subst hj0
          have hxe : x = (bs, O) := by
            have h9 := Hx.out.symm.trans HOg.out
            injection h9
          subst hxe
          simp only at e1 e2
          have hb1 : (bs != bs) = false := by simp
          go_wp2_with fail
          refine (HRd.out _).mono ?_
          clear HRd
          rintro e w6 ⟨dv, rfl, hr6, hb6⟩
          unfold dlV at HAp ⊢
          obtain ⟨da, dc, rfl⟩ := row_shape hr6
          have hBa : Below w6.heap.size w6 (w6.alloc (.cells #[.string (ba bl), .string (ba sl), .int .i64 (T.length : Int), .slice da l.length dc] 33)) := (Below.refl _ w6).alloc (Nat.le_refl _) _
          have hb7 := hb6.trans (hBa.mono hb6.size)
          have HB7 := Lib.hid (HB5.out.trans (hb7.mono (Nat.le_of_lt HQ5.out.lt)))
          have HR7 := Lib.hid (ownsRow_below hr6 hBa)
          have HK7 := Lib.hid (HK5.out.below hb7)
          have HQ7 := Lib.hid (HQ5.out.below hb7)
          have HDl := Lib.hid (Blk.new w6 [.string (ba bl), .string (ba sl), .int .i64 (T.length : Int), .slice da l.length dc] 33)
          have e3 := (World.cell?_of_block (a := ⟨g, j * 2 + 1, none⟩) (hb7.block g hg3')).trans e2
          clear hr6 hb6 hBa hb7 e1 e2
          go_upto_region 19 with fail
          generalize w6.alloc (.cells #[.string (ba bl), .string (ba sl), .int .i64 (T.length : Int), .slice da l.length dc] 33) = w7 at HB7 HR7 HK7 HQ7 HDl e3 ⊢
          generalize w6.heap.size = qx at HDl ⊢
          have c0 : w7.cell? ⟨qx, 0, none⟩ = some (.string (ba bl)) := HDl.out.cell 0
          have c1 : w7.cell? ⟨qx, 1, none⟩ = some (.string (ba sl)) := HDl.out.cell 1
          have c2 : w7.cell? ⟨qx, 2, none⟩ = some (.int .i64 (T.length : Int)) := HDl.out.cell 2
          have c3 : w7.cell? ⟨qx, 3, none⟩ = some (.slice da l.length dc) := HDl.out.cell 3
          have HAr := Lib.hid (HAp.out w7.drew _ _ (ownsRow_below HR7.out (Below.refl _ w7).drew) (HK7.out.below (Below.refl _ w7).drew))
          have hq7 := HQ7.out.lt
          have hgm : g ≠ mb := fun e => Hvm.out (by rw [e]; rfl)
          have hqm : qx ≠ mb := (HK7.out.ne_blk HDl.out (by decide)).2.symm
          have hCs : w7.cell? ⟨g, j * 2 + 1, none⟩ = some (.string (ba O)) ∧ w7.cell? ⟨qx, 0, none⟩ = some (.string (ba bl)) ∧ w7.cell? ⟨qx, 1, none⟩ = some (.string (ba sl)) ∧ w7.cell? ⟨qx, 2, none⟩ = some (.int .i64 (T.length : Int)) ∧ w7.cell? ⟨qx, 3, none⟩ = some (.slice da l.length dc) := ⟨e3, c0, c1, c2, c3⟩
          have hCd : w7.drew.cell? ⟨g, j * 2 + 1, none⟩ = some (.string (ba O)) ∧ w7.drew.cell? ⟨qx, 0, none⟩ = some (.string (ba bl)) ∧ w7.drew.cell? ⟨qx, 1, none⟩ = some (.string (ba sl)) ∧ w7.drew.cell? ⟨qx, 2, none⟩ = some (.int .i64 (T.length : Int)) ∧ w7.drew.cell? ⟨qx, 3, none⟩ = some (.slice da l.length dc) := hCs
          have hgl7 := World.block_lt_of_cell? _ _ e3
          have hql7 := HDl.out.lt
          clear HAp e3 c0 c1 c2 c3
          go_region_held3 (fun w' => w'.cell? ⟨g, j * 2 + 1, none⟩ = some (.string (ba O)) ∧ w'.cell? ⟨qx, 0, none⟩ = some (.string (ba bl)) ∧ w'.cell? ⟨qx, 1, none⟩ = some (.string (ba sl)) ∧ w'.cell? ⟨qx, 2, none⟩ = some (.int .i64 (T.length : Int)) ∧ w'.cell? ⟨qx, 3, none⟩ = some (.slice da l.length dc))
            (first | with_reducible exact hC8 | with_reducible exact hCd | with_reducible exact hCs | go_keep)
            (first
              | (go_at_call 12; refine HAr.out.mono ?_; rintro e w8 ⟨rfl, hK8, hT8⟩; have HT8 := Lib.hid (((Touch.refl (fun j => j = mb) w7).drew).trans hT8); have hC8 : w8.cell? ⟨g, j * 2 + 1, none⟩ = some (.string (ba O)) ∧ w8.cell? ⟨qx, 0, none⟩ = some (.string (ba bl)) ∧ w8.cell? ⟨qx, 1, none⟩ = some (.string (ba sl)) ∧ w8.cell? ⟨qx, 2, none⟩ = some (.int .i64 (T.length : Int)) ∧ w8.cell? ⟨qx, 3, none⟩ = some (.slice da l.length dc) := ⟨(HT8.out.cell (p := ⟨g, j * 2 + 1, none⟩) hgl7 hgm).trans hCs.1, (HT8.out.cell (p := ⟨qx, 0, none⟩) hql7 hqm).trans hCs.2.1, (HT8.out.cell (p := ⟨qx, 1, none⟩) hql7 hqm).trans hCs.2.2.1, (HT8.out.cell (p := ⟨qx, 2, none⟩) hql7 hqm).trans hCs.2.2.2.1, (HT8.out.cell (p := ⟨qx, 3, none⟩) hql7 hqm).trans hCs.2.2.2.2⟩))
          all_goals
            have HQ8 := Lib.hid (HQ7.out.touch HT8.out (by omega))
            have HB8 := Lib.hid (HB7.out.trans (HT8.out.below (B := gx) (Nat.le_of_lt hq7) (fun k hk e => by omega)))
            have z0 : w8.cell? ⟨gx, 0, none⟩ = some (.int .i64 kg) := HQ8.out.cell 0
            have z1 : w8.cell? ⟨gx, 1, none⟩ = some (.string (ba T)) := HQ8.out.cell 1
            clear hK8 hT8 hC8 hCs hCd
            go_wp2_with fail
            refine (hawk.out _).mono ?_
            rintro e w9 ⟨rfl, hb9⟩
            have HB9 := Lib.hid (HB8.out.trans (hb9.mono (Nat.le_of_lt HQ8.out.lt)))
            clear hb9
            go_wp2_with fail
            go_ret
            exact ⟨by first | rfl | exact ret_bool (by simp), by rw [← Hgx.out]; exact HB9.out⟩
end Go.Proofs.YtogobhpnlndcaaaGreat
