/- plan.Send: what is sent of a generation, and the basis of that. Condition: the sizes. -/
import Derived.Test.YtaemlplcjjbamaaGreatDoorBBasis
import Derived.Test.YtaemlplcjjbamaaGreatDoorBPack
import Derived.Test.YtaemlplcjjbamaaGreatDoorBKn
namespace Go.Proofs.YtaemlplcjjbamaaGreatDoor
open Go Go.RowKit
set_option linter.unusedVariables false
def gensV (l : List Int) : List Value := l.map (Value.int .i64)
theorem ints_of_row {w : World} {base : Nat} {v : Value} {l : List Int} (h : w.ownsRow base 3 1 v l.length (gensV l)) : ∃ ad cap, v = .slice ad l.length cap ∧ IntsAt .i64 w ad l := by
  rcases h.2 with ⟨rfl, h0⟩ | ⟨g, cap, cur, rfl, hb, hg, h3, h4, h5, h6⟩
  · exact ⟨none, 0, by rw [h0], Or.inl (List.eq_nil_of_length_eq_zero h0)⟩
  · refine ⟨_, cap, rfl, Or.inr ⟨g, 0, rfl, (h.lt g rfl).2, fun i hi => ?_⟩⟩
    have := h.cells (g := g) rfl i (.int .i64 l[i]) (by unfold gensV; rw [List.getElem?_map, List.getElem?_eq_getElem hi]; rfl)
    rw [addr_add] at this
    rw [Nat.zero_add]
    exact this
def SendOk (Bk : List ByteArray) (l : List (Int × List UInt8)) (floor top kg : Int) (T : List UInt8) (bs : Int) (s : List UInt8) : Prop :=
  (bs = kg ∧ s = wrapL T) ∨ (bs ≠ kg ∧ floor ≤ bs ∧ bs < top ∧ bs < kg ∧ ∃ (i : Nat) (O : List UInt8), l[i]? = some (bs, O) ∧ (∀ j, j < i → ∀ y, l[j]? = some y → y.1 ≠ bs) ∧ Packed Bk O T s)
def SendSays (kb mb : Nat) (B : List ByteArray) (l : List (Int × List UInt8)) (floor top kg : Int) (T : List UInt8) (w : World) (e : Ending) (w' : World) : Prop :=
  ∃ (bs : Int) (s : List UInt8) (Bk : List ByteArray), e = .returned (.tuple #[.int .i64 bs, .string (ba s)]) ∧ BookIs w' kb mb Bk ∧ Bk.length ≤ B.length + 60010 ∧ Touch (fun j => j = mb) w w' ∧ SendOk Bk l floor top kg T bs s
set_option maxRecDepth 100000 in
set_option maxHeartbeats 4000000 in
theorem send_any (kb mb base : Nat) (B : List ByteArray) (v : Value) (l : List (Int × List UInt8)) (floor top kg : Int) (T : List UInt8) (w : World) (hK : BookIs w kb mb B) (hr : w.ownsRow base 151 2 v l.length (knV l)) (hl : l.length ≤ 8) (hO : ∀ x ∈ l, x.2.length ≤ 30000) (hT : T.length ≤ 30000) (hB : B.length ≤ 700000000) :
    Calls Tryz.prog 91 #[.pointer (some ⟨kb, 0, none⟩), v, .int .i64 floor, .int .i64 top, .agg #[.int .i64 kg, .string (ba T)]] w (SendSays kb mb B l floor top kg T w) := by
  have hne := hK.self_ne
  obtain ⟨va, vc, rfl⟩ := row_shape hr
  have hrm := (hK.ne_row hr (by decide)).2
  have Hrm := Lib.hid hrm
  have hml := hK.map_lt
  have hkl := hK.at_.lt
  have HB0 := Lib.hid ((Below.refl w.heap.size w).alloc (Nat.le_refl _) (.cells #[.int .i64 kg, .string (ba T)] 151))
  have HQ0 := Lib.hid (Blk.new w [.int .i64 kg, .string (ba T)] 151)
  have HK0 := Lib.hid (hK.below HB0.out)
  have HR0 := Lib.hid (ownsRow_below hr HB0.out)
  have HO := Lib.hid hO
  have Hne := Lib.hid hne
  clear hK hr hO hne hrm
  obtain ⟨m, hm⟩ : ∃ m, m = l.length := ⟨_, rfl⟩
  rw [← hm] at hl ⊢
  have Hm := Lib.hid hm
  clear hm
  obtain ⟨G, hG⟩ : ∃ G, G = l.map Prod.fst := ⟨_, rfl⟩
  have HG := Lib.hid hG
  have HGl := Lib.hid (show G.length = m by rw [hG, List.length_map]; exact Hm.out.symm)
  clear hG
  go_enter Tryz.func91, Tryz.ntmps91
  go_upto_region 1 with fail
  generalize w.alloc (.cells #[.int .i64 kg, .string (ba T)] 151) = w0 at HB0 HQ0 HK0 HR0 ⊢
  obtain ⟨gx, hgx⟩ : ∃ gx, gx = w.heap.size := ⟨_, rfl⟩
  rw [← hgx] at HQ0 HB0 hml hkl ⊢
  have Hgx := Lib.hid hgx
  have hgl := HQ0.out.lt
  clear hgx
  go_wp2_with fail
  go_loopw [12, 24] (fun hv kv wr => ∃ (k : Nat) (hx : Value), hv = hx ∧ kv = .int .i64 (k : Int) ∧ k ≤ m ∧ Hid (wr.ownsRow w0.heap.size 3 1 hv k (gensV (G.take k))) ∧ Hid (Below w0.heap.size w0 wr)) (fun _ kv _ => m - (intOf kv).toNat)
  case atStart => exact ⟨0, _, rfl, rfl, Nat.zero_le _, Lib.hid (World.ownsRow_nil _ _ _ _), Lib.hid (Below.refl _ _)⟩
  case round =>
    obtain ⟨k, hv, rfl, rfl, hk, HV, HB⟩ := hrel
    have hszr := HB.out.size
    by_cases hlt : k < m
    · have HRr := Lib.hid (ownsRow_below HR0.out HB.out)
      obtain ⟨g, cap, hv0, hg2, hg3, hg4, hg6, hg5⟩ := row_some HRr.out (by have := Hm.out; omega)
      simp only [Value.slice.injEq] at hv0
      obtain ⟨rfl, _, rfl⟩ := hv0
      obtain ⟨x, hx⟩ : ∃ x, l[k]? = some x := ⟨_, List.getElem?_eq_getElem (by have := Hm.out; omega)⟩
      obtain ⟨v1, v2⟩ := knV_at hx
      have hml := Hm.out
      have e1 := (hg5 (k * 2) (by omega)).trans v1
      have e2 := (hg5 (k * 2 + 1) (by omega)).trans v2
      have Htk := Lib.hid (show G.take (k + 1) = G.take k ++ [x.1] by
        rw [HG.out, List.take_add_one, List.getElem?_map, hx]; rfl)
      obtain ⟨xg, xt⟩ := x
      simp only at e1 e2
      obtain ⟨ha, hc, rfl⟩ := row_shape HV.out
      have HVa := Lib.hid (HV.out.alloc (.cells #[.int .i64 xg, .string (ba xt)] 151))
      clear hg5 v1 v2 hx hml
      go_wp2_with (at_builtin; refine append_own1 rfl _ _ 130 rfl w0.heap.size 3 1 8 Tryz.underlying130 _ info_int rfl (by decide) _ _ _ rfl HVa.out (wr.heap.size + 1) (by simp) [.int .i64 xg] rfl rfl (by simp [Value.oneCell']) ?c1 ?c2 ?c3 ?_)
      case c1 => unfold maxLen; omega
      case c2 => omega
      case c3 => first | omega | (simp; omega)
      intro v' w2 hown hg
      have hown2 : w2.ownsRow w0.heap.size 3 1 v' (k + 1) (gensV (G.take (k + 1))) := by
        rw [Htk.out]
        unfold gensV at hown ⊢
        rw [List.map_append]
        exact hown
      have hb2 : Below w0.heap.size wr w2 := (touch_grown (((Touch.refl (fun j => w0.heap.size ≤ j) wr).alloc _).alloc _) hg (fun g hg => Or.inl (HV.out.lt g hg).1)).below (by omega) (fun k hk e => by omega)
      have HV2 := Lib.hid hown2
      have HB2 := Lib.hid (HB.out.trans hb2)
      clear hown hown2 hg hb2
      go_wp2_with fail
      go_roundw
      case rel => exact ⟨k + 1, _, rfl, by go_num, by omega, HV2, HB2⟩
      case measure => simp [intOf]; omega
    · have hkm : k = m := by omega
      subst hkm
      have HV3 := HV.out
      have hgl2 := HGl.out
      rw [← hgl2, List.take_length] at HV3
      obtain ⟨ad, cap, rfl, hat⟩ := ints_of_row HV3
      have HBs := Lib.hid (basis_any wr ad cap G floor top kg hat (by omega))
      have hbin := basis_in floor top kg G
      obtain ⟨bs, hbs⟩ : ∃ bs, bs = basis floor top kg G := ⟨_, rfl⟩
      rw [← hbs] at HBs hbin
      have Hbin := Lib.hid hbin
      rw [hgl2] at HBs ⊢
      have HQr := Lib.hid (HQ0.out.below HB.out)
      have HRr := Lib.hid (ownsRow_below HR0.out HB.out)
      have HKr := Lib.hid (HK0.out.below HB.out)
      have HTr := Lib.hid (Touch.of_below (S := fun j => j = mb) (show Below w.heap.size w wr by rw [← Hgx.out]; exact HB0.out.trans (HB.out.mono (Nat.le_of_lt hgl))))
      have c0 : wr.cell? ⟨gx, 0, none⟩ = some (.int .i64 kg) := HQr.out.cell 0
      clear HV3 hgl2 hat hbs hbin HV HB
      go_wp2_with fail
      refine HBs.out.mono ?_
      clear HBs
      rintro e w2 ⟨rfl, rfl⟩
      go_upto_region 9 with fail
      clear c0
      obtain ⟨wz0, hwz0⟩ : ∃ wz0, wz0 = wr := ⟨_, rfl⟩
      rw [← hwz0] at HQr HRr HKr HTr ⊢
      clear hwz0
      go_loopw [42] (fun jv wr => ∃ j : Nat, jv = .int .i64 (j : Int) ∧ j ≤ k ∧ Hid (bs = kg ∨ ∀ i, i < j → ∀ y, l[i]? = some y → y.1 ≠ bs) ∧ Hid (Below wz0.heap.size wz0 wr)) (fun jv _ => k - (intOf jv).toNat)
      case atStart => exact ⟨0, rfl, Nat.zero_le _, Lib.hid (Or.inr (fun i hi => absurd hi (Nat.not_lt_zero _))), Lib.hid (Below.refl _ _)⟩
      case round =>
        obtain ⟨j, rfl, hj, HF, HB⟩ := hrel
        have HQz := Lib.hid (HQr.out.below HB.out)
        have HRz := Lib.hid (ownsRow_below HRr.out HB.out)
        have HKz := Lib.hid (HKr.out.below HB.out)
        have HTz := Lib.hid (HTr.out.trans (Touch.of_below HB.out))
        by_cases hlt : j < k
        · obtain ⟨g, cap, hv0, hg2, hg3, hg4, hg6, hg5⟩ := row_some HRz.out (by have := Hm.out; omega)
          simp only [Value.slice.injEq] at hv0
          obtain ⟨rfl, _, rfl⟩ := hv0
          obtain ⟨x, hx⟩ : ∃ x, l[j]? = some x := ⟨_, List.getElem?_eq_getElem (by have := Hm.out; omega)⟩
          obtain ⟨v1, v2⟩ := knV_at hx
          have hml := Hm.out
          have e1 := (hg5 (j * 2) (by omega)).trans v1
          have e2 := (hg5 (j * 2 + 1) (by omega)).trans v2
          have hxl := HO.out x (List.mem_of_getElem? hx)
          have Hx := Lib.hid hx
          obtain ⟨xg, xt⟩ := x
          simp only at e1 e2 hxl
          have z0 : wr.cell? ⟨gx, 0, none⟩ = some (.int .i64 kg) := HQz.out.cell 0
          have z1 : wr.cell? ⟨gx, 1, none⟩ = some (.string (ba T)) := HQz.out.cell 1
          have hgw := HQz.out.lt
          have hBa : Below wr.heap.size wr (wr.alloc (.cells #[.int .i64 xg, .string (ba xt)] 151)) := (Below.refl _ wr).alloc (Nat.le_refl _) _
          have HBa := Lib.hid (HB.out.trans (hBa.mono HB.out.size))
          clear hg5 v1 v2 hx
          by_cases h1 : xg = bs
          · have hb1 : (xg != bs) = false := by rw [h1]; simp
            have Hxb := Lib.hid h1
            clear h1
            by_cases h2 : bs = kg
            · have hb2 : (bs == kg) = true := by rw [h2]; simp
              have H2 := Lib.hid h2
              clear h2 hBa
              go_wp2_with fail
              go_roundw
              case rel => exact ⟨j + 1, by go_num, by omega, Lib.hid (Or.inl H2.out), HBa⟩
              case measure => simp [intOf]; omega
            · have hb2 : (bs == kg) = false := by rw [beq_eq_false_iff_ne]; exact h2
              have H2 := Lib.hid h2
              have HPk := Lib.hid (pack_any kb mb B xt T (wr.alloc (.cells #[.int .i64 xg, .string (ba xt)] 151)) (HKz.out.below hBa) Hne.out (by omega) (by omega) hB)
              have HQa := Lib.hid (HQz.out.below hBa)
              have HTa := Lib.hid (HTz.out.trans (Touch.of_below hBa))
              have hml2 : mb < gx := by omega
              clear h2 hBa HQz
              go_wp2_with fail
              refine HPk.out.mono ?_
              clear HPk z0 z1 e1 e2
              rintro e w3 ⟨s, is_, Bk, rfl, hK3, hX3, hL3, hT3, hp3⟩
              have HK3 := Lib.hid hK3
              have HT3 := Lib.hid (HTa.out.trans hT3)
              have HQz := Lib.hid (HQa.out.touch hT3 (by omega))
              have hL4 : Bk.length ≤ B.length + 60010 := by omega
              have HP3 := Lib.hid hp3
              clear hK3 hX3 hL3 hT3 hp3 HQa HTa
              cases is_ with
              | true =>
                go_wp2_with fail
                go_ret2
                refine ⟨bs, s, Bk, rfl, HK3.out, hL4, HT3.out, Or.inr ⟨H2.out, ?_⟩⟩
                have hin := Hbin.out.resolve_left H2.out
                refine ⟨hin.1, hin.2.1, hin.2.2, j, xt, ?_, HF.out.resolve_left H2.out, ?_⟩
                · rw [← Hxb.out]; exact Hx.out
                · rcases HP3.out with ⟨h, _⟩ | ⟨_, h⟩
                  · cases h
                  · exact h
              | false =>
                have z0 : w3.cell? ⟨gx, 0, none⟩ = some (.int .i64 kg) := HQz.out.cell 0
                have z1 : w3.cell? ⟨gx, 1, none⟩ = some (.string (ba T)) := HQz.out.cell 1
                have HWr := Lib.hid (wrap_any T w3 (by omega))
                go_wp2_with fail
                refine HWr.out.mono ?_
                clear HWr z0 z1
                rintro e wy ⟨rfl, hby⟩
                have z2 : wy.cell? ⟨gx, 0, none⟩ = some (.int .i64 kg) := (HQz.out.below hby).cell 0
                have HKy := Lib.hid (HK3.out.below hby)
                have HTy := Lib.hid (HT3.out.trans (Touch.of_below hby))
                clear hby
                go_wp2_with fail
                go_ret2
                exact ⟨kg, wrapL T, Bk, rfl, HKy.out, hL4, HTy.out, Or.inl ⟨rfl, rfl⟩⟩
          · have hb1 : (xg != bs) = true := by rw [bne_iff_ne]; exact h1
            have H1 := Lib.hid h1
            have HFn := Lib.hid (show bs = kg ∨ ∀ i, i < j + 1 → ∀ y, l[i]? = some y → y.1 ≠ bs from HF.out.imp id (fun h i hi y hy => by
              by_cases hij : i < j
              · exact h i hij y hy
              · have : i = j := by omega
                subst this
                have h9 := hy.symm.trans Hx.out
                injection h9 with h9
                rw [h9]
                exact H1.out))
            clear h1 hBa
            go_wp2_with fail
            go_roundw
            case rel => exact ⟨j + 1, by go_num, by omega, HFn, HBa⟩
            case measure => simp [intOf]; omega
        · have hB4 : B.length ≤ B.length + 60010 := by omega
          have z0 : wr.cell? ⟨gx, 0, none⟩ = some (.int .i64 kg) := HQz.out.cell 0
          have z1 : wr.cell? ⟨gx, 1, none⟩ = some (.string (ba T)) := HQz.out.cell 1
          have HWr := Lib.hid (wrap_any T wr (by omega))
          go_wp2_with fail
          refine HWr.out.mono ?_
          clear HWr z0 z1
          rintro e wy ⟨rfl, hby⟩
          have z2 : wy.cell? ⟨gx, 0, none⟩ = some (.int .i64 kg) := (HQz.out.below hby).cell 0
          have HKy := Lib.hid (HKz.out.below hby)
          have HTy := Lib.hid (HTz.out.trans (Touch.of_below hby))
          clear hby
          go_wp2_with fail
          go_ret2
          exact ⟨kg, wrapL T, B, rfl, HKy.out, hB4, HTy.out, Or.inl ⟨rfl, rfl⟩⟩
end Go.Proofs.YtaemlplcjjbamaaGreatDoor
