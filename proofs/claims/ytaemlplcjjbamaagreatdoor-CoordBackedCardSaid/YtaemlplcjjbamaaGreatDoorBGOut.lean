/- The walk of plan.Reached. Condition: fewer than 10^6 numbers -/
import Derived.Lib.OwnBridge
import Derived.Test.YtaemlplcjjbamaaGreatDoorBGProp
import Derived.Test.YtaemlplcjjbamaaGreatDoorBGParts
namespace Go.Proofs.YtaemlplcjjbamaaGreatDoor
open Go.Lib (hid)
set_option maxRecDepth 100000
set_option maxHeartbeats 8000000
open Go.RowKit
variable {I : List (Int × List UInt8)} {K Z b base c k kb mb n : Nat} {bal id : Int} {l : List Int} {ov v : Value} {w w' w0 w1 w1' w2 : World} {xs : List Value}
def sorted (l : List Int) : List Int := l.mergeSort fun x y => decide (x ≤ y)
theorem zDr (l : List Int) : (sorted l).length = l.length := List.length_mergeSort l
def reach (l : List Int) : Int := if l.length = 0 then 0 else (sorted l).getD (l.length - major l.length) 0
theorem zIG (w : World) (ad : Option Addr) (cap : Nat) (l : List Int) (hl : l.length ≤ 1000000) (h : zEK .i64 w ad l) :
  Calls Tryz.prog 89 #[.slice ad l.length cap] w fun e w' => e = .returned (.int .i64 (reach l)) ∧ Below w.heap.size w w' := by
 obtain ⟨n, hn⟩ : ∃ n, n = l.length := ⟨_, rfl⟩
 rw [← hn]
 by_cases h0 : n = 0
 ·have hd : ((n : Int) == 0) = true := by rw [h0]; rfl
  have hr : reach l = 0 := by unfold reach; rw [if_pos (by omega)]
  rw [hr]
  clear hr h0 hn hl h
  go_enter Tryz.func89, Tryz.ntmps89
  go_wp2_with fail
  go_ret
  exact ⟨rfl, Below.refl _ _⟩
 ·have hd : ((n : Int) == 0) = false := by simp; omega
  obtain ⟨b, off, rfl, hb, hc⟩ : ∃ b off, ad = some ⟨b, off, none⟩ ∧ b < w.heap.size ∧ ∀ i (hi : i < l.length), w.cell? ⟨b, off + i, none⟩ = some (.int .i64 l[i]) := by
   rcases h with h | h
   ·subst h; exact absurd hn h0
   ·exact h
  clear h
  have hcell : ∀ j, j < l.length → w.cell? ⟨b, off + j, none⟩ = some (.int .i64 (l.getD j 0)) := fun j hj => by
   rw [hc j hj, List.getD, List.getElem?_eq_getElem hj]; rfl
  have Hcell := hid hcell
  have Hn := hid hn
  have hn1 : n ≤ 1000000 := by omega
  have hn2 : 1 ≤ n := by omega
  clear hc hcell hn
  go_enter Tryz.func89, Tryz.ntmps89
  go_wp2_with fail
  refine (Tryz.slices_Clone_int b off n cap l w (Nat.le_of_eq Hn.out) (by omega) Hcell.out).mono ?_
  rintro e w1 ⟨v, rfl, hown, hv, hb1⟩
  obtain ⟨g, cap2, rfl, hg1, hg2, hnc, hcm, hlen, hH⟩ := Lib.holds_of_ownsRow hown hv
  rw [List.take_of_length_le (Nat.le_of_eq Hn.out.symm)] at hH hown
  have hsz : g < w1.heap.size := hg2
  clear hv
  have Hown := hid hown
  have HH := hid hH
  clear hown hH
  go_wp2_with fail
  have hsort := Tryz.slices_Sort_int g 0 cap2 l w1 HH.out hsz (by have := Hn.out; omega)
  rw [← Hn.out] at hsort
  refine hsort.mono ?_
  rintro e w2 ⟨rfl, q, os, hw2⟩
  have hown2 := Lib.ownsRow_putRow (q := q) (k := n) (ys := sorted l) Hown.out ((zDr l).trans Hn.out.symm) (Nat.le_refl _)
  have hb2 : Below w.heap.size w (Go.Sort.putRow (Value.int .i64) (Go.Sort.ahead w1 q) g 0 (sorted l).toArray) := Lib.below_putRow hb1 hg1
  have hcell2 : ∀ k, k < n → w2.cell? ⟨g, k, none⟩ = some (.int .i64 ((sorted l).getD k 0)) := by
   intro k hk
   have hlt : g < (Go.Sort.putRow (Value.int .i64) (Go.Sort.ahead w1 q) g 0 (sorted l).toArray).heap.size := by
    simpa [Go.Sort.putRow, Go.Sort.mapBlock, Go.Sort.ahead] using hsz
   rw [hw2]
   show (Go.Sort.grow (Go.Sort.putRow (Value.int .i64) (Go.Sort.ahead w1 q) g 0 (sorted l).toArray) os).cell? _ = _
   rw [Go.Sort.cell?_grow _ _ _ hlt]
   have hsl : (sorted l).length = n := (zDr l).trans Hn.out.symm
   rw [hown2.cellAt (j := k) (by simp; omega), List.take_of_length_le (by omega), List.getElem?_map, List.getD, List.getElem?_eq_getElem (by omega)]
   rfl
  have hb3 : Below w.heap.size w w2 := by
   rw [hw2]
   exact ⟨hb2.os, hb2.tape, hb2.output, Nat.le_trans hb2.size (by rw [Go.Sort.size_grow]; exact Nat.le_add_right _ _), fun k hk => by
    rw [← hb2.block k hk]
    exact Go.Sort.heap_grow_old _ _ (Nat.lt_of_lt_of_le hk hb2.size)⟩
  clear hown2 hb2 hw2 hsort Hown HH hb1
  have hm : major n ≤ n := by unfold major; omega
  obtain ⟨p, hp⟩ : ∃ p, p = n - major n := ⟨_, rfl⟩
  have hm1 : 1 ≤ major n := by unfold major; omega
  have hpi : (n : Int) - (major n : Int) = (p : Int) := by omega
  have hpn : p < n := by omega
  have hc2 := hcell2 p hpn
  have hr : reach l = (sorted l).getD p 0 := by unfold reach; rw [if_neg (by have := Hn.out; omega), hp, Hn.out]
  rw [← hr] at hc2
  clear hr hcell2 hp
  go_wp2_with fail
  refine (zBS n _ (by omega)).mono ?_
  rintro e wx ⟨rfl, rfl⟩
  go_wp2_with fail
  go_ret
  exact ⟨rfl, hb3⟩
open Go Go.RowKit
set_option linter.unusedVariables false
theorem zIm : (Tryz.prog.info? 3).map (fun i => (i.zero, i.size, i.bytes)) = some (some (.int .i64 0), 1, 8) := by kernel_rfl
theorem ints_rowR (h : w.ownsRow base 3 1 v l.length (l.map (Value.int .i64))) : ∃ ad cap, v = .slice ad l.length cap ∧ zEK .i64 w ad l := by
 rcases h.2 with ⟨rfl, h0⟩ | ⟨g, cap, cur, rfl, hb, hg, h3, h4, h5, h6⟩
 ·exact ⟨none, 0, by rw [h0], Or.inl (List.eq_nil_of_length_eq_zero h0)⟩
 ·refine ⟨_, cap, rfl, Or.inr ⟨g, 0, rfl, (h.lt g rfl).2, fun i hi => ?_⟩⟩
  have := h.cells (g := g) rfl i (.int .i64 l[i]) (by rw [List.getElem?_map, List.getElem?_eq_getElem hi]; rfl)
  rw [addr_add] at this
  rw [Nat.zero_add]
  exact this
def topsT (ps : List Peer) (k : Nat) : List Int := (ps.take k).map (·.top)
theorem topsT_succ {ps : List Peer} (h : k < ps.length) : topsT ps (k + 1) = topsT ps k ++ [ps[k].top] := by
 unfold topsT
 rw [List.take_succ_eq_append_getElem h, List.map_append]
 rfl
theorem zHC {ps : List Peer} (h : k ≤ ps.length) : (topsT ps k).length = k := by
 unfold topsT
 rw [List.length_map, List.length_take, Nat.min_eq_left h]
theorem gc_room {G : Gh} {D : Dt} {S : CSt} (h : Gc w0 c kb mb n id bal G Z D S w) :
  Calls Tryz.prog 57 #[.pointer (some ⟨c, 0, none⟩)] w fun e w' => ∃ r, e = .returned (.bool r) ∧ (r = true → Below w.heap.size w w') ∧ Gs w0 c kb mb n id bal G Z w' ∧ Fr w0 w w' := by
 have H0 := hid h
 have HC := hid h.at_
 have hp := h.gf.prs
 have hps := h.gf.prsL
 have hcn := h.gf.n_
 have hn1 := h.gf.n1
 have hn9 := h.gf.n9
 have Hp := hid hp
 have c1 : w.cell? ⟨c, 1, none⟩ = some (.int .i64 (n : Int)) := by rw [← hcn]; exact h.at_.hd 1 (by omega)
 have c5 : w.cell? ⟨c, 5, none⟩ = some (.int .i64 S.floor) := h.at_.hd 5 (by omega)
 have c6 : w.cell? ⟨c, 6, none⟩ = some (.int .i64 S.top) := h.at_.hd 6 (by omega)
 have H6 := hid (fun w' (hb : Below w.heap.size w w') => (show w'.cell? ⟨c, 6, none⟩ = some (.int .i64 S.top) from (h.at_.below hb).hd 6 (by omega)))
 have hbl := h.at_.1.lt
 have HEnd := hid (fun w' (hb : Below w.heap.size w w') => zEm (h.quiet hb) 7 0 0 none none 0 0 0 0 (fun e => absurd e (by decide)))
 generalize S.floor = cf at c5
 generalize S.top = ct at c6 H6
 obtain ⟨z, hw⟩ : ∃ z, IntKind.i64.wrap (ct - cf) = z := ⟨_, rfl⟩
 clear h hp hcn
 by_cases hz : (32 : Int) ≤ z
 ·go_enter Tryz.func57, Tryz.ntmps57
  go_wp2
  go_quiet (fail)
  go_wp2_with fail
  have hq := below_drewN (Below.refl w.heap.size w) nq
  have HE := hid (HEnd.out _ hq)
  have HF := hid (Fr.of_below (w0 := w0) hq)
  go_wp2_with fail
  refine HE.out.mono ?_
  rintro e w1 ⟨rfl, hG, hF⟩
  have HG := hid hG
  have HF1 := hid (HF.out.trans hF)
  clear hG hF HE HEnd hq
  go_wp2_with fail
  go_ret
  exact ⟨false, rfl, fun e => absurd e (by decide), HG.out, HF1.out⟩
 ·go_enter Tryz.func57, Tryz.ntmps57
  go_wp2
  go_quiet (fail)
  go_wp2
  rename_i nq
  clear hw hz HEnd
  go_loopw [3, 22] (fun lv iv wr => ∃ k : Nat, iv = .int .i64 (k : Int) ∧ k ≤ n ∧ Hid (wr.ownsRow w.heap.size 3 1 lv k ((topsT D.ps k).map (Value.int .i64))) ∧ Hid (Below w.heap.size w wr)) (fun _ iv _ => n - (intOf iv).toNat)
  case atStart => exact ⟨0, rfl, Nat.zero_le _, hid (World.ownsRow_nil _ _ _ _), hid (below_drewN (Below.refl _ _) _)⟩
  case round =>
   obtain ⟨k, rfl, hk, HV, HB⟩ := hrel
   clear c1 c5 c6
   by_cases hlt : k < n
   ·have hCr := HC.out.below HB.out
    obtain ⟨t, ht⟩ : ∃ t, t = (D.ps[k]'(by omega)).top := ⟨_, rfl⟩
    have d2 : wr.cell? ⟨c, 12 + k * 8 + 2, none⟩ = some (.int .i64 t) := by rw [ht]; exact hCr.peer Hp.out k (by omega) 2 (by omega)
    have hk1 : (0 : Int) ≤ (k : Int) := by omega
    have hk2 : (k : Int) < 9 := by omega
    have hszr := HB.out.size
    obtain ⟨ha, hc, rfl⟩ := zAe HV.out
    have HVa := hid (HV.out)
    have Hsu := hid (show topsT D.ps (k + 1) = topsT D.ps k ++ [t] by rw [topsT_succ (by omega), ht])
    clear hCr ht
    go_wp2_with (at_builtin; refine zAx rfl _ _ 130 rfl w.heap.size 3 1 8 Tryz.underlying130 _ zIm rfl (by decide) _ _ _ rfl HVa.out (wr.heap.size) rfl [.int .i64 t] rfl rfl (by simp [Value.oneCell']) ?c1 ?c2 ?c3 ?_)
    case c1 => unfold maxLen; omega
    case c2 => omega
    case c3 => first | omega | (simp; omega)
    intro v' w2 hown hg
    have hb2 : Below w.heap.size wr w2 := (zAm ((Touch.refl (fun j => w.heap.size ≤ j) wr).alloc _) hg (fun g hg => Or.inl (HV.out.lt g hg).1)).below (by omega) (fun k hk e => by omega)
    have HV2 := hid (show w2.ownsRow w.heap.size 3 1 v' (k + 1) ((topsT D.ps (k + 1)).map (Value.int .i64)) by rw [Hsu.out, List.map_append]; exact hown)
    have HB2 := hid (HB.out.trans hb2)
    clear hown hg hb2 d2
    go_wp2_with fail
    go_roundw
    case rel => exact ⟨k + 1, by go_num, by omega, HV2, HB2⟩
    case measure => simp [intOf]; omega
   ·obtain rfl : k = n := by omega
    have hlen : (topsT D.ps k).length = k := zHC (by omega)
    obtain ⟨ad, cap, hv, hat⟩ := ints_rowR (l := topsT D.ps k) (by rw [hlen]; exact HV.out)
    rw [hlen] at hv
    subst hv
    obtain ⟨rt, hrt⟩ : ∃ rt, rt = reach (topsT D.ps k) := ⟨_, rfl⟩
    have HRe := hid (fun w' (hb : Below wr.heap.size wr w') => (show Calls Tryz.prog 89 #[.slice ad k cap] w' fun e w2 => e = .returned (.int .i64 rt) ∧ Below w'.heap.size w' w2 from by
     have := zIG w' ad cap (topsT D.ps k) (by rw [hlen]; omega) (zIq hat hb)
     rw [hlen, ← hrt] at this
     exact this))
    have e6 := H6.out wr HB.out
    have hk6 : wr.drew.cell? ⟨c, 6, none⟩ = some (.int .i64 ct) := e6
    have H6r := hid (fun w' (hb : Below wr.heap.size wr w') => H6.out w' (HB.out.trans (hb.mono HB.out.size)))
    clear HV hat hrt hlen
    go_wp2_with fail
    go_region_held3 (fun w' => w'.cell? ⟨c, 6, none⟩ = some (.int .i64 ct))
     (first | with_reducible exact hk6 | with_reducible exact H6r.out _ (by assumption) | go_keep)
     ((go_at_call 89; refine (HRe.out _ (Below.refl _ _).drew).mono ?_; rintro e w1 ⟨rfl, hb1⟩; have hb2 := zAd ((Below.refl _ wr).drew) hb1))
    have HB3 := hid (HB.out.trans (hb2.mono HB.out.size))
    clear hb1 hb2
    go_wp2_with fail
    go_ret
    exact ⟨_, rfl, fun _ => HB3.out, ⟨D, S, H0.out.quiet HB3.out⟩, Fr.of_below HB3.out⟩
attribute [local go_sem ↓] Go.wp_at_zero Go.wp_at_succ
theorem zAb.setAgain2 {c : CSt} (h : zAb w b c) (v : Value) : zAb (w.setCell ⟨b, 11, none⟩ v) b { c with again := v } := ⟨h.1.set 11 v, h.2⟩
theorem Gf.again {G : Gh} {D : Dt} {S : CSt} (h : Gf w0 c kb mb n id bal G Z D S w) (hc : zAb w c S) (hT : Touch (fun k => k = c) w w') (v : Value) (l : List Ent)
  (hr : RAt w' w0.heap.size 102 3 v l.length (zAs l)) (hv : ∀ g, v.ownBlock = some g → S.again.ownBlock = some g) (hl : l.length ≤ 16) :
  Gf w0 c kb mb n id bal G Z { D with ag := l } { S with again := v } w' ∧ Fr w0 w w' := by
 obtain ⟨g1, g2⟩ := h.coord hc hT
 exact ⟨{ g1 with
  agn := hr
  agnL := hl
  dif := fun g hg e => h.dif g hg (hv g e) }, g2⟩
theorem knF_mem {g : Int} {T : List UInt8} (h : knF I g = some T) : ∃ x ∈ I, x.2 = T := by
 unfold knF at h
 cases hf : I.find? (fun x => x.1 == g) with
 | none => rw [hf] at h; cases h
 | some x =>
  rw [hf] at h
  injection h with h
  exact ⟨x, List.mem_of_find?_eq_some hf, h⟩
def KnownSays (w : World) (e : Ending) (w' : World) : Prop := ∃ (T : List UInt8) (ok : Bool), e = .returned (.tuple #[.string (ba T), .bool ok]) ∧ T.length ≤ 524288 ∧ Below w.heap.size w w'
theorem zEp {G : Gh} {D : Dt} {S : CSt} (h : Gc w0 c kb mb n id bal G Z D S w) (g : Int) :
  Calls Tryz.prog 53 #[.pointer (some ⟨c, 0, none⟩), .int .i64 g] w (KnownSays w) := by
 refine (gknown_any c w0.heap.size S D.I g w h.at_ h.gf.img (by have := h.gf.imgL; omega)).mono ?_
 rintro e w' ⟨rfl, hb⟩
 refine ⟨(knF D.I g).getD [], (knF D.I g).isSome, rfl, ?_, hb⟩
 cases hk : knF D.I g with
 | none => exact Nat.zero_le _
 | some T =>
  obtain ⟨x, hx, rfl⟩ := knF_mem hk
  exact h.gf.imgS x hx
theorem zIl {G : Gh} {D : Dt} {S : CSt} (h : Gc w0 c kb mb n id bal G Z D S w) (hbb : G.bb ≤ 900000000) (hj : D.job = none) (hm0 : 0 < D.ag.length) :
  Calls Tryz.prog 37 #[.pointer (some ⟨c, 0, none⟩)] w fun x w' => x = .returned (.tuple #[]) ∧ Gs w0 c kb mb n id bal (G.more 1) Z w' ∧ Fr w0 w w' := by
 have hbl := h.at_.1.lt
 have H0 := hid h
 have Hj := hid hj
 have Hbb := hid hbb
 have hr := h.gf.agn
 obtain ⟨ia, ic, hi⟩ := RAt.shape hr
 have Hi := hid hi
 rw [hi] at hr
 have c84 : w.cell? ⟨c, 84, none⟩ = some (.pointer none) := by have := h.at_.ft 0; rw [show (CSt.foot S)[0]? = some S.job from rfl, h.gf.job, hj] at this; exact this
 have c11 : w.cell? ⟨c, 11, none⟩ = some (.slice ia D.ag.length ic) := by rw [← hi]; exact h.at_.hd 11 (by omega)
 have hL := h.gf.agnL
 obtain ⟨m, hm⟩ : ∃ m, m = D.ag.length := ⟨_, rfl⟩
 rw [← hm] at hr c11 Hi hm0 hL
 have Hm := hid hm
 obtain ⟨g, off, cap, hv0, hg2, hg3, hg4, hg6, hg5⟩ := RAt.some hr hm0
 simp only [Value.slice.injEq] at hv0
 obtain ⟨rfl, _, rfl⟩ := hv0
 obtain ⟨x, hx⟩ : ∃ x, D.ag[0]? = some x := ⟨_, List.getElem?_eq_getElem (by omega)⟩
 obtain ⟨v1, v2, v3⟩ := zBQ hx
 have e1 : w.cell? ⟨g, off, none⟩ = some (.int .i64 x.gen) := (hg5 0 (by omega)).trans v1
 have e2 : w.cell? ⟨g, off + 1, none⟩ = some (.int .i64 x.bal) := (hg5 1 (by omega)).trans v2
 have e3 : w.cell? ⟨g, off + 2, none⟩ = some (.string x.mark) := (hg5 2 (by omega)).trans v3
 have HR := hid hr
 obtain ⟨xg, xb, xm⟩ := x
 simp only at e1 e2 e3
 have HQ0 := hid (Blk.new w [.int .i64 xg, .int .i64 xb, .string xm] 102)
 have HB0 := hid ((Below.refl w.heap.size w).alloc (Nat.le_refl _) (.cells #[.int .i64 xg, .int .i64 xb, .string xm] 102))
 clear hg5 v1 v2 v3 hx hr hm h hj hi hbb
 go_enter Tryz.func37, Tryz.ntmps37
 go_upto_region 3 with fail
 have B0 := HB0.out
 have Q0 := HQ0.out
 clear HB0 HQ0 c84 c11 e1 e2 e3
 generalize w.alloc (.cells #[.int .i64 xg, .int .i64 xb, .string xm] 102) = w1 at B0 Q0 ⊢
 obtain ⟨q, hq⟩ : ∃ q, q = w.heap.size := ⟨_, rfl⟩
 rw [← hq] at Q0 ⊢
 have hqc : q ≠ c := by omega
 have HB1 := hid B0
 have HQ1 := hid Q0
 have G1 := hid (H0.out.quiet B0)
 have hql := Q0.lt
 have q0 : w1.cell? ⟨q, 0, none⟩ = some (.int .i64 xg) := Q0.cell 0
 have HKn := hid (zEp G1.out xg)
 clear B0 Q0 hq
 go_wp2_with fail
 refine HKn.out.mono ?_
 rintro e w2 ⟨T, ok, rfl, hTl, hb2⟩
 have HTl := hid hTl
 have G2 := hid (G1.out.quiet hb2)
 have HB2 := hid (HB1.out.trans (hb2.mono HB1.out.size))
 have HQ2 := hid (HQ1.out.below hb2)
 have hql2 := HQ2.out.lt
 clear HB1 HQ1 G1 HKn hb2 q0 hql
 have q0 : w2.cell? ⟨q, 0, none⟩ = some (.int .i64 xg) := HQ2.out.cell 0
 have q2 : w2.cell? ⟨q, 2, none⟩ = some (.string xm) := HQ2.out.cell 2
 clear hTl
 have HQs := hid (fun w' (hb : Below w2.heap.size w2 w') => (show w'.cell? ⟨q, 0, none⟩ = some (.int .i64 xg) ∧ w'.cell? ⟨q, 2, none⟩ = some (.string xm) ∧ q < w'.heap.size from ⟨(HQ2.out.below hb).cell 0, (HQ2.out.below hb).cell 2, (HQ2.out.below hb).lt⟩))
 have HW := hid (fun w' (hb : Below w2.heap.size w2 w') => zEy (G2.out.quiet hb) xg 2 xm)
 have HF2 := hid (fun w' (hb : Below w2.heap.size w2 w') => Fr.of_below (w0 := w0) (HB2.out.trans (hb.mono HB2.out.size)))
 cases ok with
 | false =>
  go_wp2_with fail
  go_quiet (fail)
  have hq := below_drewN (Below.refl w2.heap.size w2) nq
  obtain ⟨x0, x2, xl⟩ := HQs.out _ hq
  have HWa := hid (HW.out _ hq)
  have HFa := hid (HF2.out _ hq)
  go_wp2_with fail
  refine HWa.out.mono ?_
  rintro e w3 ⟨rfl, hG, hF⟩
  have HG3 := hid (hG.more 1)
  have HF3 := hid (HFa.out.trans hF)
  clear hG hF HWa
  go_wp2_with fail
  refine bodyPost_ret (results_none rfl _ _ _) rfl ?_
  exact ⟨rfl, HG3.out, HF3.out⟩
 | true =>
  have c2 : w2.drew.cell? ⟨c, 2, none⟩ = some (.pointer (some ⟨kb, 0, none⟩)) := by
   have := G2.out.at_.hd 2 (by omega)
   rw [show S.head[2]? = some S.book from rfl, G2.out.gf.bk_] at this
   exact this
  have q2d : w2.drew.cell? ⟨q, 2, none⟩ = some (.string xm) := q2
  have hk0 : w2.drew.cell? ⟨c, 2, none⟩ = some (.pointer (some ⟨kb, 0, none⟩)) ∧ w2.drew.cell? ⟨q, 2, none⟩ = some (.string xm) := ⟨c2, q2d⟩
  have HIs := hid (is_any kb mb D.Bk (ba T) xm w2.drew (G2.out.gf.bok.below (Below.refl _ _).drew) (by rw [zAl]; have := HTl.out; unfold maxLen; omega) (by have := G2.out.gf.bokL; have := Hbb.out; omega))
  have HK := hid (fun w' (hb : Below w2.heap.size w2 w') => (show w'.cell? ⟨c, 2, none⟩ = some (.pointer (some ⟨kb, 0, none⟩)) ∧ w'.cell? ⟨q, 2, none⟩ = some (.string xm) from ⟨by
   have := (G2.out.at_.below hb).hd 2 (by omega)
   rw [show S.head[2]? = some S.book from rfl, G2.out.gf.bk_] at this
   exact this, (HQ2.out.below hb).cell 2⟩))
  obtain ⟨tl, htl⟩ : ∃ tl, tl = tells D.Bk (ba T) xm := ⟨_, rfl⟩
  rw [← htl] at HIs
  clear htl c2 q2d
  go_wp2_with fail
  go_region_held3 (fun w' => w'.cell? ⟨c, 2, none⟩ = some (.pointer (some ⟨kb, 0, none⟩)) ∧ w'.cell? ⟨q, 2, none⟩ = some (.string xm))
   (first | with_reducible exact hk0 | with_reducible exact hk3 | go_keep)
   ((go_at_call 54; refine HIs.out.mono ?_; rintro e w3 ⟨rfl, hb3⟩; have hbw := zAd ((Below.refl _ w2).drew) hb3; have hk3 := HK.out w3 hbw))
  have Hb3 := hid hbw
  clear hb3 hbw hk0 hk3 HIs HK q0 q2
  obtain ⟨x0, x2, xl⟩ := HQs.out w3 Hb3.out
  have hl3 := Nat.lt_of_lt_of_le hbl (Nat.le_trans HB2.out.size Hb3.out.size)
  cases tl with
  | false =>
   have HWa := hid (HW.out _ Hb3.out)
   have HFa := hid (HF2.out _ Hb3.out)
   go_wp2_with fail
   refine HWa.out.mono ?_
   rintro e w4 ⟨rfl, hG, hF⟩
   have HG3 := hid (hG.more 1)
   have HF3 := hid (HFa.out.trans hF)
   clear hG hF HWa
   go_wp2_with fail
   refine bodyPost_ret (results_none rfl _ _ _) rfl ?_
   exact ⟨rfl, HG3.out, HF3.out⟩
  | true =>
   have G3 := hid (G2.out.quiet Hb3.out)
   have HFa := hid (HF2.out _ Hb3.out)
   have HR3 := hid (HR.out.below (HB2.out.trans (Hb3.out.mono HB2.out.size)))
   have HQ3 := hid (HQ2.out.below Hb3.out)
   have c11 : w3.cell? ⟨c, 11, none⟩ = some (.slice (some ⟨g, off, none⟩) m ic) := by rw [← Hi.out]; exact G3.out.at_.hd 11 (by omega)
   have f11 := G3.out.at_.1.free 11
   have hm1 : 1 ≤ m := hm0
   clear HW HF2 HQs x2
   go_upto_region 6 with fail
   have T7 : Touch (fun k => k = c) w3 (w3.setCell ⟨c, 11, none⟩ (.slice (if ic = 1 then some ⟨g, off, none⟩ else some ⟨g, off + 3, none⟩) (m - 1) (ic - 1))) := zAa (Touch.refl _ _) _
   have hC := G3.out.at_.setAgain2 (.slice (if ic = 1 then some ⟨g, off, none⟩ else some ⟨g, off + 3, none⟩) (m - 1) (ic - 1))
   have hgc : g ≠ c := fun e => by
    obtain ⟨cs, hb⟩ := HR3.out.blk (g := g) rfl
    exact hb.ne G3.out.at_.1 (by decide) e
   have hR := (zGO HR3.out hm1).touch T7 (fun k hk e => by
    have : k = g := by
     split at hk <;> (simp [Value.ownBlock] at hk; omega)
    omega)
   obtain ⟨g3, f3⟩ := G3.out.gf.again G3.out.at_ T7 (.slice (if ic = 1 then some ⟨g, off, none⟩ else some ⟨g, off + 3, none⟩) (m - 1) (ic - 1)) (D.ag.drop 1) (by rw [List.length_drop, ← Hm.out, zFG]; exact hR) (fun k hk => by
    rw [Hi.out]
    split at hk <;> (simp [Value.ownBlock] at hk ⊢; omega)) (by rw [List.length_drop, ← Hm.out]; omega)
   have G4 : Hid (Gc w0 c kb mb n id bal G Z { D with ag := D.ag.drop 1 } { S with again := .slice (if ic = 1 then some ⟨g, off, none⟩ else some ⟨g, off + 3, none⟩) (m - 1) (ic - 1) } (w3.setCell ⟨c, 11, none⟩ (.slice (if ic = 1 then some ⟨g, off, none⟩ else some ⟨g, off + 3, none⟩) (m - 1) (ic - 1)))) := hid ⟨hC, g3⟩
   have HF4 := hid (HFa.out.trans f3)
   have HQ4 := hid (HQ3.out.set_other (a := ⟨c, 11, none⟩) hqc (.slice (if ic = 1 then some ⟨g, off, none⟩ else some ⟨g, off + 3, none⟩) (m - 1) (ic - 1)))
   generalize w3.setCell ⟨c, 11, none⟩ (.slice (if ic = 1 then some ⟨g, off, none⟩ else some ⟨g, off + 3, none⟩) (m - 1) (ic - 1)) = w4 at G4 HF4 HQ4 ⊢
   have y0 : w4.cell? ⟨q, 0, none⟩ = some (.int .i64 xg) := HQ4.out.cell 0
   have yl := HQ4.out.lt
   have HP := hid (zFX G4.out Hj.out xg T HTl.out false (fun e => absurd e (by decide)) Hbb.out)
   clear T7 hC hgc hR g3 f3 c11 f11 x0 xl
   go_wp2_with fail
   all_goals
    refine HP.out.mono ?_
    rintro e w5 ⟨rfl, hG, hF⟩
    have HG5 := hid hG
    have HF5 := hid (HF4.out.trans hF)
    clear hG hF HP
    go_wp2_with fail
    refine bodyPost_ret (results_none rfl _ _ _) rfl ?_
    exact ⟨rfl, HG5.out, HF5.out⟩
theorem zDo (m : MG) (h1 : m.la = none) (h2 : m.ll = 0) (h3 : m.lc = 0) (h4 : m.pt = ⟨#[]⟩) : SentM m := ⟨h1, h2, h3, by rw [h4]; exact Nat.zero_le _⟩
theorem zEc {G : Gh} (h : Gs w0 c kb mb n id bal G Z w') (hf : Fr w0 w w') : zBx w0 c kb mb n id bal G Z w (.returned (.slice none 0 0)) w' :=
 ⟨_, [], rfl, World.ownsRow_nil _ _ _ _, Nat.zero_le _, (fun m hm => by cases hm), h.more _, hf⟩
theorem zCZ {G : Gh} {D : Dt} {S : CSt} (h : Gc w0 c kb mb n id bal G Z D S w2) (hf : Fr w0 w w2) (hb : Below w.heap.size w w2) (m : MG) (hm : SentM m) (o : Obj) : zBx w0 c kb mb n id bal G Z w (.returned (.slice (some ⟨w2.heap.size + 1, 0, none⟩) 1 1)) ((w2.alloc o).alloc (.cells m.vals.toArray 30)) := by
 have hb2 : Below w2.heap.size w2 ((w2.alloc o).alloc (.cells m.vals.toArray 30)) := ((Below.refl w2.heap.size w2).alloc (Nat.le_refl _) _).alloc (by simp) _
 refine ⟨_, [m], rfl, row_lit1 o m hb, by simp, fun x hx => by rw [List.mem_singleton.1 hx]; exact hm, ⟨D, S, h.at_.below hb2, (h.quiet hb2).gf.more _⟩, hf.trans (Fr.of_below hb2)⟩
theorem gc_serve {G : Gh} {D : Dt} {S : CSt} (h : Gc w0 c kb mb n id bal G Z D S w) (hZ : Z ≤ 100000) (hbb : G.bb ≤ 600000000) (v : Nat) (hvn : v < n) :
  Calls Tryz.prog 38 #[.pointer (some ⟨c, 0, none⟩), .int .i64 (v : Int)] w (zBx w0 c kb mb n id bal G Z w) := by
 have hps := h.gf.prsL
 have hn9 := h.gf.n9
 have hbl := h.at_.1.lt
 have H0 := hid h
 have Hbb := hid hbb
 have HGo := hid (fun k => gc_goal (h.quiet (below_drewN (Below.refl w.heap.size w) k)) hZ v hvn)
 have HTo := hid (fun (kd : Int) (w' : World) (hb : Below w.heap.size w w') => zEA c S (v : Int) kd w' (h.at_.below hb))
 obtain ⟨p, hpv⟩ : ∃ p, p = D.ps[v]'(by omega) := ⟨_, rfl⟩
 have HP := hid (fun (w' : World) (hb : Below w.heap.size w w') => (show w'.cell? ⟨c, 12 + v * 8 + 3, none⟩ = some (.int .i64 p.has) ∧ w'.cell? ⟨c, 12 + v * 8 + 4, none⟩ = some (.string p.mark) ∧ w'.cell? ⟨c, 5, none⟩ = some (.int .i64 S.floor) from ⟨by rw [hpv]; exact (h.at_.below hb).peer h.gf.prs v (by omega) 3 (by omega), by rw [hpv]; exact (h.at_.below hb).peer h.gf.prs v (by omega) 4 (by omega), (h.at_.below hb).hd 5 (by omega)⟩))
 have c0 : w.cell? ⟨c, 12 + v * 8, none⟩ = some (.bool p.told) := by rw [hpv]; exact h.at_.peer h.gf.prs v (by omega) 0 (by omega)
 have c1 : w.cell? ⟨c, 12 + v * 8 + 1, none⟩ = some (.int .i64 p.floor) := by rw [hpv]; exact h.at_.peer h.gf.prs v (by omega) 1 (by omega)
 have c5 : w.cell? ⟨c, 5, none⟩ = some (.int .i64 S.floor) := h.at_.hd 5 (by omega)
 have hv1 : (0 : Int) ≤ (v : Int) := by omega
 have hv2 : (v : Int) < 9 := by omega
 have Hv9 := hid (show v < 9 by omega)
 generalize p.told = pd at c0
 generalize p.floor = pf at c1
 generalize p.has = ph at HP
 generalize p.mark = pm at HP
 obtain ⟨cf, hcf⟩ : ∃ cf, cf = S.floor := ⟨_, rfl⟩
 rw [← hcf] at c5 HP
 obtain ⟨ci, hci⟩ : ∃ ci, ci = S.id := ⟨_, rfl⟩
 obtain ⟨cb, hcb⟩ : ∃ cb, cb = S.ballot := ⟨_, rfl⟩
 rw [← hci, ← hcb] at HTo
 clear h hpv hbb hcf hci hcb hps
 by_cases hpr : pd = true ∧ pf < cf
 ·have hlt := hpr.2
  rw [hpr.1] at c0
  clear hpr HGo
  go_enter Tryz.func38, Tryz.ntmps38
  go_wp2
  go_quiet (fail)
  have hq := below_drewN (Below.refl w.heap.size w) nq
  have HTo1 := hid (HTo.out 15 _ hq)
  have HB1 := hid hq
  clear hq HTo
  go_wp2_with fail
  refine HTo1.out.mono ?_
  rintro e w2 ⟨rfl, hb2⟩
  have HB2 := hid (zAd HB1.out hb2)
  have c5b := (HP.out w2 HB2.out).2.2
  have hcl2 : c < w2.heap.size := Nat.lt_of_lt_of_le hbl HB2.out.size
  clear hb2 HB1 HTo1 HP c0 c1 c5
  unfold zBM
  go_wp2_with fail
  go_ret
  exact zCZ (H0.out.quiet HB2.out) (Fr.of_below HB2.out) HB2.out { MG.zero with k := 15, fr := ci, to_ := v, bal := cb, fl := cf } (zDo _ rfl rfl rfl rfl) _
 ·have hcase : pd = false ∨ (pd = true ∧ ¬ pf < cf) := by
   cases pd with
   | false => exact Or.inl rfl
   | true => exact Or.inr ⟨rfl, fun e => hpr ⟨rfl, e⟩⟩
  clear hpr
  rcases hcase with hpd | ⟨hpd, hnt⟩
  all_goals
   rw [hpd] at c0
   clear hpd
   go_enter Tryz.func38, Tryz.ntmps38
   go_wp2
   go_quiet (fail)
   have hq := below_drewN (Below.refl w.heap.size w) nq
   have HGo1 := hid (HGo.out nq)
   go_wp2_with fail
   refine HGo1.out.mono ?_
   rintro e w1 ⟨gen, mk, ch, ok, rfl, hb1⟩
   have HB1 := hid (zAd hq hb1)
   clear hb1 hq HGo HGo1 c0 c1 c5
   cases ok with
   | false =>
    go_wp2_with fail
    go_ret
    exact zEc ⟨D, S, H0.out.quiet HB1.out⟩ (Fr.of_below HB1.out)
   | true =>
    obtain ⟨p3, p4, _⟩ := HP.out w1 HB1.out
    have HG1 := hid (H0.out.quiet HB1.out)
    clear HP
    by_cases hm : pm = mk ∧ ph = gen
    ·obtain ⟨rfl, rfl⟩ := hm
     cases ch with
     | true =>
      have HTo1 := hid (HTo.out 9 w1 HB1.out)
      clear HTo
      go_wp2_with fail
      refine HTo1.out.mono ?_
      rintro e w2 ⟨rfl, hb2⟩
      have HB2 := hid (zAd HB1.out hb2)
      clear hb2 HB1 HTo1 p3 p4
      unfold zBM
      go_wp2_with fail
      go_ret
      exact zCZ (H0.out.quiet HB2.out) (Fr.of_below HB2.out) HB2.out { MG.zero with k := 9, fr := ci, to_ := v, gen := ph, mrk := pm } (zDo _ rfl rfl rfl rfl) _
     | false =>
      have HTo1 := hid (HTo.out 7 w1 HB1.out)
      clear HTo
      go_wp2_with fail
      refine HTo1.out.mono ?_
      rintro e w2 ⟨rfl, hb2⟩
      have HB2 := hid (zAd HB1.out hb2)
      clear hb2 HB1 HTo1 p3 p4
      unfold zBM
      go_wp2_with fail
      go_ret
      exact zCZ (H0.out.quiet HB2.out) (Fr.of_below HB2.out) HB2.out { MG.zero with k := 7, fr := ci, to_ := v, bal := cb, gen := ph, mrk := pm } (zDo _ rfl rfl rfl rfl) _
    ·have hd : (pm.toList == mk.toList) = false ∨ ((pm.toList == mk.toList) = true ∧ (ph == gen) = false) := by
      by_cases h1 : pm = mk
      ·exact Or.inr ⟨by rw [h1]; simp, by rw [beq_eq_false_iff_ne]; exact fun e => hm ⟨h1, e⟩⟩
      ·exact Or.inl (by rw [zAY]; exact decide_eq_false h1)
     have HKn := hid (zEp HG1.out gen)
     clear hm HTo
     rcases hd with hd | ⟨hd, hd2⟩
     all_goals
      go_wp2_with fail
      refine HKn.out.mono ?_
      rintro e w2 ⟨T, ok2, rfl, hTl, hb2⟩
      have HTl := hid hTl
      have HB2 := hid (zAd HB1.out hb2)
      have HG2 := hid (HG1.out.quiet hb2)
      clear hTl hb2 HB1 HG1 HKn p3 p4
      cases ok2 with
      | false =>
       have HWa := hid (zEy HG2.out gen 0 mk)
       go_wp2_with fail
       refine HWa.out.mono ?_
       rintro e w3 ⟨rfl, hG, hF⟩
       have HG3 := hid hG
       have HF3 := hid ((Fr.of_below (w0 := w0) HB2.out).trans hF)
       clear hG hF HWa
       go_wp2_with fail
       go_ret
       exact zEc HG3.out HF3.out
      | true =>
       have HPa := hid (gc_parts HG2.out Hbb.out v Hv9.out gen mk T HTl.out)
       go_wp2_with fail
       refine HPa.out.mono ?_
       rintro e w3 ⟨x, ms, rfl, hrow, h32, hS, hG, hF⟩
       have HF := hid (And.intro hrow (And.intro h32 (And.intro hS (And.intro hG ((Fr.of_below (w0 := w0) HB2.out).trans hF)))))
       clear hrow h32 hS hG hF HPa
       obtain ⟨xa, xc, rfl⟩ := zAe HF.out.1
       go_wp2_with fail
       go_ret
       exact ⟨_, ms, rfl, zAB HF.out.1 HB2.out.size, HF.out.2.1, HF.out.2.2.1, HF.out.2.2.2.1, HF.out.2.2.2.2⟩
def GOut (w0 : World) (c kb mb n : Nat) (id bal : Int) (G : Gh) (Z K : Nat) (w : World) (e : Ending) (w' : World) : Prop :=
 ∃ (x : Value) (ms : List MG), e = .returned x ∧ w'.ownsRow w.heap.size 30 14 x ms.length (msgsV ms) ∧ ms.length ≤ K ∧ (∀ m ∈ ms, SentM m) ∧ Gs w0 c kb mb n id bal G Z w' ∧ Fr w0 w w'
theorem zCo {G : Gh} (h : Gs w0 c kb mb n id bal G Z w') (hf : Fr w0 w w') : GOut w0 c kb mb n id bal G Z K w (.returned (.slice none 0 0)) w' :=
 ⟨_, [], rfl, World.ownsRow_nil _ _ _ _, Nat.zero_le _, (fun m hm => by cases hm), h, hf⟩
theorem zDl {G : Gh} {D : Dt} {S : CSt} (h : Gc w0 c kb mb n id bal G Z D S w1) (hf : Fr w0 w w1) (hw : w0.heap.size ≤ w.heap.size) (hv : w1.ownsRow w.heap.size 30 14 ov k xs) (hb : Below w1.heap.size w1 w1') (hg : w1'.grownBy w2 ov.ownBlock) :
  Gc w0 c kb mb n id bal G Z D S w2 ∧ Fr w0 w w2 ∧ Keep [30] w1 w2 := by
 have TT : Touch (fun j => w.heap.size ≤ j) w1 w2 := zAm (Touch.of_below hb) hg (fun g hg => Or.inl (zCe hv hg).1)
 have hF := hf.grow TT hw
 have K8 : Keep [30] w1 w2 := (Keep.of_below hb).trans (Keep.of_grown (zAc hv hb) hg (by simp) (by decide))
 exact ⟨h.keep K8 (h.gf.below.trans (TT.below h.gf.below.size (fun k hk hs => by omega))) (by decide), hF, K8⟩
theorem Gf.newYes {G : Gh} {D : Dt} {S : CSt} (h : Gf w0 c kb mb n id bal G Z D S w) (hy : D.yes = none) (hc : zAb w c S) (hT : Touch (fun k => k = c) w w') (t : Nat) (hta : zAi w' t n (List.replicate 9 false)) (hl : w.heap.size ≤ t) (hcal : D.cal ≠ none) :
  Gf w0 c kb mb n id bal G (Z + 1) { D with yes := some (t, List.replicate 9 false) } { S with read := S.read + 1, yes := .pointer (some ⟨t, 0, none⟩) } w' ∧ Fr w0 w w' := by
 obtain ⟨g1, g2⟩ := h.coord hc hT
 have hsz := h.below.size
 have hlt := h.talLt
 exact ⟨{ g1.mono (Nat.le_succ Z) with
  read := ⟨by have := h.read.1; show 0 ≤ S.read + 1; omega, by have := h.read.2; show S.read + 1 ≤ ((Z + 1 : Nat) : Int); omega⟩
  yes := rfl
  yesB := fun t' e => by
   injection e with e
   subst e
   exact ⟨hta, (fun i hi (hm : (List.replicate 9 false).getD i false = true) => by rw [zero_getD] at hm; cases hm), hcal⟩
  tals := by
   have h0 := h.tals
   unfold Dt.tals at h0 hlt
   rw [hy] at h0 hlt
   have h0 : (D.pt :: (JobD.tals D.job ++ talO D.prn)).Nodup := h0
   have hlt : ∀ t' ∈ D.pt :: (JobD.tals D.job ++ talO D.prn), t' < w.heap.size := hlt
   show (D.pt :: (JobD.tals D.job ++ t :: talO D.prn)).Nodup
   have hp : (D.pt :: (JobD.tals D.job ++ t :: talO D.prn)).Perm (t :: D.pt :: (JobD.tals D.job ++ talO D.prn)) := by
    have := List.perm_middle (l₁ := D.pt :: JobD.tals D.job) (l₂ := talO D.prn) (a := t)
    exact this
   rw [hp.nodup_iff, List.nodup_cons]
   exact ⟨fun e => by have := hlt t e; omega, h0⟩
  talB := fun t' ht => by
   have h0 := h.talB
   unfold Dt.tals at h0
   rw [hy] at h0
   have ht : t' ∈ D.pt :: (JobD.tals D.job ++ ([t] ++ talO D.prn)) := ht
   have h0 : ∀ t' ∈ D.pt :: (JobD.tals D.job ++ talO D.prn), w0.heap.size ≤ t' := h0
   rcases List.mem_cons.1 ht with e | e
   ·exact h0 t' (List.mem_cons.2 (Or.inl e))
   rcases List.mem_append.1 e with e | e
   ·exact h0 t' (List.mem_cons.2 (Or.inr (List.mem_append_left _ e)))
   rcases List.mem_append.1 e with e | e
   ·rw [List.mem_singleton.1 e]; omega
   ·exact h0 t' (List.mem_cons.2 (Or.inr (List.mem_append_right _ e))) }, g2⟩
theorem Gf.newPrn {G : Gh} {D : Dt} {S : CSt} (h : Gf w0 c kb mb n id bal G Z D S w) (hy : D.prn = none) (hc : zAb w c S) (hT : Touch (fun k => k = c) w w') (t : Nat) (hta : zAi w' t n (List.replicate 9 false)) (hl : w.heap.size ≤ t) (hcal : D.cal ≠ none) (hk : G.gk ≠ 1) (hm : ∃ r, Maj n (G.VY r)) :
  Gf w0 c kb mb n id bal G Z { D with prn := some (t, List.replicate 9 false) } { S with pruned := .pointer (some ⟨t, 0, none⟩) } w' ∧ Fr w0 w w' := by
 obtain ⟨g1, g2⟩ := h.coord hc hT
 have hsz := h.below.size
 have hlt := h.talLt
 exact ⟨{ g1 with
  prn := rfl
  prnB := fun t' e => by
   injection e with e
   subst e
   exact ⟨hta, hcal, hk, hm⟩
  tals := by
   have h0 := h.tals
   unfold Dt.tals at h0 hlt
   rw [hy] at h0 hlt
   have h0 : (D.pt :: (JobD.tals D.job ++ (talO D.yes ++ []))).Nodup := h0
   have hlt : ∀ t' ∈ D.pt :: (JobD.tals D.job ++ (talO D.yes ++ [])), t' < w.heap.size := hlt
   rw [List.append_nil] at h0 hlt
   show (D.pt :: (JobD.tals D.job ++ (talO D.yes ++ [t]))).Nodup
   have hp : (D.pt :: (JobD.tals D.job ++ (talO D.yes ++ [t]))).Perm (t :: D.pt :: (JobD.tals D.job ++ talO D.yes)) := by
    have := List.perm_middle (l₁ := D.pt :: (JobD.tals D.job ++ talO D.yes)) (l₂ := []) (a := t)
    rw [List.append_nil] at this
    rw [← List.append_assoc]
    exact this
   rw [hp.nodup_iff, List.nodup_cons]
   exact ⟨fun e => by have := hlt t e; omega, h0⟩
  talB := fun t' ht => by
   have h0 := h.talB
   unfold Dt.tals at h0
   rw [hy] at h0
   have ht : t' ∈ D.pt :: (JobD.tals D.job ++ (talO D.yes ++ [t])) := ht
   have h0 : ∀ t' ∈ D.pt :: (JobD.tals D.job ++ (talO D.yes ++ [])), w0.heap.size ≤ t' := h0
   rw [List.append_nil] at h0
   rcases List.mem_cons.1 ht with e | e
   ·exact h0 t' (List.mem_cons.2 (Or.inl e))
   rcases List.mem_append.1 e with e | e
   ·exact h0 t' (List.mem_cons.2 (Or.inr (List.mem_append_left _ e)))
   rcases List.mem_append.1 e with e | e
   ·exact h0 t' (List.mem_cons.2 (Or.inr (List.mem_append_right _ e)))
   ·rw [List.mem_singleton.1 e]; omega }, g2⟩
end Go.Proofs.YtaemlplcjjbamaaGreatDoor
