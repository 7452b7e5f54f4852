/- The walk of the statement's majority: yeses to a question. ( -/
import Derived.Test.YtaemlplcjjbamaaGreatDoorBLOps
namespace Go.Proofs.YtaemlplcjjbamaaGreatDoor
open Go.Lib (hid)
set_option maxRecDepth 100000
set_option maxHeartbeats 8000000
open Go Go.RowKit
set_option linter.unusedVariables false
variable {Z bb c kb mb n wb : Nat} {bal gk id : Int} {gm : ByteArray} {sv : Value} {w w0 : World}
theorem zIS (wb n B c bk : Nat) (id : Int) (sv av : Value) (T : List Tl) (r : Int) (w : World) (hW : Blk w wb (zCY c bk id (n : Int) sv av) 43) (hA : w.ownsRow B 57 5 av T.length (toldV T)) (hn : n ≤ 9) (hT : T.length ≤ 1000000) :
  Calls Tryz.prog 14 #[.pointer (some ⟨wb, 0, none⟩), .int .i64 12, .int .i64 0, .int .i64 r, .string ⟨#[]⟩] w fun e w' => e = .returned (.bool (decide (n < 2 * (List.range n).countP (fun v => T.any (zAE v r))))) ∧ Below w.heap.size w w' := by
 have HW := hid hW
 have HA := hid hA
 have hwl := hW.lt
 obtain ⟨m, hm⟩ : ∃ m, m = T.length := ⟨_, rfl⟩
 rw [← hm] at HA hT
 have Hm := hid hm
 clear hW hA hm
 go_enter Tryz.func14, Tryz.ntmps14
 go_wp2_with fail
 go_loopw [11, 12] (fun cv vv wr => ∃ v : Nat, vv = .int .i64 (v : Int) ∧ v ≤ n ∧ cv = .int .i64 (((List.range v).countP (fun v => T.any (zAE v r)) : Nat) : Int) ∧ Hid (Below w.heap.size w wr)) (fun _ vv _ => n - (intOf vv).toNat)
 case atStart => exact ⟨0, rfl, Nat.zero_le _, rfl, hid (Below.refl _ _)⟩
 case round =>
  obtain ⟨v, rfl, hv, rfl, HB⟩ := hrel
  have c3 : wr.cell? ⟨wb, 3, none⟩ = some (.int .i64 (n : Int)) := (HW.out.below HB.out).cell 3
  have hwr := (HW.out.below HB.out).lt
  obtain ⟨cc, hcc⟩ : ∃ cc, cc = (List.range v).countP (fun v => T.any (zAE v r)) := ⟨_, rfl⟩
  have hcl : cc ≤ v := by rw [hcc]; have := List.countP_le_length (p := fun v => T.any (zAE v r)) (l := List.range v); rw [List.length_range] at this; exact this
  rw [← hcc]
  have Hcc := hid hcc
  clear hcc
  by_cases hlt : v < n
  ·go_wp2_with fail
   clear c3
   go_loopw [13, 14] (fun bv iv wr => ∃ i : Nat, iv = .int .i64 (i : Int) ∧ i ≤ m ∧ bv = .bool ((T.take i).any (zAE v r)) ∧ Hid (Below w.heap.size w wr)) (fun _ iv _ => m - (intOf iv).toNat)
   case atStart => exact ⟨0, rfl, Nat.zero_le _, by simp, HB⟩
   case round =>
    obtain ⟨i, rfl, hi, rfl, HBr⟩ := hrel
    clear HB hwr
    have hown := zAc HA.out HBr.out
    have hWr := HW.out.below HBr.out
    have hwr := hWr.lt
    obtain ⟨va, vc, rfl⟩ := zAe hown
    have c5 : wr.cell? ⟨wb, 5, none⟩ = some (.slice va m vc) := hWr.cell 5
    have c3 : wr.cell? ⟨wb, 3, none⟩ = some (.int .i64 (n : Int)) := hWr.cell 3
    have hsz := HBr.out.size
    by_cases hil : i < m
    ·obtain ⟨gg, cap, hvv, hg0, hg1, _, _, hcell⟩ := zAz hown (by omega)
     simp only [Value.slice.injEq] at hvv
     obtain ⟨rfl, _, rfl⟩ := hvv
     obtain ⟨x, hx⟩ : ∃ x, T[i]? = some x := ⟨_, List.getElem?_eq_getElem (by have := Hm.out; omega)⟩
     have x0 : wr.cell? ⟨gg, i * 5, none⟩ = some (.int .i64 x.k) := (hcell (i * 5) (by omega)).trans (zBq hx 0 (by omega))
     have x1 : wr.cell? ⟨gg, i * 5 + 1, none⟩ = some (.int .i64 x.fr) := (hcell (i * 5 + 1) (by omega)).trans (zBq hx 1 (by omega))
     have x2 : wr.cell? ⟨gg, i * 5 + 2, none⟩ = some (.int .i64 x.gen) := (hcell (i * 5 + 2) (by omega)).trans (zBq hx 2 (by omega))
     have x3 : wr.cell? ⟨gg, i * 5 + 3, none⟩ = some (.int .i64 x.rd) := (hcell (i * 5 + 3) (by omega)).trans (zBq hx 3 (by omega))
     have x4 : wr.cell? ⟨gg, i * 5 + 4, none⟩ = some (.string x.mrk) := (hcell (i * 5 + 4) (by omega)).trans (zBq hx 4 (by omega))
     have HTk := hid (any_take_succ (p := zAE v r) hx)
     obtain ⟨b, hb⟩ : ∃ b, b = (T.take i).any (zAE v r) := ⟨_, rfl⟩
     rw [← hb]
     have HBa := hid (HBr.out.alloc HBr.out.size (.cells #[.int .i64 x.k, .int .i64 x.fr, .int .i64 x.gen, .int .i64 x.rd, .string x.mrk] 57))
     rw [← hb] at HTk
     clear hcell hown hWr hx hb
     cases b with
     | true =>
      go_wp2_with fail
      go_roundw
      case rel => exact ⟨i + 1, by go_num, by omega, by rw [HTk.out, Bool.true_or], HBa⟩
      case measure => simp [intOf]; omega
     | false =>
      rw [Bool.false_or] at HTk
      by_cases h1 : x.k = 12
      ·have h1b : (x.k == 12) = true := by rw [h1]; rfl
       by_cases h2 : x.fr = (v : Int)
       ·have h2b : (x.fr == (v : Int)) = true := by rw [h2]; simp
        by_cases h3 : x.rd = r
        ·have h3b : (x.rd == r) = true := by rw [h3]; simp
         have Hp := hid (show zAE v r x = true from decide_eq_true ⟨h1, h2, h3⟩)
         clear h1 h2 h3
         go_wp2_with fail
         go_roundw
         case rel => exact ⟨i + 1, by go_num, by omega, by rw [HTk.out, Hp.out], HBa⟩
         case measure => simp [intOf]; omega
        ·have h3b : (x.rd == r) = false := by rw [beq_eq_false_iff_ne]; exact h3
         have Hp := hid (show zAE v r x = false from decide_eq_false (fun e => h3 e.2.2))
         clear h1 h2 h3
         go_wp2_with fail
         go_roundw
         case rel => exact ⟨i + 1, by go_num, by omega, by rw [HTk.out, Hp.out], HBa⟩
         case measure => simp [intOf]; omega
       ·have h2b : (x.fr == (v : Int)) = false := by rw [beq_eq_false_iff_ne]; exact h2
        have Hp := hid (show zAE v r x = false from decide_eq_false (fun e => h2 e.2.1))
        clear h1 h2
        go_wp2_with fail
        go_roundw
        case rel => exact ⟨i + 1, by go_num, by omega, by rw [HTk.out, Hp.out], HBa⟩
        case measure => simp [intOf]; omega
      ·have h1b : (x.k == 12) = false := by rw [beq_eq_false_iff_ne]; exact h1
       have Hp := hid (show zAE v r x = false from decide_eq_false (fun e => h1 e.1))
       clear h1
       go_wp2_with fail
       go_roundw
       case rel => exact ⟨i + 1, by go_num, by omega, by rw [HTk.out, Hp.out], HBa⟩
       case measure => simp [intOf]; omega
    ·obtain rfl : i = m := by omega
     have hfull : T.take i = T := by rw [List.take_of_length_le (by have := Hm.out; omega)]
     rw [hfull]
     have Hnx := hid (show (List.range (v + 1)).countP (fun v => T.any (zAE v r)) = cc + (if T.any (zAE v r) = true then 1 else 0) by rw [List.range_succ, List.countP_append, ← Hcc.out]; simp)
     obtain ⟨b, hb⟩ : ∃ b, b = T.any (zAE v r) := ⟨_, rfl⟩
     rw [← hb] at Hnx ⊢
     clear hb hfull
     cases b with
     | true =>
      go_wp2_with fail
      go_roundw
      case rel => exact ⟨v + 1, by go_num, by omega, by rw [Hnx.out, if_pos rfl]; go_num, HBr⟩
      case measure => simp [intOf]; omega
     | false =>
      go_wp2_with fail
      go_roundw
      case rel => exact ⟨v + 1, by go_num, by omega, by rw [Hnx.out, if_neg (by decide)]; rfl, HBr⟩
      case measure => simp [intOf]; omega
  ·obtain rfl : v = n := by omega
   go_wp2_with fail
   go_ret
   refine ⟨?_, HB.out⟩
   rw [← Hcc.out]
   exact congrArg Ending.returned (congrArg Value.bool (by rw [decide_eq_decide]; omega))
theorem Lw.reset {T : List Tl} {L : List MG} (hg : Gs w0 c kb mb n id bal (zCt False [] gk gm bb) Z w) (hr : LwR w0 c wb kb n id T L sv w) (hs : ∀ m ∈ L, SentM m) (hl : L.length ≤ 585) (hwb : w0.heap.size ≤ wb) :
  Lw w0 c wb kb mb n id bal False gk gm bb Z [] L sv (w.setCell ⟨wb, 5, none⟩ (.slice none 0 0)) ∧ FrW w0 w (w.setCell ⟨wb, 5, none⟩ (.slice none 0 0)) := by
 obtain ⟨av, hW, hA, hS⟩ := hr
 obtain ⟨D, S, hG⟩ := hg
 have hT : Touch (fun k => k = wb) w (w.setCell ⟨wb, 5, none⟩ (.slice none 0 0)) := zAa (Touch.refl (fun k => k = wb) w) _
 have hK : Keep [43] w (w.setCell ⟨wb, 5, none⟩ (.slice none 0 0)) := Keep.of_touch hT (fun q _ e => by subst e; exact Tyd.blk hW (by simp)) (by decide)
 have hab : Abw w0 w (w.setCell ⟨wb, 5, none⟩ (.slice none 0 0)) := hT.mono (fun q _ e => by omega)
 exact ⟨⟨⟨D, S, hG.keep hK (hab.below hG.gf.below) (by decide)⟩, ⟨.slice none 0 0, hW.set 5 _, World.ownsRow_nil _ _ _ _, hK.1.2 _ _ _ _ _ _ (by decide) hS⟩, hs, hl, hwb⟩, ⟨hK.1.mono (fun t ht => by rw [List.mem_singleton.1 ht]; exact List.mem_cons_self), hab⟩⟩
theorem Gs.anew {T : List Tl} (h : Gs w0 c kb mb n id bal { zCt False T gk gm bb with VY := fun r v => ∃ x ∈ ([] : List Tl), zAE v r x = true } Z w) : Gs w0 c kb mb n id bal (zCt False [] gk gm bb) Z w := by
 obtain ⟨D, S, hG⟩ := h
 exact ⟨D, S, hG.at_, hG.gf.ghost rfl rfl (fun e => e) (Nat.le_refl _) (fun g m v _ => Or.inl (fun e => e)) (fun r v e => e)⟩
theorem conf_all {T : List Tl} {r : Int} (hx : ∃ x ∈ T, x.rd = r) (hc : n < 2 * (List.range n).countP (fun v => T.any (zAE v r))) : T.any (fun x => decide (n < 2 * (List.range n).countP (fun v => T.any (zAE v x.rd)))) = true := by
 obtain ⟨x, h1, h2⟩ := hx
 exact List.any_eq_true.2 ⟨x, h1, by rw [h2]; exact decide_eq_true hc⟩
theorem zFE (n : Int) (sa : Option Addr) (sl sc : Nat) (w : World) (hs : zHP w sa sl) (hsl : sl ≤ maxLen) :
  Calls Tryz.prog 4 #[.int .i64 n, .slice sa sl sc] w fun e w' => e = .returned (.bool true) ∧ Below w.heap.size w w' := by
 have Hs := hid hs
 unfold maxLen at hsl
 clear hs
 by_cases hn : 1 ≤ n ∧ n ≤ 9
 ·obtain ⟨N, rfl⟩ : ∃ N : Nat, n = N := ⟨n.toNat, by omega⟩
  have hn1 : 1 ≤ N := by omega
  have hn9 : N ≤ 9 := by omega
  go_enter Tryz.func4, Tryz.ntmps4
  go_wp2_with fail
  refine (fresh_L 3 (N : Int) 2 _ (by unfold NewOk BalOk; omega)).mono ?_
  rintro e w1 ⟨wb, kb, mb, c, t, rfl, hW, hbk, hc, ht, hwb0, hc0, ht0, hm0, hb1⟩
  have HI := hid (lw_start hn1 hn9 False 0 ⟨#[]⟩ hW hbk hc ht hwb0 hc0 ht0 hm0 hb1)
  have hz1 := hb1.size
  clear hW hbk hc ht hb1 hwb0 hc0 ht0 hn hm0
  go_wp2_with fail
  go_loopw [6, 7] (fun kv iv wr => ∃ (kd : Int) (i : Nat) (T : List Tl) (L : List MG) (sv : Value), kv = .int .i64 kd ∧ iv = .int .i64 (i : Int) ∧ i ≤ sl ∧ i ≤ 60 ∧ T.length ≤ 585 * i ∧ Hid (Lw w c wb kb mb N 3 (2 * 4 + 3) False kd ⟨#[]⟩ (9437213 * i) (585 * i) T L sv wr)) (fun _ iv _ => 60 - (intOf iv).toNat)
  case atStart => exact ⟨0, 0, [], [], _, rfl, rfl, by omega, by omega, by simp, HI⟩
  case round =>
   obtain ⟨kd, i, T, L, sv, rfl, rfl, hi, hi60, hTl, HX⟩ := hrel
   clear HI
   by_cases hlt : i < sl ∧ i < 60
   ·obtain ⟨hlt1, hlt2⟩ := hlt
    have hbw : Below w.heap.size w wr := by obtain ⟨_, _, g⟩ := HX.out.gs; exact g.gf.below
    rcases Hs.out with h0 | ⟨b, off, rfl, hb, hops⟩
    ·exact absurd h0 (by omega)
    obtain ⟨ok, fr, m, es, tx, ck, cg, fa, fc, fs, hcell, hok⟩ := hops i hlt1
    have hrg := hid (show wr.rangeAt b (off + i * 20) [.int .i64 ok, .int .i64 fr, .int .i64 m.k, .int .i64 m.fr, .int .i64 m.to_, .int .i64 m.bal, .int .i64 m.gen, .int .i64 m.bas, .int .i64 m.fl, .int .i64 m.tp, .int .i64 m.rd, .string m.mrk, .int .i64 m.pa, .int .i64 m.po, .string m.pt, .slice m.la m.ll m.lc, .string tx, .int .i64 ck, .int .i64 cg, .slice fa fs.length fc] from fun j v hv => (hbw.cell (p := ⟨b, off + i * 20 + j, none⟩) hb).trans (hcell j v hv))
    have hinf : (Tryz.prog.info? 35).map (·.size) = some 20 := by kernel_rfl
    have HOk := hid hok
    clear hops hb hcell hok
    go_upto_region 8 with fail
    apply wp_region_lit
    iterate 9 go_step
    refine wpList_load_mid rfl 35 _ rfl b (off + i * 20) rfl _ _ hrg.out Tryz.underlying35 rfl hinf ?_
    iterate 3 go_step
    have ZA := Blk.new wr [.int .i64 0, .int .i64 0, .int .i64 0, .int .i64 0, .int .i64 0, .int .i64 0, .int .i64 0, .int .i64 0, .int .i64 0, .int .i64 0, .int .i64 0, .string ⟨#[]⟩, .int .i64 0, .int .i64 0, .string ⟨#[]⟩, .slice none 0 0, .string ⟨#[]⟩, .int .i64 0, .int .i64 0, .slice none 0 0] 35
    have hzA := (Below.refl wr.heap.size wr).alloc (Nat.le_refl _) (.cells #[.int .i64 0, .int .i64 0, .int .i64 0, .int .i64 0, .int .i64 0, .int .i64 0, .int .i64 0, .int .i64 0, .int .i64 0, .int .i64 0, .int .i64 0, .string ⟨#[]⟩, .int .i64 0, .int .i64 0, .string ⟨#[]⟩, .slice none 0 0, .string ⟨#[]⟩, .int .i64 0, .int .i64 0, .slice none 0 0] 35)
    refine wpList_store_mid rfl 35 _ _ rfl wr.heap.size 0 _ rfl rfl ZA.there hinf (by simp [Value.oneCell']) ?_
    have QA := ZA.setAll [.int .i64 ok, .int .i64 fr, .int .i64 m.k, .int .i64 m.fr, .int .i64 m.to_, .int .i64 m.bal, .int .i64 m.gen, .int .i64 m.bas, .int .i64 m.fl, .int .i64 m.tp, .int .i64 m.rd, .string m.mrk, .int .i64 m.pa, .int .i64 m.po, .string m.pt, .slice m.la m.ll m.lc, .string tx, .int .i64 ck, .int .i64 cg, .slice fa fs.length fc] rfl
    have hbA := below_setCells hzA (Nat.le_refl wr.heap.size) 0 [.int .i64 ok, .int .i64 fr, .int .i64 m.k, .int .i64 m.fr, .int .i64 m.to_, .int .i64 m.bal, .int .i64 m.gen, .int .i64 m.bas, .int .i64 m.fl, .int .i64 m.tp, .int .i64 m.rd, .string m.mrk, .int .i64 m.pa, .int .i64 m.po, .string m.pt, .slice m.la m.ll m.lc, .string tx, .int .i64 ck, .int .i64 cg, .slice fa fs.length fc]
    generalize (wr.alloc (.cells #[.int .i64 0, .int .i64 0, .int .i64 0, .int .i64 0, .int .i64 0, .int .i64 0, .int .i64 0, .int .i64 0, .int .i64 0, .int .i64 0, .int .i64 0, .string ⟨#[]⟩, .int .i64 0, .int .i64 0, .string ⟨#[]⟩, .slice none 0 0, .string ⟨#[]⟩, .int .i64 0, .int .i64 0, .slice none 0 0] 35)).setCells wr.heap.size 0 [.int .i64 ok, .int .i64 fr, .int .i64 m.k, .int .i64 m.fr, .int .i64 m.to_, .int .i64 m.bal, .int .i64 m.gen, .int .i64 m.bas, .int .i64 m.fl, .int .i64 m.tp, .int .i64 m.rd, .string m.mrk, .int .i64 m.pa, .int .i64 m.po, .string m.pt, .slice m.la m.ll m.lc, .string tx, .int .i64 ck, .int .i64 cg, .slice fa fs.length fc] = w2 at QA hbA ⊢
    have HLw := hid (HX.out.quiet hbA)
    have HQ0 := hid QA
    have hq0 : w.heap.size ≤ wr.heap.size := hbw.size
    clear ZA hzA QA hbA HX hrg hinf
    generalize wr.heap.size = q at HQ0 hq0 ⊢
    have HQ := hid HQ0.out
    clear HQ0
    go_upto_region 9 with fail
    have hbw2 : Below w.heap.size w w2 := by obtain ⟨_, _, g⟩ := HLw.out.gs; exact g.gf.below
    have p0 : w2.cell? ⟨q, 0, none⟩ = some (.int .i64 ok) := HQ.out.cell 0
    have p17 : w2.cell? ⟨q, 17, none⟩ = some (.int .i64 ck) := HQ.out.cell 17
    have p18 : w2.cell? ⟨q, 18, none⟩ = some (.int .i64 cg) := HQ.out.cell 18
    have p19 : w2.cell? ⟨q, 19, none⟩ = some (.slice fa fs.length fc) := HQ.out.cell 19
    have hql := HQ.out.lt
    go_upto_if 35 with (fail)
    go_cut [6] (fun kv wx => ∃ (kd2 : Int) (T2 : List Tl), kv = .int .i64 kd2 ∧ Hid (Lw w c wb kb mb N 3 (2 * 4 + 3) False kd2 ⟨#[]⟩ (9437213 * i) (585 * i) T2 L sv wx) ∧ Hid (T2.length ≤ 585 * i) ∧ Hid (Blk wx q [.int .i64 ok, .int .i64 fr, .int .i64 m.k, .int .i64 m.fr, .int .i64 m.to_, .int .i64 m.bal, .int .i64 m.gen, .int .i64 m.bas, .int .i64 m.fl, .int .i64 m.tp, .int .i64 m.rd, .string m.mrk, .int .i64 m.pa, .int .i64 m.po, .string m.pt, .slice m.la m.ll m.lc, .string tx, .int .i64 ck, .int .i64 cg, .slice fa fs.length fc] 35))
    case first =>
     by_cases k3 : ok = 3
     ·have e3 : (ok == 3) = true := by rw [beq_iff_eq]; exact k3
      have HFz := hid HOk.out.sizes
      have HFw := hid (show zBH (fewL fs) from ⟨by rw [zGA]; omega, fun f hf => ⟨by have := (zGF HFz.out f hf).1; unfold maxLen at this; omega, (zGF HFz.out f hf).2⟩⟩)
      have HFew := hid (few_any ck cg fa fc fs w2 (HOk.out.files.below hbw2) (by have := HOk.out.fcap; omega))
      clear k3
      go_wp2_with fail
      refine HFew.out.mono ?_
      rintro e w3 ⟨x, y, rfl, hrow, hb3⟩
      have HL3 := hid (HLw.out.quiet hb3)
      have HQ3 := hid (HQ.out.below hb3)
      have HR3 := hid hrow
      obtain ⟨fl, hfl⟩ : ∃ fl, fl = fewL fs := ⟨_, rfl⟩
      rw [← hfl] at HR3 HFw ⊢
      clear p0 p17 p18 p19 hql HLw HQ hrow hb3 HFew hfl hbw2
      have hbB := (Below.refl w3.heap.size w3).alloc (Nat.le_refl _) (.cells #[.int .i64 ck, .int .i64 cg, .slice x fl.length y] 33)
      have KB := Blk.new w3 [.int .i64 ck, .int .i64 cg, .slice x fl.length y] 33
      go_upto_region 11 with fail
      generalize w3.alloc (.cells #[.int .i64 ck, .int .i64 cg, .slice x fl.length y] 33) = w4 at hbB KB ⊢
      generalize w3.heap.size = q9 at KB ⊢
      have L4 := HL3.out.quiet hbB
      obtain ⟨av4, hW4, _, _⟩ := L4.world
      have c04 : w4.cell? ⟨wb, 0, none⟩ = some (.pointer (some ⟨c, 0, none⟩)) := hW4.cell 0
      have s0 : w4.cell? ⟨q9, 0, none⟩ = some (.int .i64 ck) := KB.cell 0
      have s1 : w4.cell? ⟨q9, 1, none⟩ = some (.int .i64 cg) := KB.cell 1
      have s2 : w4.cell? ⟨q9, 2, none⟩ = some (.slice x fl.length y) := KB.cell 2
      have hkl := KB.lt
      have hwl4 := hW4.lt
      have HL5 := hid (L4.quiet (Below.refl _ _).drew)
      have HQ5 := hid ((HQ3.out.below hbB).drew)
      have HK5 := hid KB.drew
      have HR5 := hid (zAc (zAc HR3.out hbB) (Below.refl _ _).drew)
      have HAsk := hid (lw_ask HL5.out ck cg x y fl _ HR5.out HFw.out (fun r v => ∃ x ∈ ([] : List Tl), zAE v r x = true))
      clear hbB KB HL3 HQ3 HR3 L4 hW4
      go_still_tail 5, (by kernel_rfl)
      change wpList _ _ _ _ _ w4.drew
      clear c04 s0 s1 s2 hkl hwl4
      generalize w4.drew = w5 at HL5 HQ5 HK5 HR5 HAsk ⊢
      go_wp2_with fail
      refine HAsk.out.mono ?_
      rintro e w6 hd
      rcases hd with ⟨er, her, rfl, hb6⟩ | ⟨rfl, hf6, hk6, hr6, hg6⟩
      ·have e0 : (er == 0) = false := beq_eq_false_iff_ne.2 her
       have HO := hid (And.intro (HL5.out.quiet hb6) (HQ5.out.below hb6))
       clear her hb6 HL5 HQ5 HK5 HR5 HAsk
       go_wp2_with fail
       go_meet
       exact ⟨kd, T, rfl, hid HO.out.1, hid hTl, hid HO.out.2⟩
      ·have hg7 : Gs w c kb mb N 3 (2 * 4 + 3) (zCt False [] ck ⟨#[]⟩ (9437213 * i)) (585 * i) w6 := by
        rcases hg6 with h | ⟨_, h⟩
        ·exact (h.close HFw.out rfl (fun e => e.2.2)).anew
        ·exact h.anew
       obtain ⟨L7, F7⟩ := Lw.reset hg7 hr6 HL5.out.sent HL5.out.sentL HL5.out.wb0
       have Q6 := hf6.1.1 _ _ _ (by decide) HQ5.out
       have K6 := hk6.1 _ _ _ (by decide) HK5.out
       have Q7 := F7.1.1 _ _ _ (by decide) Q6
       obtain ⟨av6, hW6, _, _⟩ := hr6
       have k6 : w6.cell? ⟨q9, 0, none⟩ = some (.int .i64 ck) := K6.cell 0
       have a5 : w6.cell? ⟨wb, 5, none⟩ = some av6 := hW6.cell 5
       have f5 := hW6.free 5
       have hw6 := hW6.lt
       have HO := hid (And.intro L7 Q7)
       clear L7 F7 Q6 K6 Q7 hW6 hg7 hg6 hf6 HL5 HQ5 HK5 HR5 HAsk
       go_wp2_with fail
       go_meet
       exact ⟨ck, [], rfl, hid HO.out.1, hid (Nat.zero_le _), hid HO.out.2⟩
     ·have e3 : (ok == 3) = false := beq_eq_false_iff_ne.2 k3
      clear k3
      go_wp2_with fail
      go_meet
      exact ⟨kd, T, rfl, HLw, hid hTl, HQ⟩
    case rest =>
     obtain ⟨kd2, T2, rfl, HL5, HT5, HQ5⟩ := hcut
     clear p0 p17 p18 p19 hql hbw2 HLw HQ
     have hpt : m.pt.size ≤ 9223372036854775807 := by have := HOk.out.part; unfold maxLen at this; omega
     have HStep := hid (lw_step HL5.out (by omega) (by omega) (by have := HT5.out; omega) (by decide) ok fr m es HOk.out.ents HOk.out.len HOk.out.cap hpt tx HOk.out.text (.int .i64 ck) (.int .i64 cg) (.slice fa fs.length fc))
     have hrg2 := hid HQ5.out.range
     have hinf2 : (Tryz.prog.info? 35).map (·.size) = some 20 := by kernel_rfl
     clear hpt HL5 HQ5
     go_upto_region 14 with fail
     apply wp_region_lit
     iterate 3 go_step
     refine wpList_load_mid rfl 35 _ rfl q 0 rfl _ _ hrg2.out Tryz.underlying35 rfl hinf2 ?_
     go_wp2_with fail
     refine HStep.out.mono ?_
     rintro e w8 ⟨r, T3, L3, sv3, rfl, t1, t2, hL8, hF8⟩
     obtain ⟨av8, hW8, _, _⟩ := hL8.world
     have c08 : w8.cell? ⟨wb, 0, none⟩ = some (.pointer (some ⟨c, 0, none⟩)) := hW8.cell 0
     have hwl8 := hW8.lt
     have hT3 : T3.length ≤ 585 * (i + 1) := by have := HT5.out; omega
     have HTk := hid (lw_take (hL8.upto (show 9437213 * i + 9437213 ≤ 9437213 * (i + 1) by omega) (show 585 * i + 585 ≤ 585 * (i + 1) by omega)))
     clear HStep hrg2 hinf2 t1 t2 hL8 hF8 hW8 HT5
     go_wp2_with fail
     refine HTk.out.mono ?_
     rintro e w9 ⟨hL9, hF9, hx⟩
     have HL9 := hid hL9
     clear c08 hwl8 HTk hL9 hF9
     rcases hx with rfl | ⟨e1, g, f, fa2, ma, fl2, fc2, ml, mc, rfl, hm⟩
     ·unfold zCk
      have HL10 := hid (HL9.out.quiet ((Below.refl w9.heap.size w9).alloc (Nat.le_refl _) (.cells #[.int .i64 0, .int .i64 0, .int .i64 0, .slice none 0 0, .slice none 0 0] 51)))
      clear HL9
      go_wp2_with fail
      go_roundw
      case rel => exact ⟨kd2, i + 1, T3, L3, sv3, rfl, by go_num, by omega, by omega, hT3, HL10⟩
      case measure => simp [intOf]; omega
     ·have hb10 := (Below.refl w9.heap.size w9).alloc (Nat.le_refl _) (.cells #[.int .i64 e1, .int .i64 g, .int .i64 f, .slice fa2 fl2 fc2, .slice ma ml mc] 51)
      have QA := Blk.new w9 [.int .i64 e1, .int .i64 g, .int .i64 f, .slice fa2 fl2 fc2, .slice ma ml mc] 51
      have HL10 := hid (HL9.out.quiet hb10)
      have Hm := hid hm
      clear HL9 hb10 hm
      go_upto_region 16 with fail
      generalize w9.alloc (.cells #[.int .i64 e1, .int .i64 g, .int .i64 f, .slice fa2 fl2 fc2, .slice ma ml mc] 51) = w10 at QA HL10 ⊢
      generalize w9.heap.size = q10 at QA ⊢
      have a0 : w10.cell? ⟨q10, 0, none⟩ = some (.int .i64 e1) := QA.cell 0
      have hql10 := QA.lt
      clear QA
      by_cases h2 : kd2 < 2
      ·go_wp2_with fail
       go_roundw
       case rel => exact ⟨kd2, i + 1, T3, L3, sv3, rfl, by go_num, by omega, by omega, hT3, HL10⟩
       case measure => simp [intOf]; omega
      ·by_cases he : e1 = 0
       ·have Hwon := hid (show T3.any (fun x => decide (N < 2 * (List.range N).countP (fun v => T3.any (zAE v x.rd)))) = true by
         obtain ⟨r2, x1, x2⟩ := (Hm.out he).2 (by omega)
         exact conf_all x1 x2)
        have he1 : (e1 != 0) = false := by rw [he]; rfl
        obtain ⟨P, hP⟩ : ∃ P : Tl → Bool, P = (fun x => decide (N < 2 * (List.range N).countP (fun v => T3.any (zAE v x.rd)))) := ⟨_, rfl⟩
        rw [← hP] at Hwon
        have HP := hid hP
        clear he Hm hP
        go_wp2_with fail
        go_loopw [12, 13] (fun bv jv wr2 => ∃ (j : Nat) (bs : Bool), bv = .bool bs ∧ jv = .int .i64 (j : Int) ∧ j ≤ T3.length ∧ Hid (bs = (T3.take j).any P) ∧ Hid (Below w10.heap.size w10 wr2)) (fun _ jv _ => T3.length - (intOf jv).toNat)
        case atStart => exact ⟨0, false, rfl, rfl, Nat.zero_le _, hid (by simp), hid (Below.refl _ _)⟩
        case round =>
         obtain ⟨j, bs, rfl, rfl, hj, Hbs, HB2⟩ := hrel
         clear a0 hql10
         have hL11 := HL10.out.quiet HB2.out
         obtain ⟨av11, hW11, hA11, _⟩ := hL11.world
         by_cases hjl : j < T3.length
         ·obtain ⟨g11, cap11, hsv, hg0, hg, _, _, hcell⟩ := zAz hA11 (by omega)
          subst hsv
          obtain ⟨x, hx⟩ : ∃ x, T3[j]? = some x := ⟨_, List.getElem?_eq_getElem hjl⟩
          have d3 : wr.cell? ⟨g11, j * 5 + 3, none⟩ = some (.int .i64 x.rd) := (hcell (j * 5 + 3) (by omega)).trans (zBq hx 3 (by omega))
          have w5 : wr.cell? ⟨wb, 5, none⟩ = some (.slice (some ⟨g11, 0, none⟩) T3.length cap11) := hW11.cell 5
          have HM := hid (zIS wb N _ c kb 3 sv3 _ T3 x.rd wr hW11 hA11 hn9 (by omega))
          have hwl11 := hW11.lt
          have Hnx := hid (any_take_succ (p := P) hx)
          have HPx := hid (show decide (N < 2 * (List.range N).countP (fun v => T3.any (zAE v x.rd))) = P x by rw [HP.out])
          clear hcell hx hW11 hA11 hL11
          cases bs with
          | true =>
           have Hn2 := hid (show true = (T3.take (j + 1)).any P by rw [Hnx.out, ← Hbs.out]; rfl)
           clear Hnx HPx HM Hbs
           go_wp2_with fail
           go_roundw
           case rel => exact ⟨j + 1, true, rfl, by go_num, by omega, Hn2, HB2⟩
           case measure => simp [intOf]; omega
          | false =>
           have Hn2 := hid (show P x = (T3.take (j + 1)).any P by rw [Hnx.out, ← Hbs.out]; rfl)
           rw [HPx.out] at HM
           clear Hnx HPx Hbs
           go_wp2_with fail
           refine HM.out.mono ?_
           rintro e w12 ⟨rfl, hb12⟩
           have HB3 := hid (zAd HB2.out hb12)
           clear hb12 HM
           go_wp2_with fail
           go_roundw
           case rel => exact ⟨j + 1, P x, rfl, by go_num, by omega, Hn2, HB3⟩
           case measure => simp [intOf]; omega
         ·obtain rfl : j = T3.length := by omega
          have w5 : wr.cell? ⟨wb, 5, none⟩ = some av11 := hW11.cell 5
          obtain ⟨ga, gc, rfl⟩ := zAe hA11
          have hwl11 := hW11.lt
          have hbt : bs = true := by rw [Hbs.out, List.take_length, Hwon.out]
          subst hbt
          have HL12 := hid hL11
          clear hW11 hA11 hL11 Hbs HB2
          go_wp2_with fail
          go_roundw
          case rel => exact ⟨kd2, i + 1, T3, L3, sv3, rfl, by go_num, by omega, by omega, hT3, HL12⟩
          case measure => simp [intOf]; omega
       ·have he1 : (e1 != 0) = true := by rw [bne_iff_ne]; exact he
        clear he
        go_wp2_with fail
        go_roundw
        case rel => exact ⟨kd2, i + 1, T3, L3, sv3, rfl, by go_num, by omega, by omega, hT3, HL10⟩
        case measure => simp [intOf]; omega
   ·have hbw : Below w.heap.size w wr := by obtain ⟨_, _, g⟩ := HX.out.gs; exact g.gf.below
    clear HX
    by_cases h1 : i < sl
    ·have h2 : ¬ ((i : Int) < 60) := by omega
     go_wp2_with fail
     refine (zCd _).mono ?_
     rintro e w9 ⟨rfl, hb9⟩
     go_wp2_with fail
     go_ret
     exact ⟨rfl, zAd hbw hb9⟩
    ·go_wp2_with fail
     refine (zCd _).mono ?_
     rintro e w9 ⟨rfl, hb9⟩
     go_wp2_with fail
     go_ret
     exact ⟨rfl, zAd hbw hb9⟩
 ·go_enter Tryz.func4, Tryz.ntmps4
  go_wp2_with fail
  refine (fresh_no 3 n 2 _ (by unfold NewOk; omega)).mono ?_
  rintro e w1 ⟨rfl, hbw⟩
  go_wp2_with fail
  refine (zCd _).mono ?_
  rintro e w9 ⟨rfl, hb9⟩
  go_wp2_with fail
  go_ret
  exact ⟨rfl, zAd hbw hb9⟩
end Go.Proofs.YtaemlplcjjbamaaGreatDoor
