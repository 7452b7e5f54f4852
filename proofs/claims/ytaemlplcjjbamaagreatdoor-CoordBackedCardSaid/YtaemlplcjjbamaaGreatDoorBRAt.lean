/- The walk of a coordinator's promise. Conditions: tops of pro -/
import Derived.Test.YtaemlplcjjbamaaGreatDoorBPRow
import Derived.StillTailTactics
import Derived.Deep.RegionLaw
import Derived.Deep.DrawnRows
import Derived.Deep.AppendSrc
namespace Go.Proofs.YtaemlplcjjbamaaGreatDoor
open Go.Lib (hid)
set_option maxRecDepth 100000
set_option maxHeartbeats 8000000
open Go.RowKit
variable {P : Program} {T : TypeId} {ad : Option Addr} {b base cap g k n sz : Nat} {cs xs : List Value} {row : Option Nat} {v : Value} {w w' w0 : World}
attribute [local go_sem ↓] Go.wp_at_zero Go.wp_at_succ
theorem zAb.setPromises {c : CSt} (h : zAb w b c) (v : Value) : zAb (w.setCell ⟨b, 10, none⟩ v) b { c with promises := v } := ⟨h.1.set 10 v, h.2⟩
theorem zAb.setPhase {c : CSt} (h : zAb w b c) (x : Int) : zAb (w.setCell ⟨b, 4, none⟩ (.int .i64 x)) b { c with phase := x } := ⟨h.1.set 4 _, h.2⟩
theorem zAb.setFloor {c : CSt} (h : zAb w b c) (x : Int) : zAb (w.setCell ⟨b, 5, none⟩ (.int .i64 x)) b { c with floor := x } := ⟨h.1.set 5 _, h.2⟩
theorem zAb.setTop {c : CSt} (h : zAb w b c) (x : Int) : zAb (w.setCell ⟨b, 6, none⟩ (.int .i64 x)) b { c with top := x } := ⟨h.1.set 6 _, h.2⟩
theorem zAb.setChosen {c : CSt} (h : zAb w b c) (v : Value) : zAb (w.setCell ⟨b, 7, none⟩ v) b { c with chosen := v } := ⟨h.1.set 7 v, h.2⟩
theorem zAb.setAgain {c : CSt} (h : zAb w b c) (v : Value) : zAb (w.setCell ⟨b, 11, none⟩ v) b { c with again := v } := ⟨h.1.set 11 v, h.2⟩
theorem zAb.grown {c : CSt} (h : zAb w b c) (hg : w.grownBy w' row) (hr : row ≠ some b) : zAb w' b c := ⟨zAr h.1 hg hr, h.2⟩
def zDW (w0 w : World) (v : Value) (ps : List Prom) : Prop := ∃ cs, w.ownsRow w0.heap.size 171 3 v ps.length cs ∧ PRow w0 ps cs
structure Prep (w0 w : World) (c t : Nat) (S : CSt) (n : Nat) (m : List Bool) (ps : List Prom) (qs : List Peer) : Prop where
 at_ : zAb w c S
 n_ : S.n = (n : Int)
 n1 : 1 ≤ n
 n9 : n ≤ 9
 promised : S.promised = .pointer (some ⟨t, 0, none⟩)
 tally : zAi w t n m
 row : zDW w0 w S.promises ps
 peers : S.peers = zAg qs
 qs9 : qs.length = 9
 below : Below w0.heap.size w0 w
 c0 : w0.heap.size ≤ c
 t0 : w0.heap.size ≤ t
def zEE (c t : Nat) (S : CSt) : Nat → Prop := fun k => k = c ∨ k = t ∨ S.promises.ownBlock = some k
theorem zIK {c t : Nat} {S : CSt} (hc : w0.heap.size ≤ c) (ht : w0.heap.size ≤ t) (hr : w.ownsRow w0.heap.size 171 3 S.promises k cs) : ∀ b, b < w0.heap.size → ¬ zEE c t S b := by
 intro b hb h
 rcases h with h | h | h
 ·omega
 ·omega
 ·have := (zCe hr h).1
  omega
theorem zHY : (Tryz.prog.info? 4).map (fun i => (i.zero, i.size, i.bytes)) = some (some (.bool false), 1, 1) := by kernel_rfl
theorem zero_getD (i : Nat) : (List.replicate 9 false).getD i false = false := by
 rw [List.getD, List.getElem?_replicate]; split <;> rfl
open Go Go.RowKit
set_option linter.unusedVariables false
attribute [local go_sem ↓] Go.wp_at_zero Go.wp_at_succ
theorem info_en : (Tryz.prog.info? 102).map (fun i => (i.zero, i.size, i.bytes)) = some (some (.agg #[.int .i64 0, .int .i64 0, .string ⟨#[]⟩]), 3, 32) := by kernel_rfl
theorem zAb.setJob {c : CSt} (h : zAb w b c) (v : Value) : zAb (w.setCell ⟨b, 84, none⟩ v) b { c with job := v } := h.setFt 0 v _ rfl rfl rfl
theorem zGb (b : Nat) (c : CSt) (kind v to' bal gen basis fl tp rd pa po : Int) (mk pt : ByteArray) (ls : Value) (w : World) (h : zAb w b c) (hj : c.job = .pointer none) :
  Calls Tryz.prog 86 #[.pointer (some ⟨b, 0, none⟩), .agg #[.int .i64 kind, .int .i64 v, .int .i64 to', .int .i64 bal, .int .i64 gen, .int .i64 basis, .int .i64 fl, .int .i64 tp, .int .i64 rd, .string mk, .int .i64 pa, .int .i64 po, .string pt, ls]] w fun e w' => e = .returned (.tuple #[]) ∧ Below w.heap.size w w' := by
 have hbl := h.1.lt
 have c84 : w.cell? ⟨b, 84, none⟩ = some (.pointer none) := by have := h.ft 0; rw [← hj]; exact this
 clear h hj
 go_enter Tryz.func86, Tryz.ntmps86
 go_wp2
 go_quiet (fail)
 go_wp2
 refine bodyPost_ret (results_none rfl _ _ _) rfl ?_
 exact ⟨rfl, below_drewN ((Below.refl _ _).alloc (Nat.le_refl _) _) _⟩
theorem info_toldC : (Tryz.prog.info? 57).map (fun i => (i.zero, i.size, i.bytes)) = some (some (.agg #[.int .i64 0, .int .i64 0, .int .i64 0, .int .i64 0, .string ByteArray.empty]), 5, 48) := by kernel_rfl
def zCY (c bk : Nat) (id n : Int) (sv av : Value) : List Value := [.pointer (some ⟨c, 0, none⟩), .pointer (some ⟨bk, 0, none⟩), .int .i64 id, .int .i64 n, sv, av, .int .i64 0]
def zGH (wb : Nat) (av : Value) : Nat → Prop := fun j => j = wb ∨ av.ownBlock = some j
def MergeW (w : World) (e : Ending) (w' : World) : Prop :=
 ∃ (f t : Int) (v1 v2 : Value) (L1 L2 : List Ent), e = .returned (.tuple #[.int .i64 f, .int .i64 t, v1, v2]) ∧ w'.ownsRow w.heap.size 102 3 v1 L1.length (zAs L1) ∧ w'.ownsRow w.heap.size 102 3 v2 L2.length (zAs L2) ∧ L1.length ≤ 64 ∧ L2.length ≤ 16 ∧ (∀ g, v1.ownBlock = some g → v2.ownBlock ≠ some g) ∧ Below w.heap.size w w'
theorem zGY {x F : Int} (h : wrap64 (x - F) = (k : Int)) (hk : k < 1000) : wrap64 (wrap64 (x + 1) - F) = ((k + 1 : Nat) : Int) := by
 unfold wrap64 at h ⊢
 omega
theorem gmerge_any (ad : Option Addr) (cap : Nat) (ps : List Prom) (w : World) (hl : ps.length ≤ 1000000) (hll : ∀ p ∈ ps, p.list.length ≤ 1000000) (h : zDg w ad ps) :
  Calls Tryz.prog 102 #[.slice ad ps.length cap] w (MergeW w) := by
 have H := hid h
 have Hll := hid hll
 clear h hll
 go_enter Tryz.func102, Tryz.ntmps102
 go_wp2
 go_loopw [2, 3, 16] (fun f t i wr => ∃ (k : Nat) (a b : Int), i = .int .i64 k ∧ k ≤ ps.length ∧ f = .int .i64 a ∧ t = .int .i64 b ∧ Below w.heap.size w wr) (fun _ _ i _ => ps.length - (intOf i).toNat)
 case atStart => exact ⟨0, 0, 0, rfl, Nat.zero_le _, rfl, rfl, Below.refl _ _⟩
 case round =>
  obtain ⟨i, a, b, rfl, hi, rfl, rfl, hbr⟩ := hrel
  by_cases hlt : i < ps.length
  ·obtain ⟨bl, off, la, lc, rfl, hbs, c0, c1, c2, _⟩ := zDe H.out i hlt
   replace c0 := (hbr.cell (p := ⟨bl, off + i * 3, none⟩) hbs).trans c0
   replace c1 := (hbr.cell (p := ⟨bl, off + i * 3 + 1, none⟩) hbs).trans c1
   replace c2 := (hbr.cell (p := ⟨bl, off + i * 3 + 2, none⟩) hbs).trans c2
   obtain ⟨p, hp⟩ : ∃ p, p = ps[i] := ⟨_, rfl⟩
   rw [← hp] at c0 c1 c2
   clear hp
   have hbr2 := hbr.alloc hbr.size (.cells #[.int .i64 p.floor, .int .i64 p.top, .slice la p.list.length lc] 171)
   go_wp2
   go_quiet (fail)
   go_wp2
   go_roundw
   case rel => exact ⟨i + 1, max a p.floor, max b p.top, by go_num, by omega, rfl, rfl, below_drewN hbr2 _⟩
   case measure => simp [intOf]; omega
  ·have hi' : i = ps.length := by omega
   subst hi'
   obtain ⟨F, hF⟩ : ∃ F, F = min a b := ⟨_, rfl⟩
   have HF := hid hF
   clear hF hlt hi
   obtain ⟨wo, rfl⟩ : ∃ wo : World, wo = wr := ⟨_, rfl⟩
   go_wp2
   rw [← HF.out]
   go_loopw [4, 8] (fun v g wr => ∃ (k : Nat) (x : Int) (L : List Ent), g = .int .i64 x ∧ k ≤ 64 ∧ Hid (wrap64 (x - F) = (k : Int)) ∧ L.length ≤ k ∧ Hid (wr.ownsRow w.heap.size 102 3 v L.length (zAs L)) ∧ Below w.heap.size w wr) (fun _ g _ => (64 - wrap64 (intOf g - F)).toNat)
   case atStart => exact ⟨0, F, [], rfl, Nat.zero_le _, hid (by unfold wrap64; omega), Nat.le_refl _, hid (World.ownsRow_nil _ _ _ _), hbr⟩
   case round =>
    obtain ⟨k, x, L, rfl, hk, hxk, hL, hown, hbw⟩ := hrel
    by_cases hlt : k < 64 ∧ x < b
    ·obtain ⟨hlt1, hlt2⟩ := hlt
     have h2 : wrap64 (x - F) < 64 := by rw [hxk.out]; omega
     have hpw := hid (zAV H.out hbw)
     have Hnx := hid (zGY hxk.out (by omega))
     have Hms := hid (show (64 - wrap64 (intOf (.int .i64 (wrap64 (x + 1))) - F)).toNat < (64 - wrap64 (intOf (.int .i64 x) - F)).toNat by
      show (64 - wrap64 (wrap64 (x + 1) - F)).toNat < (64 - wrap64 (x - F)).toNat
      rw [Hnx.out, hxk.out]; omega)
     clear hxk
     go_wp2_with fail
     refine (known_any ad cap ps x _ hl Hll.out hpw.out).mono ?_
     rintro e w1 ⟨rfl, hb1⟩
     have hown1 := hid (zAc hown.out hb1)
     have hbw1 := zAd hbw hb1
     clear hb1 hown hbw hpw
     cases hkn : zFl ps x with
     | none =>
      clear hkn
      simp only [zGs]
      have hb2 := hbw1.alloc hbw1.size (.cells #[.int .i64 0, .int .i64 0, .string ⟨#[]⟩] 102)
      have hown2 := hid (hown1.out.alloc (.cells #[.int .i64 0, .int .i64 0, .string ⟨#[]⟩] 102))
      go_wp2_with fail
      go_roundw
      case rel => exact ⟨k + 1, _, L, rfl, by omega, Hnx, by omega, hown2, hb2⟩
      case measure => exact Hms.out
     | some m =>
      clear hkn
      simp only [zGs]
      have hb2 := hbw1.alloc hbw1.size (.cells #[.int .i64 x, .int .i64 0, .string m] 102)
      have hown2 := hown1.out.alloc (.cells #[.int .i64 x, .int .i64 0, .string m] 102)
      have hL64 : L.length ≤ 64 := by omega
      go_wp2_with (at_builtin; refine zAH rfl _ _ 28 rfl w.heap.size 102 3 32 Tryz.underlying28 _ zFQ rfl (by decide) _ _ _ rfl hown2 _ (by simp) [.int .i64 x, .int .i64 0, .string m] rfl rfl (by simp [Value.oneCell']) ?c1 ?c2 ?c3 ?_)
      case c1 => unfold maxLen; omega
      case c2 => omega
      case c3 => exact hb2.size
      intro v' w3 hown3 hb3
      have Hown3 : Hid (w3.ownsRow w.heap.size 102 3 v' (L ++ [(⟨x, 0, m⟩ : Ent)]).length (zAs (L ++ [(⟨x, 0, m⟩ : Ent)]))) := by
       show w3.ownsRow w.heap.size 102 3 v' (L ++ [(⟨x, 0, m⟩ : Ent)]).length _
       rw [zCp, List.length_append]
       exact hown3
      clear hown3 hown2 hown1
      go_wp2_with fail
      go_roundw
      case rel => exact ⟨k + 1, _, L ++ [(⟨x, 0, m⟩ : Ent)], rfl, by omega, Hnx, by simp; omega, Hown3, hb2.trans hb3⟩
      case measure => exact Hms.out
    ·have hL64 : L.length ≤ 64 := by omega
     have hpw := hid (zAV H.out hbw)
     obtain ⟨w2, rfl⟩ : ∃ w2 : World, w2 = wr := ⟨_, rfl⟩
     have hcase : (x < b ∧ ¬ wrap64 (x - F) < 64) ∨ ¬ x < b := by
      rw [hxk.out]
      omega
     clear H hlt hxk
     rcases hcase with ⟨hx1, hx2⟩ | hx1
     all_goals
      go_wp2_with fail
      go_loopw [5, 11] (fun v g wr => ∃ (j : Nat) (y : Int) (L2 : List Ent), g = .int .i64 y ∧ j ≤ 16 ∧ Hid (wrap64 (y - b) = (j : Int)) ∧ L2.length ≤ j ∧ Hid (wr.ownsRow w2.heap.size 102 3 v L2.length (zAs L2)) ∧ Below w2.heap.size w2 wr) (fun _ g _ => (16 - wrap64 (intOf g - b)).toNat)
      case atStart => exact ⟨0, b, [], rfl, Nat.zero_le _, hid (by unfold wrap64; omega), Nat.le_refl _, hid (World.ownsRow_nil _ _ _ _), Below.refl _ _⟩
      case round =>
       obtain ⟨j, y, L2, rfl, hj, hyj, hL2, hown3, hb3⟩ := hrel
       by_cases hlt : j < 16
       ·have h2 : wrap64 (y - b) < 16 := by rw [hyj.out]; omega
        have hpw3 := hid (zAV hpw.out hb3)
        have Hnx := hid (zGY hyj.out (by omega))
        have Hms := hid (show (16 - wrap64 (intOf (.int .i64 (wrap64 (y + 1))) - b)).toNat < (16 - wrap64 (intOf (.int .i64 y) - b)).toNat by
         show (16 - wrap64 (wrap64 (y + 1) - b)).toNat < (16 - wrap64 (y - b)).toNat
         rw [Hnx.out, hyj.out]; omega)
        clear hyj
        go_wp2_with fail
        refine (zIt ad cap ps y _ hl Hll.out hpw3.out).mono ?_
        rintro e w4 ⟨rfl, hb4⟩
        have hown4 := hid (zAc hown3.out hb4)
        have hb04 := zAd hb3 hb4
        clear hb4 hown3 hb3 hpw3
        cases hkn : zED ps y with
        | none =>
         clear hkn
         simp only [zEv, entAgg, zEnt, Option.getD_none, Option.isSome_none]
         have hb5 := hb04.alloc hb04.size (.cells #[.int .i64 0, .int .i64 0, .string ⟨#[]⟩] 102)
         have hown5 := hid (hown4.out.alloc (.cells #[.int .i64 0, .int .i64 0, .string ⟨#[]⟩] 102))
         go_wp2_with fail
         refine bodyPost_ret (zAv rfl _ _ _) rfl ?_
         exact ⟨_, _, _, _, L, L2, rfl, zAc hown.out hb5, zAB hown5.out hbw.size, hL64, by omega, (fun g h1 h2 => by have := (hown.out.lt g h1).2; have := (hown5.out.lt g h2).1; omega), hbw.trans (hb5.mono hbw.size)⟩
        | some z =>
         clear hkn
         simp only [zEv, entAgg, Option.getD_some, Option.isSome_some]
         have hb5 := hb04.alloc hb04.size (.cells #[.int .i64 z.gen, .int .i64 z.bal, .string z.mark] 102)
         have hown5 := hown4.out.alloc (.cells #[.int .i64 z.gen, .int .i64 z.bal, .string z.mark] 102)
         go_wp2_with (at_builtin; refine zAH rfl _ _ 28 rfl w2.heap.size 102 3 32 Tryz.underlying28 _ zFQ rfl (by decide) _ _ _ rfl hown5 _ (by simp) [.int .i64 z.gen, .int .i64 z.bal, .string z.mark] rfl rfl (by simp [Value.oneCell']) ?c1 ?c2 ?c3 ?_)
         case c1 => unfold maxLen; omega
         case c2 => omega
         case c3 => exact hb5.size
         intro v' w6 hown6 hb6
         have Hown6 : Hid (w6.ownsRow w2.heap.size 102 3 v' (L2 ++ [z]).length (zAs (L2 ++ [z]))) := by
          show w6.ownsRow w2.heap.size 102 3 v' (L2 ++ [z]).length _
          rw [zCp, List.length_append]
          exact hown6
         clear hown6 hown5 hown4
         go_wp2_with fail
         go_roundw
         case rel => exact ⟨j + 1, _, L2 ++ [z], rfl, by omega, Hnx, by simp; omega, Hown6, hb5.trans hb6⟩
         case measure => exact Hms.out
       ·have h2 : ¬ wrap64 (y - b) < 16 := by rw [hyj.out]; omega
        clear hyj
        go_wp2_with fail
        refine bodyPost_ret (zAv rfl _ _ _) rfl ?_
        exact ⟨_, _, _, _, L, L2, rfl, zAc hown.out hb3, zAB hown3.out hbw.size, hL64, by omega, (fun g h1 h2 => by have := (hown.out.lt g h1).2; have := (hown3.out.lt g h2).1; omega), hbw.trans (hb3.mono hbw.size)⟩
def GPromSays (w0 : World) (c t : Nat) (S : CSt) (n : Nat) (m : List Bool) (ps : List Prom) (qs : List Peer) (v : Nat) (p : Prom) (w : World) (e : Ending) (w' : World) : Prop :=
 e = .returned (.tuple #[]) ∧ Touch (zEE c t S) w w' ∧
 (wonT (addTo m v n) n = false → ∃ v', Prep w0 w' c t { S with promises := v', peers := zAg (qs.set v (zAQ (qs.getD v ⟨false, 0, 0, 0, ⟨#[]⟩, false, 0, .pointer none⟩) p.floor p.top)) } n (addTo m v n) (ps ++ [p]) (qs.set v (zAQ (qs.getD v ⟨false, 0, 0, 0, ⟨#[]⟩, false, 0, .pointer none⟩) p.floor p.top)) ∧ ∀ g, v'.ownBlock = some g → S.promises.ownBlock = some g ∨ w.heap.size ≤ g) ∧
 (wonT (addTo m v n) n = true → ∃ (f tpp : Int) (v1 v2 : Value) (L1 L2 : List Ent), zAb w' c { S with promises := .slice none 0 0, peers := zAg (qs.set v (zAQ (qs.getD v ⟨false, 0, 0, 0, ⟨#[]⟩, false, 0, .pointer none⟩) p.floor p.top)), floor := f, top := tpp, chosen := v1, again := v2, phase := 2 } ∧
  w'.ownsRow w.heap.size 102 3 v1 L1.length (zAs L1) ∧ w'.ownsRow w.heap.size 102 3 v2 L2.length (zAs L2) ∧ zAi w' t n (addTo m v n) ∧ L1.length ≤ 64 ∧ L2.length ≤ 16 ∧ ∀ g, v1.ownBlock = some g → v2.ownBlock ≠ some g)
theorem zJw (w0 : World) (c t : Nat) (S : CSt) (n : Nat) (m : List Bool) (ps : List Prom) (qs : List Peer) (v : Nat) (kind to' bal gen basis fl tp rd pa po : Int) (mk pt : ByteArray) (la : Option Addr) (lc : Nat) (es : List Ent) (w : World)
  (h : Prep w0 w c t S n m ps qs) (hv : v < n) (hm : m.getD v false = false) (hps : ps.length ≤ 200000) (hes : zBf w0 la es) (hll : ∀ p ∈ ps ++ [(⟨fl, tp, es⟩ : Prom)], p.list.length ≤ 1000000) :
  Calls Tryz.prog 79 #[.pointer (some ⟨c, 0, none⟩), .agg #[.int .i64 kind, .int .i64 (v : Int), .int .i64 to', .int .i64 bal, .int .i64 gen, .int .i64 basis, .int .i64 fl, .int .i64 tp, .int .i64 rd, .string mk, .int .i64 pa, .int .i64 po, .string pt, .slice la es.length lc]] w (GPromSays w0 c t S n m ps qs v ⟨fl, tp, es⟩ w) := by
 obtain ⟨hat, hn, hn1, hn9, hpr, htl, ⟨cs, hrow, hpw⟩, hqs, hq9, hbel, hc0, ht0⟩ := h
 have hcl := hat.1.lt
 have htlt := htl.1.lt
 have c9 : w.cell? ⟨c, 9, none⟩ = some (.pointer (some ⟨t, 0, none⟩)) := by rw [← hpr]; exact hat.hd 9 (by omega)
 have c10 : w.cell? ⟨c, 10, none⟩ = some S.promises := hat.hd 10 (by omega)
 have hne : c ≠ t := hat.1.ne htl.1 (by decide)
 have Hat := hid hat
 have Htl := hid htl
 have Hrow := hid hrow
 have Hpw := hid hpw
 have Hqs := hid hqs
 have Hpr := hid hpr
 have Hn := hid hn
 have Hm := hid hm
 have Hes := hid hes
 have Hll := hid hll
 have Hbase := hid (zIK (t := t) hc0 ht0 hrow)
 have hvq : v < qs.length := by omega
 have hqv : qs.getD v ⟨false, 0, 0, 0, ⟨#[]⟩, false, 0, .pointer none⟩ = qs[v] := by rw [List.getD, List.getElem?_eq_getElem hvq]; rfl
 have Hqv := hid hqv
 clear hat htl hrow hpw hqs hpr hn hm hes hll hqv
 go_enter Tryz.func79, Tryz.ntmps79
 go_wp2
 have Htl1 := hid (show zAi (w.alloc (.cells #[.int .i64 kind, .int .i64 (v : Int), .int .i64 to', .int .i64 bal, .int .i64 gen, .int .i64 basis, .int .i64 fl, .int .i64 tp, .int .i64 rd, .string mk, .int .i64 pa, .int .i64 po, .string pt, .slice la es.length lc] 30)) t n m from ⟨Htl.out.1.alloc _, Htl.out.2⟩)
 go_quiet ((go_at_call 51; first | exact zAf (zDF t n m v _ (Htl1.out.drewN _) hv) | exact quiet_add_left (zDF t n m v _ (Htl1.out.drewN _) hv)))
 rw [Hm.out]
 go_wp2
 have M1 := (Blk.new w [.int .i64 kind, .int .i64 (v : Int), .int .i64 to', .int .i64 bal, .int .i64 gen, .int .i64 basis, .int .i64 fl, .int .i64 tp, .int .i64 rd, .string mk, .int .i64 pa, .int .i64 po, .string pt, .slice la es.length lc] 30).drewN nq
 have At1 := (Hat.out.alloc (.cells #[.int .i64 kind, .int .i64 (v : Int), .int .i64 to', .int .i64 bal, .int .i64 gen, .int .i64 basis, .int .i64 fl, .int .i64 tp, .int .i64 rd, .string mk, .int .i64 pa, .int .i64 po, .string pt, .slice la es.length lc] 30)).drewN nq
 have Tl1 := Htl1.out.drewN nq
 have hb1 := below_drewN ((Below.refl w.heap.size w).alloc (Nat.le_refl _) (.cells #[.int .i64 kind, .int .i64 (v : Int), .int .i64 to', .int .i64 bal, .int .i64 gen, .int .i64 basis, .int .i64 fl, .int .i64 tp, .int .i64 rd, .string mk, .int .i64 pa, .int .i64 po, .string pt, .slice la es.length lc] 30)) nq
 have Row1 := zAc Hrow.out hb1
 generalize (w.alloc (.cells #[.int .i64 kind, .int .i64 (v : Int), .int .i64 to', .int .i64 bal, .int .i64 gen, .int .i64 basis, .int .i64 fl, .int .i64 tp, .int .i64 rd, .string mk, .int .i64 pa, .int .i64 po, .string pt, .slice la es.length lc] 30)).drewN nq = w1 at M1 At1 Tl1 hb1 Row1 ⊢
 obtain ⟨q, hq⟩ : ∃ q, q = w.heap.size := ⟨_, rfl⟩
 rw [← hq] at M1 ⊢
 have hqc : c < q := by omega
 have hqt : t < q := by omega
 clear hq
 have d9 : w1.cell? ⟨c, 9, none⟩ = some (.pointer (some ⟨t, 0, none⟩)) := by rw [← Hpr.out]; exact At1.hd 9 (by omega)
 have m1 : w1.cell? ⟨q, 1, none⟩ = some (.int .i64 (v : Int)) := M1.cell 1
 have HM1 := hid M1
 have HAt1 := hid At1
 have HTl1 := hid Tl1
 have HRow1 := hid Row1
 clear M1 At1 Tl1 Row1 c9 c10 Htl1 Htl Hat Hrow
 go_still_tail 6, (by kernel_rfl)
 change wpList _ _ _ _ _ w1.drew
 have At2 := HAt1.out.drew
 have Tl2 : zAi w1.drew t n m := HTl1.out
 have M2 := HM1.out.drew
 have Row2 := zAc HRow1.out (Below.refl _ _).drew
 have hb2 := hb1.drew
 generalize w1.drew = w2 at At2 Tl2 M2 Row2 hb2 ⊢
 have HAt2 := hid At2
 have HM2 := hid M2
 have HRow2 := hid Row2
 have HTl2 := hid Tl2
 clear At2 M2 Row2 Tl2 HTl1 HM1 HAt1 HRow1 d9 m1 hb1
 have e1 : isOne (v : Int) n = true := by unfold isOne; simp; omega
 have hadd := zDS t n m v w2 HTl2.out
 rw [e1] at hadd
 have HAdd := hid hadd
 clear hadd e1
 go_wp2_with fail
 refine HAdd.out.mono ?_
 rintro e w3 ⟨rfl, Tl3, T3⟩
 clear HAdd
 have HT3 := hid Tl3
 have At3 : zAb w3 c S := ⟨HAt2.out.1.touch T3 hne, HAt2.out.2⟩
 have M3 := HM2.out.touch T3 (by omega)
 have Row3 := zAj HRow2.out T3 (fun g hg e => zAp HRow2.out HTl2.out.1 (by decide) (by rw [hg, e]))
 have HAt3 := hid At3
 have HM3 := hid M3
 have HRow3 := hid Row3
 have hcl3 := At3.1.lt
 have d10 : w3.cell? ⟨c, 10, none⟩ = some S.promises := At3.hd 10 (by omega)
 have m6 : w3.cell? ⟨q, 6, none⟩ = some (.int .i64 fl) := M3.cell 6
 have m7 : w3.cell? ⟨q, 7, none⟩ = some (.int .i64 tp) := M3.cell 7
 have m13 : w3.cell? ⟨q, 13, none⟩ = some (.slice la es.length lc) := M3.cell 13
 have hTT : Touch (zEE c t S) w w3 := (Touch.of_below hb2).trans (T3.mono (fun k _ e => Or.inr (Or.inl e)))
 clear Tl3 At3 M3 Row3 T3 HAt2 HM2 HRow2 HTl2
 go_wp2
 have hown3 := HRow3.out
 have hnc : S.promises.ownBlock ≠ some c := zAp hown3 HAt3.out.1 (by decide)
 have hnq : S.promises.ownBlock ≠ some q := zAp hown3 HM3.out (by decide)
 have hcq : c ≠ q := by omega
 have hql := HM3.out.lt
 have f10 := HAt3.out.1.free 10
 have hfa : ∀ o : Obj, (w3.alloc o).drew.frozen? ⟨c, 10, none⟩ = false := fun o => (HAt3.out.1.alloc o).drew.free 10
 have hfb : ∀ o : Obj, (w3.alloc o).frozen? ⟨c, 10, none⟩ = false := fun o => (HAt3.out.1.alloc o).free 10
 obtain ⟨i0, hi0, hz0, hz1, hz2⟩ := info_parts zHG
 have hbase3 : w0.heap.size ≤ w3.heap.size := Nat.le_trans hbel.size hTT.size
 have hnt : S.promises.ownBlock ≠ some t := zAp hown3 HT3.out.1 (by decide)
 go_cut [] (fun wx => ∃ v', Hid (zAb wx c { S with promises := v' }) ∧ Hid (zAi wx t n (addTo m v n)) ∧ Hid (Blk wx q [.int .i64 kind, .int .i64 (v : Int), .int .i64 to', .int .i64 bal, .int .i64 gen, .int .i64 basis, .int .i64 fl, .int .i64 tp, .int .i64 rd, .string mk, .int .i64 pa, .int .i64 po, .string pt, .slice la es.length lc] 30) ∧
  Hid (wx.ownsRow w0.heap.size 171 3 v' (ps.length + 1) (cs ++ [.int .i64 fl, .int .i64 tp, .slice la es.length lc])) ∧ (∀ g, v'.ownBlock = some g → S.promises.ownBlock = some g ∨ w.heap.size ≤ g) ∧ Touch (zEE c t S) w wx)
 case first =>
  go_region_law
    ((refine step_append_lies _ (by rfl) _ _ _ (by rfl) w0.heap.size 171 i0 _ 3 40 Tryz.underlying68 hi0 hz0 hz1 hz2 rfl (by omega) S.promises ps.length cs (by rfl) ((hown3.alloc _).drew) ⟨w3.heap.size, 0, none⟩ 1 1 [.int .i64 fl, .int .i64 tp, .slice la es.length lc] (by rfl) (by rfl) (World.news_of_block (cs := #[.int .i64 fl, .int .i64 tp, .slice la es.length lc]) (t := 171) (fr := (0, 0)) (heap_alloc_new w3 _)) (by simp [Value.oneCell']) (by omega) (by unfold maxLen; omega) (by omega) (by simp; omega) (w3.heap.size + 1) (by simp) ?_; intro gg cap w4 hown4 hgrow hat hlt; have hc4 := hgrow.cell_far ⟨c, 10, none⟩ (by simp; omega) (Ne.symm hnc); have hf4 := hgrow.frozen_far ⟨c, 10, none⟩ (by simp; omega) (Ne.symm hnc)))
  all_goals go_wp2_with fail
  all_goals go_meet
  all_goals
   have hgc : gg ≠ c := by
    rcases hat with e | e
    ·intro e2; exact hnc (by rw [e, e2])
    ·omega
   have q1 := (((HAt3.out.alloc (.cells #[.int .i64 fl, .int .i64 tp, .slice la es.length lc] 171)).drew).grown hgrow hnc).setPromises (.slice (some ⟨gg, 0, none⟩) (ps.length + 1) cap)
   have q2 : zAi (w4.setCell ⟨c, 10, none⟩ (.slice (some ⟨gg, 0, none⟩) (ps.length + 1) cap)) t n (addTo m v n) := ⟨(zAr ((HT3.out.1.alloc (.cells #[.int .i64 fl, .int .i64 tp, .slice la es.length lc] 171)).drew) hgrow hnt).set_other (Ne.symm hne) _, HT3.out.2⟩
   have q3 := (zAr ((HM3.out.alloc (.cells #[.int .i64 fl, .int .i64 tp, .slice la es.length lc] 171)).drew) hgrow hnq).set_other (a := ⟨c, 10, none⟩) (Ne.symm hcq) (.slice (some ⟨gg, 0, none⟩) (ps.length + 1) cap)
   refine ⟨_, q1, q2, q3, ?_, ?_, ?_⟩
   ·exact zAj hown4 ((Touch.refl (fun k => k = c) w4).set (p := ⟨c, 10, none⟩) (Or.inl rfl) _) (fun g hg e => hgc (by simp [Value.ownBlock] at hg; omega))
   ·intro g hg
    have hgg : gg = g := by simpa [Value.ownBlock] using hg
    subst hgg
    have := hTT.size
    rcases hat with e | e
    ·exact Or.inl e
    ·exact Or.inr (by omega)
   ·exact (zAm ((hTT.alloc (.cells #[.int .i64 fl, .int .i64 tp, .slice la es.length lc] 171)).drew) hgrow (fun g hg => Or.inl (Or.inr (Or.inr hg)))).set (p := ⟨c, 10, none⟩) (Or.inl (Or.inl rfl)) _
 case rest =>
  obtain ⟨v', HAt5, HT5, HM5, HRow5, hv5, hTT5⟩ := hcut
  clear d10 m6 m7 m13 hown3 hnc hnq hnt f10 hfa hfb HAt3 HT3 HM3 HRow3 hTT hcl3 hbase3 hql
  have m0 : wc.cell? ⟨q, 0, none⟩ = some (.int .i64 kind) := HM5.out.cell 0
  have m1 : wc.cell? ⟨q, 1, none⟩ = some (.int .i64 (v : Int)) := HM5.out.cell 1
  have m2 : wc.cell? ⟨q, 2, none⟩ = some (.int .i64 to') := HM5.out.cell 2
  have m3 : wc.cell? ⟨q, 3, none⟩ = some (.int .i64 bal) := HM5.out.cell 3
  have m4 : wc.cell? ⟨q, 4, none⟩ = some (.int .i64 gen) := HM5.out.cell 4
  have m5 : wc.cell? ⟨q, 5, none⟩ = some (.int .i64 basis) := HM5.out.cell 5
  have m6 : wc.cell? ⟨q, 6, none⟩ = some (.int .i64 fl) := HM5.out.cell 6
  have m7 : wc.cell? ⟨q, 7, none⟩ = some (.int .i64 tp) := HM5.out.cell 7
  have m8 : wc.cell? ⟨q, 8, none⟩ = some (.int .i64 rd) := HM5.out.cell 8
  have m9 : wc.cell? ⟨q, 9, none⟩ = some (.string mk) := HM5.out.cell 9
  have m10 : wc.cell? ⟨q, 10, none⟩ = some (.int .i64 pa) := HM5.out.cell 10
  have m11 : wc.cell? ⟨q, 11, none⟩ = some (.int .i64 po) := HM5.out.cell 11
  have m12 : wc.cell? ⟨q, 12, none⟩ = some (.string pt) := HM5.out.cell 12
  have m13 : wc.cell? ⟨q, 13, none⟩ = some (.slice la es.length lc) := HM5.out.cell 13
  go_wp2_with fail
  refine (far_any c _ qs v kind to' bal gen basis fl tp rd pa po mk pt (.slice la es.length lc) _ HAt5.out Hqs.out hq9 (by omega)).mono ?_
  rintro e w6 ⟨rfl, At6, T6⟩
  simp only at At6
  have HAt6 := hid At6
  have HT6 := hid (show zAi w6 t n (addTo m v n) from ⟨HT5.out.1.touch T6 (Ne.symm hne), HT5.out.2⟩)
  have HRow6 := hid (zAj HRow5.out T6 (fun g hg e => zAp HRow5.out HAt5.out.1 (by decide) (by rw [hg, e])))
  have hTT6 := hTT5.trans (T6.mono (fun k _ e => Or.inl e))
  have e9 : w6.cell? ⟨c, 9, none⟩ = some (.pointer (some ⟨t, 0, none⟩)) := by rw [← Hpr.out]; exact At6.hd 9 (by omega)
  clear m0 m1 m2 m3 m4 m5 m6 m7 m8 m9 m10 m11 m12 m13 HAt5 HT5 HM5 HRow5 hTT5 At6 T6
  go_wp2_with fail
  refine (zFi t n (addTo m v n) _ HT6.out).mono ?_
  rintro e wx ⟨rfl, nw, rfl⟩
  have HAt7 := hid (HAt6.out.drewN nw)
  have HT7 := hid (HT6.out.drewN nw)
  have HRow7 := hid (zAc HRow6.out (below_drewN (Below.refl _ _) nw))
  have hTT7 := hTT6.drewN nw
  generalize w6.drewN nw = w7 at HAt7 HT7 HRow7 hTT7 ⊢
  clear HAt6 HT6 HRow6 hTT6 e9
  have hbel7 := hid (hbel.trans (hTT7.below hbel.size Hbase.out))
  have Hpw7 := hid (PRow_snoc Hpw.out (q := (⟨fl, tp, es⟩ : Prom)) (la := la) (lc := lc) Hes.out)
  have hpl : (ps ++ [(⟨fl, tp, es⟩ : Prom)]).length = ps.length + 1 := by simp
  cases hw : wonT (addTo m v n) n with
  | false =>
   have Hw := hid hw
   clear hw hpl
   go_wp2_with fail
   refine bodyPost_ret (results_none rfl _ _ _) rfl ?_
   refine ⟨rfl, hTT7, fun _ => ⟨v', ⟨?_, Hn.out, hn1, hn9, Hpr.out, HT7.out, ⟨_, ?_, Hpw7.out⟩, rfl, by rw [List.length_set]; exact hq9, hbel7.out, hc0, ht0⟩, hv5⟩, fun h => by rw [Hw.out] at h; cases h⟩
   ·rw [Hqv.out]; exact HAt7.out
   ·rw [List.length_append]; exact HRow7.out
  | true =>
   have Hw := hid hw
   have hrow8 := HRow7.out
   rw [← hpl] at hrow8
   have hpw8 := Hpw7.out
   have hll8 := Hll.out
   obtain ⟨P, hP⟩ : ∃ P : List Prom, P = ps ++ [(⟨fl, tp, es⟩ : Prom)] := ⟨_, rfl⟩
   rw [← hP] at hrow8 hpw8 hpl hll8
   have HP := hid hP
   have Hll8 := hid hll8
   clear hP hll8
   obtain ⟨ad, cap, rfl, hpa⟩ := zJp hrow8 hpw8 hbel7.out
   have Hpa := hid hpa
   have e10 : w7.cell? ⟨c, 10, none⟩ = some (.slice ad P.length cap) := HAt7.out.hd 10 (by omega)
   have hpl2 : P.length ≤ 1000000 := by omega
   clear hw hpa hrow8 hpl hpw8
   go_wp2_with fail
   refine (gmerge_any ad cap P _ hpl2 Hll8.out Hpa.out).mono ?_
   rintro e w8 ⟨F, TT, v1, v2, L1, L2, rfl, hv1, hv2, hL1, hL2, hdis, hb8⟩
   have Hdis := hid (And.intro hL1 (And.intro hL2 hdis))
   clear hL1 hL2 hdis
   obtain ⟨ad1, cp1, rfl⟩ := zAe hv1
   obtain ⟨ad2, cp2, rfl⟩ := zAe hv2
   have HAt8 := hid (HAt7.out.below hb8)
   have HT8 := hid (show zAi w8 t n (addTo m v n) from ⟨HT7.out.1.below hb8, HT7.out.2⟩)
   have hTT8 := hTT7.trans (Touch.of_below (S := zEE c t S) hb8)
   have hcl8 := HAt8.out.1.lt
   have g5 : w8.cell? ⟨c, 5, none⟩ = some (.int .i64 S.floor) := HAt8.out.hd 5 (by omega)
   have g6 : w8.cell? ⟨c, 6, none⟩ = some (.int .i64 S.top) := HAt8.out.hd 6 (by omega)
   have g7 : w8.cell? ⟨c, 7, none⟩ = some S.chosen := HAt8.out.hd 7 (by omega)
   have g11 : w8.cell? ⟨c, 11, none⟩ = some S.again := HAt8.out.hd 11 (by omega)
   have g10 : w8.cell? ⟨c, 10, none⟩ = some (.slice ad P.length cap) := HAt8.out.hd 10 (by omega)
   have g4 : w8.cell? ⟨c, 4, none⟩ = some (.int .i64 S.phase) := HAt8.out.hd 4 (by omega)
   have f4 := HAt8.out.1.free 4
   have f5 := HAt8.out.1.free 5
   have f6 := HAt8.out.1.free 6
   have f7 := HAt8.out.1.free 7
   have f10 := HAt8.out.1.free 10
   have f11 := HAt8.out.1.free 11
   have Hv1 := hid hv1
   have Hv2 := hid hv2
   have hsz7 := hTT7.size
   clear hv1 hv2 hb8 e10 HAt7 HT7 HRow7 hTT7
   go_wp2_with fail
   have r1 := HAt8.out.setFloor (F)
   have r2 := r1.setTop (TT)
   have r3 := r2.setChosen (.slice ad1 L1.length cp1)
   have r4 := r3.setAgain (.slice ad2 L2.length cp2)
   have r5 := r4.setPromises (.slice none 0 0)
   have r6 := r5.setPhase 2
   have tc : Touch (fun k => k = c) w8 ((((((w8.setCell ⟨c, 5, none⟩ (.int .i64 (F))).setCell ⟨c, 6, none⟩ (.int .i64 (TT))).setCell ⟨c, 7, none⟩ (.slice ad1 L1.length cp1)).setCell ⟨c, 11, none⟩ (.slice ad2 L2.length cp2)).setCell ⟨c, 10, none⟩ (.slice none 0 0)).setCell ⟨c, 4, none⟩ (.int .i64 2)) :=
    zAa (zAa (zAa (zAa (zAa (zAa (Touch.refl _ _) _) _) _) _) _) _
   have x1 := zAB (zAj Hv1.out tc (fun g hg e => zAp Hv1.out HAt8.out.1 (by decide) (by rw [hg, e]))) hsz7
   have x2 := zAB (zAj Hv2.out tc (fun g hg e => zAp Hv2.out HAt8.out.1 (by decide) (by rw [hg, e]))) hsz7
   have x3 : zAi _ t n (addTo m v n) := ⟨HT8.out.1.touch tc (Ne.symm hne), HT8.out.2⟩
   have x4 := hTT8.trans (tc.mono (fun k _ e => Or.inl e))
   have X1 := hid x1
   have X2 := hid x2
   have X3 := hid x3
   have X4 := hid x4
   have R6 := hid r6
   clear x1 x2 x3 x4 tc r1 r2 r3 r4 r5 r6
   go_end0
   refine ⟨rfl, X4.out, (fun h => by rw [Hw.out] at h; cases h), fun _ => ⟨F, TT, .slice ad1 L1.length cp1, .slice ad2 L2.length cp2, L1, L2, ?_, ?_, ?_, X3.out, Hdis.out.1, Hdis.out.2.1, Hdis.out.2.2⟩⟩
   ·rw [Hqv.out]; exact R6.out
   ·exact X1.out
   ·exact X2.out
def RAt (w : World) (base : Nat) (T : TypeId) (sz : Nat) (v : Value) (n : Nat) (xs : List Value) : Prop :=
 xs.length = n * sz ∧ ∃ ad cap, v = .slice ad n cap ∧ n ≤ cap ∧ cap ≤ maxLen ∧
  ((ad = none ∧ cap = 0) ∨ ∃ g off cs, ad = some ⟨g, off, none⟩ ∧ base ≤ g ∧ Blk w g cs T ∧ off + cap * sz ≤ cs.length ∧ (cs.drop off).take (n * sz) = xs)
theorem RAt.nil (w : World) (base : Nat) (T : TypeId) (sz : Nat) : RAt w base T sz (.slice none 0 0) 0 [] := ⟨by simp, none, 0, rfl, Nat.le_refl _, Nat.zero_le _, Or.inl ⟨rfl, rfl⟩⟩
theorem RAt.of_row (h : w.ownsRow base T sz v n xs) : RAt w base T sz v n xs := by
 obtain ⟨h1, ⟨rfl, rfl⟩ | ⟨g, cap, cur, rfl, hb, hg, hn, hm, hs, ht⟩⟩ := h
 ·exact ⟨h1, none, 0, rfl, Nat.le_refl _, Nat.zero_le _, Or.inl ⟨rfl, rfl⟩⟩
 ·exact ⟨h1, _, cap, rfl, hn, hm, Or.inr ⟨g, 0, cur.toList, rfl, hb, by unfold Blk; rw [hg], by rw [Array.length_toList, hs]; omega, by rw [List.drop_zero]; exact ht⟩⟩
theorem RAt.shape (h : RAt w base T sz v n xs) : ∃ ad cap, v = .slice ad n cap := by
 obtain ⟨_, ad, cap, e, _⟩ := h
 exact ⟨ad, cap, e⟩
theorem RAt.lt (h : RAt w base T sz v n xs) : ∀ g, v.ownBlock = some g → base ≤ g ∧ g < w.heap.size := by
 obtain ⟨_, ad, cap, rfl, h1, h2, ⟨rfl, _⟩ | ⟨g, off, cs, rfl, hb, hB, _⟩⟩ := h
 ·intro g hg; simp [Value.ownBlock] at hg
 ·intro g' hg
  simp [Value.ownBlock] at hg
  subst hg
  exact ⟨hb, hB.lt⟩
theorem RAt.blk (h : RAt w base T sz v n xs) (hg : v.ownBlock = some g) : ∃ cs, Blk w g cs T := by
 obtain ⟨_, ad, cap, rfl, h1, h2, ⟨rfl, _⟩ | ⟨g', off, cs, rfl, hb, hB, _⟩⟩ := h
 ·simp [Value.ownBlock] at hg
 ·simp [Value.ownBlock] at hg
  subst hg
  exact ⟨cs, hB⟩
theorem RAt.touch {S : Nat → Prop} (h : RAt w base T sz v n xs) (ht : Touch S w w') (hS : ∀ g, v.ownBlock = some g → ¬ S g) : RAt w' base T sz v n xs := by
 obtain ⟨h0, ad, cap, rfl, h1, h2, ⟨rfl, h3⟩ | ⟨g, off, cs, rfl, hb, hB, h4, h5⟩⟩ := h
 ·exact ⟨h0, none, cap, rfl, h1, h2, Or.inl ⟨rfl, h3⟩⟩
 ·exact ⟨h0, _, cap, rfl, h1, h2, Or.inr ⟨g, off, cs, rfl, hb, hB.touch ht (hS g rfl), h4, h5⟩⟩
theorem RAt.keepB (h : RAt w base T sz v n xs) (k : ∀ q cs, Blk w q cs T → Blk w' q cs T) : RAt w' base T sz v n xs := by
 obtain ⟨h0, ad, cap, rfl, h1, h2, ⟨rfl, h3⟩ | ⟨g, off, cs, rfl, hb, hB, h4, h5⟩⟩ := h
 ·exact ⟨h0, none, cap, rfl, h1, h2, Or.inl ⟨rfl, h3⟩⟩
 ·exact ⟨h0, _, cap, rfl, h1, h2, Or.inr ⟨g, off, cs, rfl, hb, k _ _ hB, h4, h5⟩⟩
theorem RAt.below (h : RAt w base T sz v n xs) (hb : Below w.heap.size w w') : RAt w' base T sz v n xs := h.keepB (fun q cs hq => hq.below hb)
theorem RAt.some (h : RAt w base T sz v n xs) (hn : 0 < n) :
  ∃ g off cap, v = .slice (some ⟨g, off, none⟩) n cap ∧ base ≤ g ∧ g < w.heap.size ∧ n ≤ cap ∧ cap ≤ maxLen ∧ ∀ j, j < n * sz → w.cell? ⟨g, off + j, none⟩ = xs[j]? := by
 obtain ⟨h0, ad, cap, rfl, h1, h2, ⟨rfl, h3⟩ | ⟨g, off, cs, rfl, hb, hB, h4, h5⟩⟩ := h
 ·omega
 ·refine ⟨g, off, cap, rfl, hb, hB.lt, h1, h2, fun j hj => ?_⟩
  rw [hB.cell (off + j), ← h5, List.getElem?_take_of_lt hj, List.getElem?_drop]
theorem RAt.cut (h : RAt w base T sz (.slice ad n cap) n xs) (m : Nat) (hm : m ≤ n) : RAt w base T sz (.slice (if cap = m then ad else ad.map (·.add (m * sz))) (n - m) (cap - m)) (n - m) (xs.drop (m * sz)) := by
 obtain ⟨h0, ad', cap', e, h1, h2, h3⟩ := h
 simp only [Value.slice.injEq, true_and] at e
 obtain ⟨rfl, rfl⟩ := e
 refine ⟨by rw [List.length_drop, h0, Nat.sub_mul], _, _, rfl, by omega, by omega, ?_⟩
 rcases h3 with ⟨rfl, h3⟩ | ⟨g, off, cs, rfl, hb, hB, h4, h5⟩
 ·exact Or.inl ⟨by simp, by omega⟩
 ·have hmul : (cap - m) * sz = cap * sz - m * sz := Nat.sub_mul _ _ _
  have hmc : m * sz ≤ cap * sz := Nat.mul_le_mul_right _ (by omega)
  by_cases hc : cap = m
  ·rw [if_pos hc]
   have hnm : n - m = 0 := by omega
   refine Or.inr ⟨g, off, cs, rfl, hb, hB, by omega, ?_⟩
   have hnn : n = m := by omega
   rw [hnm, Nat.zero_mul, List.take_zero, List.drop_of_length_le (by rw [h0, hnn]; exact Nat.le_refl _)]
  ·rw [if_neg hc]
   refine Or.inr ⟨g, off + m * sz, cs, by simp only [Option.map_some, Option.some.injEq]; unfold Addr.add; split <;> simp_all, hb, hB, by omega, ?_⟩
   rw [Nat.sub_mul, ← List.drop_drop, ← List.drop_take, h5]
theorem rat_room (w : World) (t tx ty e : TypeId) (i : TypeInfo) (ht : P.underlying t = some (.slice e)) (hi : P.info? e = some i)
  (g off sLen sCap : Nat) (cur : Array Value) (hg : w.heap[g]? = some (.cells cur e (0, 0))) (x : Value) (n : Nat) (news : List Value) (hs : Src P i.size tx x n news w)
  (hroom : sLen + n ≤ sCap) (hfit : off + sLen * i.size + news.length ≤ cur.size) :
  (Builtin.append_ #[t, tx] ty #[.slice (some ⟨g, off, none⟩) sLen sCap, x]).run P w =
   .ok (.slice (some ⟨g, off, none⟩) (sLen + n) sCap) (w.setRow g (cur.toList.take (off + sLen * i.size) ++ news ++ cur.toList.drop (off + sLen * i.size + news.length)).toArray) := by
 have hst := run_storeCells_at P g (off + sLen * i.size) e news 0 cur w hg (by simpa using hfit) hs.one
 simp only [Nat.add_zero] at hst
 have hc := hs.cells
 rcases hs.kind with ⟨e', hk⟩ | hk <;> simp [Builtin.append_, run_underlying ht, run_underlying hk, sizeOf, typeInfo, hi, hs.len, hroom, hc, Addr.add_lit, hst]
theorem zJq (w : World) (t tx ty e : TypeId) (i : TypeInfo) (ht : P.underlying t = some (.slice e)) (hi : P.info? e = some i) (base : Option Addr) (sLen sCap : Nat) (hle : sLen ≤ sCap) (x : Value) (hs : Src P i.size tx x 0 [] w) :
  (Builtin.append_ #[t, tx] ty #[.slice base sLen sCap, x]).run P w = .ok (.slice base sLen sCap) w := by
 rcases hs.kind with ⟨e', hk⟩ | hk <;> cases base <;> simp [Builtin.append_, run_underlying ht, run_underlying hk, sizeOf, typeInfo, hi, hs.len, hle, hs.cells, storeCells]
theorem rat_append (w : World) (base : Nat) (t tx ty T : TypeId) (i0 : TypeInfo) (z : Value) (ht : P.underlying t = some (.slice T)) (hi : P.info? T = some i0) (hz : i0.zero = some z) (hzs : z.cells.size = i0.size) (hby : i0.bytes ≤ 1000)
  (v : Value) (n m : Nat) (xs news : List Value) (x : Value) (h : RAt w base T i0.size v n xs) (hs : Src P i0.size tx x m news w) (hlen : n + m ≤ 1000000000) (hbase : base ≤ w.heap.size) (hsz : i0.size ≤ 1000) :
  ∃ v' w', (Builtin.append_ #[t, tx] ty #[v, x]).run P w = .ok v' w' ∧ RAt w' base T i0.size v' (n + m) (xs ++ news) ∧ w.grownBy w' v.ownBlock ∧ (v'.ownBlock = v.ownBlock ∨ v'.ownBlock = some w.heap.size) := by
 obtain ⟨h0, ad, cap, rfl, h1, h2, h3⟩ := h
 have hll : (xs ++ news).length = (n + m) * i0.size := by rw [List.length_append, h0, hs.newsLen, Nat.add_mul]
 have grow : cap < n + m → (Builtin.firstCells i0.size n (.slice ad n cap)).run P w.drew = .ok xs.toArray w.drew →
   ∃ v' w', (Builtin.append_ #[t, tx] ty #[.slice ad n cap, x]).run P w = .ok v' w' ∧ RAt w' base T i0.size v' (n + m) (xs ++ news) ∧ w.grownBy w' (Value.slice ad n cap).ownBlock ∧ (v'.ownBlock = (Value.slice ad n cap).ownBlock ∨ v'.ownBlock = some w.heap.size) := by
  intro hg hold
  have hm : n + m ≤ maxLen := by unfold maxLen; omega
  have hby2 : (n + m) * i0.bytes ≤ 140737488355328 := Nat.le_trans (Nat.mul_le_mul hlen hby) (by decide)
  have hrun := run_append_grow_src (P := P) w t tx ty T i0 z ht hi hz ad n cap xs hold x m news hs hg (by omega) (growslice_fits hg hby2)
  have hge := grownCap_ge w (n + m) cap T
  have hcm := grownCap_le_maxLen w (n + m) cap T hm
  have hnew : Blk (w.drew.alloc (.cells ((xs ++ news).toArray ++ Builtin.zeroCells z.cells (grownCap w (n + m) cap T - (n + m))) T)) w.heap.size ((xs ++ news) ++ (Builtin.zeroCells z.cells (grownCap w (n + m) cap T - (n + m))).toList) T := by
   unfold Blk
   have := heap_alloc_new w.drew (.cells ((xs ++ news).toArray ++ Builtin.zeroCells z.cells (grownCap w (n + m) cap T - (n + m))) T (0, 0))
   refine this.trans (congrArg (fun z => some (Obj.cells z T (0, 0))) ?_)
   apply Array.ext'
   rw [Array.toList_append]
  refine ⟨_, _, hrun, ⟨hll, _, _, rfl, hge, hcm, Or.inr ⟨w.heap.size, 0, _, rfl, hbase, hnew, ?_, ?_⟩⟩, ⟨rfl, rfl, rfl, by simp, fun k hk _ => Below.heap_alloc w.drew _ k hk⟩, Or.inr rfl⟩
  ·have hz2 : (Builtin.zeroCells z.cells (grownCap w (n + m) cap T - (n + m))).toList.length = (grownCap w (n + m) cap T - (n + m)) * i0.size := by
    rw [Array.length_toList, size_zeroCells, hzs]
   rw [List.length_append, hll, hz2, Nat.zero_add, ← Nat.add_mul, Nat.add_sub_cancel' hge]
   exact Nat.le_refl _
  ·rw [List.drop_zero, ← hll, List.take_left]
 rcases h3 with ⟨rfl, rfl⟩ | ⟨g, off, cs, rfl, hb, hB, h4, h5⟩
 ·have hn : n = 0 := by omega
  subst hn
  obtain rfl : xs = [] := List.eq_nil_of_length_eq_zero (by rw [h0]; simp)
  by_cases hm : m = 0
  ·subst hm
   obtain rfl : news = [] := List.eq_nil_of_length_eq_zero (by rw [hs.newsLen]; simp)
   exact ⟨_, w, zJq w t tx ty T i0 ht hi none 0 0 (Nat.le_refl _) x hs, RAt.nil _ _ _ _, ⟨rfl, rfl, rfl, Nat.le_refl _, fun _ _ _ => rfl⟩, Or.inl rfl⟩
  ·exact grow (by omega) (run_firstCells_none w.drew i0.size 0 0 0)
 ·by_cases hroom : n + m ≤ cap
  ·have hfit : off + n * i0.size + news.length ≤ cs.length := by
    have := Nat.mul_le_mul_right i0.size hroom
    rw [hs.newsLen]
    rw [Nat.add_mul] at this
    omega
   have hrun := rat_room (P := P) w t tx ty T i0 ht hi g off n cap cs.toArray hB x m news hs hroom (by simpa using hfit)
   have hnb : Blk (w.setRow g (cs.take (off + n * i0.size) ++ news ++ cs.drop (off + n * i0.size + news.length)).toArray) g (cs.take (off + n * i0.size) ++ news ++ cs.drop (off + n * i0.size + news.length)) T := by
    unfold Blk
    rw [setRow_heap w g _ _ _ _ hB]
   refine ⟨_, _, hrun, ⟨hll, _, cap, rfl, hroom, h2, Or.inr ⟨g, off, _, rfl, hb, hnb, ?_, ?_⟩⟩, ⟨rfl, rfl, rfl, by simp, fun k _ hk => setRow_other w g k _ (fun e => hk (by simp [Value.ownBlock, e]))⟩, Or.inl rfl⟩
   ·simp only [List.length_append, List.length_take, List.length_drop]
    omega
   ·have ht1 : (cs.take (off + n * i0.size)).length = off + n * i0.size := by rw [List.length_take]; omega
    rw [List.append_assoc, List.drop_append_of_le_length (by omega), List.drop_take, show off + n * i0.size - off = n * i0.size by omega, h5, ← List.append_assoc, ← hll, List.take_left]
  ·refine grow (by omega) (run_firstCells_some w.drew i0.size n ⟨g, off, none⟩ n cap xs h0 ?_)
   intro j u hu
   rw [show (⟨g, off, none⟩ : Addr).add j = ⟨g, off + j, none⟩ by unfold Addr.add; split <;> simp_all]
   show w.cell? ⟨g, off + j, none⟩ = some u
   have hj : j < n * i0.size := by
    have := (List.getElem?_eq_some_iff.1 hu).1
    omega
   rw [hB.cell (off + j)]
   rw [← h5, List.getElem?_take_of_lt hj, List.getElem?_drop] at hu
   exact hu
end Go.Proofs.YtaemlplcjjbamaaGreatDoor
