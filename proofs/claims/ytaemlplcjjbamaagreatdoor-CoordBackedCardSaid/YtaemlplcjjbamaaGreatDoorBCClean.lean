/- The walk of the document's Clean (layer 17) at any message ( -/
import Derived.Test.YtaemlplcjjbamaaGreatDoorBHeld
import Derived.Deep.RegionLaw
namespace Go.Proofs.YtaemlplcjjbamaaGreatDoor
open Go.Lib (hid)
set_option maxRecDepth 100000
set_option maxHeartbeats 8000000
open Go Go.RowKit
set_option linter.unusedVariables false
variable {T : TypeId} {a w : World} {b g : Nat} {cs : List Value} {y0 y1 y10 y11 y12 y13 y2 y3 y4 y5 y6 y7 y8 y9 : Value}
def cleanStep (m a : MG) (c : Int) : MG := if c = 77 then { a with mrk := m.mrk } else if c = 80 then { a with pa := m.pa, po := m.po, pt := m.pt } else if c = 76 then { a with la := m.la, ll := m.ll, lc := m.lc } else a.setN c (m.num c)
def zAG (m : MG) (F : ByteArray) : Nat → MG
 | 0 => { MG.zero with k := m.k, fr := m.fr, to_ := m.to_ }
 | k + 1 => if h : k < F.size then cleanStep m (zAG m F k) ((F[k]'h).toNat : Int) else zAG m F k
theorem zHU (m : MG) (F : ByteArray) (k : Nat) (h : k < F.size) : zAG m F (k + 1) = cleanStep m (zAG m F k) ((F[k]'h).toNat : Int) := by
 show (if h : k < F.size then _ else _) = _
 rw [dif_pos h]
theorem zFC (k : Int) (hk : zCG k) : (fieldsOf k).size ≤ 6 ∧ ∀ i (h : i < (fieldsOf k).size), (((fieldsOf k)[i]'h).toNat : Int) = 77 ∨ (((fieldsOf k)[i]'h).toNat : Int) = 80 ∨ (((fieldsOf k)[i]'h).toNat : Int) = 76 ∨ NumL (((fieldsOf k)[i]'h).toNat : Int) := by
 unfold NumL
 rcases hk with rfl | rfl | rfl | rfl | rfl | rfl | rfl | rfl | rfl | rfl | rfl | rfl | rfl | rfl | rfl | rfl | rfl <;> decide
theorem zDj (h : Blk w b cs T) (hne : b ≠ g) (x0 x1 x2 x3 x4 x5 x6 x7 x8 x9 x10 x11 x12 x13 : Value) : Blk ((((((((((((((w.setCell ⟨g, 0, none⟩ (x0)).setCell ⟨g, 1, none⟩ (x1)).setCell ⟨g, 2, none⟩ (x2)).setCell ⟨g, 3, none⟩ (x3)).setCell ⟨g, 4, none⟩ (x4)).setCell ⟨g, 5, none⟩ (x5)).setCell ⟨g, 6, none⟩ (x6)).setCell ⟨g, 7, none⟩ (x7)).setCell ⟨g, 8, none⟩ (x8)).setCell ⟨g, 9, none⟩ (x9)).setCell ⟨g, 10, none⟩ (x10)).setCell ⟨g, 11, none⟩ (x11)).setCell ⟨g, 12, none⟩ (x12)).setCell ⟨g, 13, none⟩ (x13)) b cs T :=
 (((((((((((((h.set_other (a := ⟨g, 0, none⟩) hne x0).set_other (a := ⟨g, 1, none⟩) hne x1).set_other (a := ⟨g, 2, none⟩) hne x2).set_other (a := ⟨g, 3, none⟩) hne x3).set_other (a := ⟨g, 4, none⟩) hne x4).set_other (a := ⟨g, 5, none⟩) hne x5).set_other (a := ⟨g, 6, none⟩) hne x6).set_other (a := ⟨g, 7, none⟩) hne x7).set_other (a := ⟨g, 8, none⟩) hne x8).set_other (a := ⟨g, 9, none⟩) hne x9).set_other (a := ⟨g, 10, none⟩) hne x10).set_other (a := ⟨g, 11, none⟩) hne x11).set_other (a := ⟨g, 12, none⟩) hne x12).set_other (a := ⟨g, 13, none⟩) hne x13
theorem zAT {B g : Nat} (h : Below B a w) (hg : B ≤ g) (x0 x1 x2 x3 x4 x5 x6 x7 x8 x9 x10 x11 x12 x13 : Value) : Below B a ((((((((((((((w.setCell ⟨g, 0, none⟩ (x0)).setCell ⟨g, 1, none⟩ (x1)).setCell ⟨g, 2, none⟩ (x2)).setCell ⟨g, 3, none⟩ (x3)).setCell ⟨g, 4, none⟩ (x4)).setCell ⟨g, 5, none⟩ (x5)).setCell ⟨g, 6, none⟩ (x6)).setCell ⟨g, 7, none⟩ (x7)).setCell ⟨g, 8, none⟩ (x8)).setCell ⟨g, 9, none⟩ (x9)).setCell ⟨g, 10, none⟩ (x10)).setCell ⟨g, 11, none⟩ (x11)).setCell ⟨g, 12, none⟩ (x12)).setCell ⟨g, 13, none⟩ (x13)) :=
 (((((((((((((h.setCell (p := ⟨g, 0, none⟩) hg x0).setCell (p := ⟨g, 1, none⟩) hg x1).setCell (p := ⟨g, 2, none⟩) hg x2).setCell (p := ⟨g, 3, none⟩) hg x3).setCell (p := ⟨g, 4, none⟩) hg x4).setCell (p := ⟨g, 5, none⟩) hg x5).setCell (p := ⟨g, 6, none⟩) hg x6).setCell (p := ⟨g, 7, none⟩) hg x7).setCell (p := ⟨g, 8, none⟩) hg x8).setCell (p := ⟨g, 9, none⟩) hg x9).setCell (p := ⟨g, 10, none⟩) hg x10).setCell (p := ⟨g, 11, none⟩) hg x11).setCell (p := ⟨g, 12, none⟩) hg x12).setCell (p := ⟨g, 13, none⟩) hg x13
abbrev set14 (ws : World) (g : Nat) (o : MG) : World :=
 (((((((((((((ws.setCell ⟨g, 0, none⟩ (.int .i64 o.k)).setCell ⟨g, 1, none⟩ (.int .i64 o.fr)).setCell ⟨g, 2, none⟩ (.int .i64 o.to_)).setCell ⟨g, 3, none⟩ (.int .i64 o.bal)).setCell ⟨g, 4, none⟩ (.int .i64 o.gen)).setCell ⟨g, 5, none⟩ (.int .i64 o.bas)).setCell ⟨g, 6, none⟩ (.int .i64 o.fl)).setCell ⟨g, 7, none⟩ (.int .i64 o.tp)).setCell ⟨g, 8, none⟩ (.int .i64 o.rd)).setCell ⟨g, 9, none⟩ (.string o.mrk)).setCell ⟨g, 10, none⟩ (.int .i64 o.pa)).setCell ⟨g, 11, none⟩ (.int .i64 o.po)).setCell ⟨g, 12, none⟩ (.string o.pt)).setCell ⟨g, 13, none⟩ (.slice o.la o.ll o.lc)
theorem set14_own (h : Blk w g [y0, y1, y2, y3, y4, y5, y6, y7, y8, y9, y10, y11, y12, y13] T) (x0 x1 x2 x3 x4 x5 x6 x7 x8 x9 x10 x11 x12 x13 : Value) : Blk ((((((((((((((w.setCell ⟨g, 0, none⟩ (x0)).setCell ⟨g, 1, none⟩ (x1)).setCell ⟨g, 2, none⟩ (x2)).setCell ⟨g, 3, none⟩ (x3)).setCell ⟨g, 4, none⟩ (x4)).setCell ⟨g, 5, none⟩ (x5)).setCell ⟨g, 6, none⟩ (x6)).setCell ⟨g, 7, none⟩ (x7)).setCell ⟨g, 8, none⟩ (x8)).setCell ⟨g, 9, none⟩ (x9)).setCell ⟨g, 10, none⟩ (x10)).setCell ⟨g, 11, none⟩ (x11)).setCell ⟨g, 12, none⟩ (x12)).setCell ⟨g, 13, none⟩ (x13)) g [x0, x1, x2, x3, x4, x5, x6, x7, x8, x9, x10, x11, x12, x13] T :=
 (((((((((((((h.set 0 x0).set 1 x1).set 2 x2).set 3 x3).set 4 x4).set 5 x5).set 6 x6).set 7 x7).set 8 x8).set 9 x9).set 10 x10).set 11 x11).set 12 x12).set 13 x13
theorem zBz (m : MG) (w : World) : Calls Tryz.prog 31 #[.agg #[.int .i64 m.k, .int .i64 m.fr, .int .i64 m.to_, .int .i64 m.bal, .int .i64 m.gen, .int .i64 m.bas, .int .i64 m.fl, .int .i64 m.tp, .int .i64 m.rd, .string m.mrk, .int .i64 m.pa, .int .i64 m.po, .string m.pt, .slice m.la m.ll m.lc]] w fun e w' => ∃ o : MG, Hid (o = zAG m (fieldsOf m.k) (fieldsOf m.k).size) ∧ e = .returned (.agg #[.int .i64 o.k, .int .i64 o.fr, .int .i64 o.to_, .int .i64 o.bal, .int .i64 o.gen, .int .i64 o.bas, .int .i64 o.fl, .int .i64 o.tp, .int .i64 o.rd, .string o.mrk, .int .i64 o.pa, .int .i64 o.po, .string o.pt, .slice o.la o.ll o.lc]) ∧ Below w.heap.size w w' := by
 have Z1 := (Blk.new w [.int .i64 m.k, .int .i64 m.fr, .int .i64 m.to_, .int .i64 m.bal, .int .i64 m.gen, .int .i64 m.bas, .int .i64 m.fl, .int .i64 m.tp, .int .i64 m.rd, .string m.mrk, .int .i64 m.pa, .int .i64 m.po, .string m.pt, .slice m.la m.ll m.lc] 30)
 have b0 := (((Below.refl w.heap.size w).alloc (Nat.le_refl _) (.cells #[.int .i64 m.k, .int .i64 m.fr, .int .i64 m.to_, .int .i64 m.bal, .int .i64 m.gen, .int .i64 m.bas, .int .i64 m.fl, .int .i64 m.tp, .int .i64 m.rd, .string m.mrk, .int .i64 m.pa, .int .i64 m.po, .string m.pt, .slice m.la m.ll m.lc] 30)).alloc (by simp) (.cells #[.int .i64 0, .int .i64 0, .int .i64 0, .int .i64 0, .int .i64 0, .int .i64 0, .int .i64 0, .int .i64 0, .int .i64 0, .string ⟨#[]⟩, .int .i64 0, .int .i64 0, .string ⟨#[]⟩, .slice none 0 0] 30)).alloc (by simp; omega) (.cells #[.int .i64 m.k, .int .i64 m.fr, .int .i64 m.to_, .int .i64 0, .int .i64 0, .int .i64 0, .int .i64 0, .int .i64 0, .int .i64 0, .string ⟨#[]⟩, .int .i64 0, .int .i64 0, .string ⟨#[]⟩, .slice none 0 0] 30)
 have Y1 := (Z1.alloc (.cells #[.int .i64 0, .int .i64 0, .int .i64 0, .int .i64 0, .int .i64 0, .int .i64 0, .int .i64 0, .int .i64 0, .int .i64 0, .string ⟨#[]⟩, .int .i64 0, .int .i64 0, .string ⟨#[]⟩, .slice none 0 0] 30)).alloc (.cells #[.int .i64 m.k, .int .i64 m.fr, .int .i64 m.to_, .int .i64 0, .int .i64 0, .int .i64 0, .int .i64 0, .int .i64 0, .int .i64 0, .string ⟨#[]⟩, .int .i64 0, .int .i64 0, .string ⟨#[]⟩, .slice none 0 0] 30)
 have Y2 := (Blk.new (w.alloc (.cells #[.int .i64 m.k, .int .i64 m.fr, .int .i64 m.to_, .int .i64 m.bal, .int .i64 m.gen, .int .i64 m.bas, .int .i64 m.fl, .int .i64 m.tp, .int .i64 m.rd, .string m.mrk, .int .i64 m.pa, .int .i64 m.po, .string m.pt, .slice m.la m.ll m.lc] 30)) [.int .i64 0, .int .i64 0, .int .i64 0, .int .i64 0, .int .i64 0, .int .i64 0, .int .i64 0, .int .i64 0, .int .i64 0, .string ⟨#[]⟩, .int .i64 0, .int .i64 0, .string ⟨#[]⟩, .slice none 0 0] 30).alloc (.cells #[.int .i64 m.k, .int .i64 m.fr, .int .i64 m.to_, .int .i64 0, .int .i64 0, .int .i64 0, .int .i64 0, .int .i64 0, .int .i64 0, .string ⟨#[]⟩, .int .i64 0, .int .i64 0, .string ⟨#[]⟩, .slice none 0 0] 30)
 have Y3 := Blk.new ((w.alloc (.cells #[.int .i64 m.k, .int .i64 m.fr, .int .i64 m.to_, .int .i64 m.bal, .int .i64 m.gen, .int .i64 m.bas, .int .i64 m.fl, .int .i64 m.tp, .int .i64 m.rd, .string m.mrk, .int .i64 m.pa, .int .i64 m.po, .string m.pt, .slice m.la m.ll m.lc] 30)).alloc (.cells #[.int .i64 0, .int .i64 0, .int .i64 0, .int .i64 0, .int .i64 0, .int .i64 0, .int .i64 0, .int .i64 0, .int .i64 0, .string ⟨#[]⟩, .int .i64 0, .int .i64 0, .string ⟨#[]⟩, .slice none 0 0] 30)) [.int .i64 m.k, .int .i64 m.fr, .int .i64 m.to_, .int .i64 0, .int .i64 0, .int .i64 0, .int .i64 0, .int .i64 0, .int .i64 0, .string ⟨#[]⟩, .int .i64 0, .int .i64 0, .string ⟨#[]⟩, .slice none 0 0] 30
 rw [show (w.alloc (.cells #[.int .i64 m.k, .int .i64 m.fr, .int .i64 m.to_, .int .i64 m.bal, .int .i64 m.gen, .int .i64 m.bas, .int .i64 m.fl, .int .i64 m.tp, .int .i64 m.rd, .string m.mrk, .int .i64 m.pa, .int .i64 m.po, .string m.pt, .slice m.la m.ll m.lc] 30)).heap.size = w.heap.size + 1 by simp] at Y2
 rw [show ((w.alloc (.cells #[.int .i64 m.k, .int .i64 m.fr, .int .i64 m.to_, .int .i64 m.bal, .int .i64 m.gen, .int .i64 m.bas, .int .i64 m.fl, .int .i64 m.tp, .int .i64 m.rd, .string m.mrk, .int .i64 m.pa, .int .i64 m.po, .string m.pt, .slice m.la m.ll m.lc] 30)).alloc (.cells #[.int .i64 0, .int .i64 0, .int .i64 0, .int .i64 0, .int .i64 0, .int .i64 0, .int .i64 0, .int .i64 0, .int .i64 0, .string ⟨#[]⟩, .int .i64 0, .int .i64 0, .string ⟨#[]⟩, .slice none 0 0] 30)).heap.size = w.heap.size + 2 by simp] at Y3
 have HY1 := hid Y1
 have HY2 := hid Y2
 have HY3 := hid Y3
 have HB0 := hid b0
 have HFd := hid (fun w1 => zFV m.k w1)
 obtain ⟨hFs, hFl⟩ := zJr m.k
 generalize fieldsOf m.k = F at HFd hFs hFl ⊢
 have HL := hid hFl
 clear Z1 b0 Y1 Y2 Y3 hFl
 go_enter Tryz.func31, Tryz.ntmps31
 go_wp2_with fail
 refine (HFd.out _).mono ?_
 rintro e w1 ⟨rfl, rfl⟩
 have Y1 := HY1.out
 have Y2 := HY2.out
 have Y3 := HY3.out
 have B0 := HB0.out
 clear HY1 HY2 HY3 HB0 HFd
 generalize ((w.alloc (.cells #[.int .i64 m.k, .int .i64 m.fr, .int .i64 m.to_, .int .i64 m.bal, .int .i64 m.gen, .int .i64 m.bas, .int .i64 m.fl, .int .i64 m.tp, .int .i64 m.rd, .string m.mrk, .int .i64 m.pa, .int .i64 m.po, .string m.pt, .slice m.la m.ll m.lc] 30)).alloc (.cells #[.int .i64 0, .int .i64 0, .int .i64 0, .int .i64 0, .int .i64 0, .int .i64 0, .int .i64 0, .int .i64 0, .int .i64 0, .string ⟨#[]⟩, .int .i64 0, .int .i64 0, .string ⟨#[]⟩, .slice none 0 0] 30)).alloc (.cells #[.int .i64 m.k, .int .i64 m.fr, .int .i64 m.to_, .int .i64 0, .int .i64 0, .int .i64 0, .int .i64 0, .int .i64 0, .int .i64 0, .string ⟨#[]⟩, .int .i64 0, .int .i64 0, .string ⟨#[]⟩, .slice none 0 0] 30) = w0 at Y1 Y2 Y3 B0 ⊢
 obtain ⟨q, hq⟩ : ∃ q, q = w.heap.size := ⟨_, rfl⟩
 rw [← hq] at Y1 Y2 Y3 ⊢
 have Hq := hid hq
 have hne : q + 1 + 1 ≠ q := by omega
 have hne2 : q + 1 + 1 ≠ q + 1 := by omega
 have hqw : w.heap.size ≤ q + 1 + 1 := by omega
 have Y3' : Blk w0 (q + 1 + 1) [.int .i64 m.k, .int .i64 m.fr, .int .i64 m.to_, .int .i64 0, .int .i64 0, .int .i64 0, .int .i64 0, .int .i64 0, .int .i64 0, .string ⟨#[]⟩, .int .i64 0, .int .i64 0, .string ⟨#[]⟩, .slice none 0 0] 30 := Y3
 clear Y3
 generalize q + 1 + 1 = g at Y3' hne hne2 hqw ⊢
 have HY1 := hid Y1
 have HY2 := hid (show Blk w0 (q + 1) [.int .i64 0, .int .i64 0, .int .i64 0, .int .i64 0, .int .i64 0, .int .i64 0, .int .i64 0, .int .i64 0, .int .i64 0, .string ⟨#[]⟩, .int .i64 0, .int .i64 0, .string ⟨#[]⟩, .slice none 0 0] 30 from Y2)
 have HY3 := hid Y3'
 clear Y3'
 have HB0 := hid B0
 clear hq Y1 Y2 B0
 go_wp2_with fail
 go_loopw [5] (fun i wr => ∃ (k : Nat) (acc : MG), i = .int .i64 k ∧ k ≤ F.size ∧ Hid (acc = zAG m F k) ∧ Hid (Blk wr q [.int .i64 m.k, .int .i64 m.fr, .int .i64 m.to_, .int .i64 m.bal, .int .i64 m.gen, .int .i64 m.bas, .int .i64 m.fl, .int .i64 m.tp, .int .i64 m.rd, .string m.mrk, .int .i64 m.pa, .int .i64 m.po, .string m.pt, .slice m.la m.ll m.lc] 30) ∧ Hid (Blk wr (q + 1) [.int .i64 0, .int .i64 0, .int .i64 0, .int .i64 0, .int .i64 0, .int .i64 0, .int .i64 0, .int .i64 0, .int .i64 0, .string ⟨#[]⟩, .int .i64 0, .int .i64 0, .string ⟨#[]⟩, .slice none 0 0] 30) ∧ Hid (Blk wr g [.int .i64 acc.k, .int .i64 acc.fr, .int .i64 acc.to_, .int .i64 acc.bal, .int .i64 acc.gen, .int .i64 acc.bas, .int .i64 acc.fl, .int .i64 acc.tp, .int .i64 acc.rd, .string acc.mrk, .int .i64 acc.pa, .int .i64 acc.po, .string acc.pt, .slice acc.la acc.ll acc.lc] 30) ∧ Below w.heap.size w wr) (fun i _ => F.size - (intOf i).toNat)
 case atStart => exact ⟨0, { MG.zero with k := m.k, fr := m.fr, to_ := m.to_ }, rfl, Nat.zero_le _, hid rfl, HY1, HY2, HY3, HB0.out⟩
 case round =>
  obtain ⟨k, acc, rfl, hk, Hacc, H1, H2, H3, hbr⟩ := hrel
  clear HY1 HY2 HY3 HB0
  by_cases hks : k < F.size
  ·have hlet := HL.out k hks
   have HSu := hid (zHU m F k hks)
   by_cases l77 : ((F[k]'hks).toNat : Int) = 77
   ·have e77 : (((F[k]'hks).toNat : Int) == 77) = true := by rw [l77]; rfl
    have f9 := H3.out.free 9
    have d9 : wr.cell? ⟨g, 9, none⟩ = some (.string acc.mrk) := H3.out.cell 9
    have q9 : wr.cell? ⟨q, 9, none⟩ = some (.string m.mrk) := H1.out.cell 9
    have Hst := hid (show { acc with mrk := m.mrk } = zAG m F (k + 1) by rw [HSu.out, ← Hacc.out]; unfold cleanStep; rw [if_pos l77])
    have H1n := hid (H1.out.set_other (a := ⟨g, 9, none⟩) (Ne.symm hne) (.string m.mrk))
    have H2n := hid (H2.out.set_other (a := ⟨g, 9, none⟩) (Ne.symm hne2) (.string m.mrk))
    have H3n := hid (H3.out.set 9 (.string m.mrk))
    have hbn := hbr.setCell (p := ⟨g, 9, none⟩) hqw (.string m.mrk)
    clear H1 H2 H3 hbr hlet l77
    go_wp2_with fail
    go_roundw
    case rel => exact ⟨k + 1, { acc with mrk := m.mrk }, by go_num, by omega, Hst, H1n, H2n, H3n, hbn⟩
    case measure => simp [intOf]; omega
   ·have e77 : (((F[k]'hks).toNat : Int) == 77) = false := by rw [beq_eq_false_iff_ne]; exact l77
    by_cases l80 : ((F[k]'hks).toNat : Int) = 80
    ·have e80 : (((F[k]'hks).toNat : Int) == 80) = true := by rw [l80]; rfl
     have f10 := H3.out.free 10
     have f11 := H3.out.free 11
     have f12 := H3.out.free 12
     have d10 : wr.cell? ⟨g, 10, none⟩ = some (.int .i64 acc.pa) := H3.out.cell 10
     have d11 : wr.cell? ⟨g, 11, none⟩ = some (.int .i64 acc.po) := H3.out.cell 11
     have d12 : wr.cell? ⟨g, 12, none⟩ = some (.string acc.pt) := H3.out.cell 12
     have q10 : wr.cell? ⟨q, 10, none⟩ = some (.int .i64 m.pa) := H1.out.cell 10
     have q11 : wr.cell? ⟨q, 11, none⟩ = some (.int .i64 m.po) := H1.out.cell 11
     have q12 : wr.cell? ⟨q, 12, none⟩ = some (.string m.pt) := H1.out.cell 12
     have Hst := hid (show { acc with pa := m.pa, po := m.po, pt := m.pt } = zAG m F (k + 1) by rw [HSu.out, ← Hacc.out]; unfold cleanStep; rw [if_neg l77, if_pos l80])
     have H1n := hid (((H1.out.set_other (a := ⟨g, 10, none⟩) (Ne.symm hne) (.int .i64 m.pa)).set_other (a := ⟨g, 11, none⟩) (Ne.symm hne) (.int .i64 m.po)).set_other (a := ⟨g, 12, none⟩) (Ne.symm hne) (.string m.pt))
     have H2n := hid (((H2.out.set_other (a := ⟨g, 10, none⟩) (Ne.symm hne2) (.int .i64 m.pa)).set_other (a := ⟨g, 11, none⟩) (Ne.symm hne2) (.int .i64 m.po)).set_other (a := ⟨g, 12, none⟩) (Ne.symm hne2) (.string m.pt))
     have H3n := hid (((H3.out.set 10 (.int .i64 m.pa)).set 11 (.int .i64 m.po)).set 12 (.string m.pt))
     have hbn := ((hbr.setCell (p := ⟨g, 10, none⟩) hqw (.int .i64 m.pa)).setCell (p := ⟨g, 11, none⟩) hqw (.int .i64 m.po)).setCell (p := ⟨g, 12, none⟩) hqw (.string m.pt)
     clear H1 H2 H3 hbr hlet l77 l80
     go_wp2_with fail
     go_roundw
     case rel => exact ⟨k + 1, { acc with pa := m.pa, po := m.po, pt := m.pt }, by go_num, by omega, Hst, H1n, H2n, H3n, hbn⟩
     case measure => simp [intOf]; omega
    ·have e80 : (((F[k]'hks).toNat : Int) == 80) = false := by rw [beq_eq_false_iff_ne]; exact l80
     by_cases l76 : ((F[k]'hks).toNat : Int) = 76
     ·have e76 : (((F[k]'hks).toNat : Int) == 76) = true := by rw [l76]; rfl
      have fl : wr.frozen? ⟨g, 13, none⟩ = false := H3.out.free 13
      have dl : wr.cell? ⟨g, 13, none⟩ = some (.slice acc.la acc.ll acc.lc) := H3.out.cell 13
      have ql : wr.cell? ⟨q, 13, none⟩ = some (.slice m.la m.ll m.lc) := H1.out.cell 13
      have Hst := hid (show { acc with la := m.la, ll := m.ll, lc := m.lc } = zAG m F (k + 1) by rw [HSu.out, ← Hacc.out]; unfold cleanStep; rw [if_neg l77, if_neg l80, if_pos l76])
      have H1n := hid (H1.out.set_other (a := ⟨g, 13, none⟩) (Ne.symm hne) (.slice m.la m.ll m.lc))
      have H2n := hid (H2.out.set_other (a := ⟨g, 13, none⟩) (Ne.symm hne2) (.slice m.la m.ll m.lc))
      have H3n := hid (H3.out.set 13 (.slice m.la m.ll m.lc))
      have hbn := hbr.setCell (p := ⟨g, 13, none⟩) hqw (.slice m.la m.ll m.lc)
      clear H1 H2 H3 hbr hlet l77 l80 l76
      go_wp2_with fail
      go_roundw
      case rel => exact ⟨k + 1, { acc with la := m.la, ll := m.ll, lc := m.lc }, by go_num, by omega, Hst, H1n, H2n, H3n, hbn⟩
      case measure => simp [intOf]; omega
     ·have e76 : (((F[k]'hks).toNat : Int) == 76) = false := by rw [beq_eq_false_iff_ne]; exact l76
      have hnl : NumL ((F[k]'hks).toNat : Int) := by
       rcases hlet with h | h | h | h
       ·exact absurd h l77
       ·exact absurd h l80
       ·exact absurd h l76
       ·exact h
      have HN := hid (fun w1 => zFS m _ hnl w1)
      have HS := hid (fun w1 => set_any acc _ (m.num ((F[k]'hks).toNat : Int)) hnl w1)
      have Hst := hid (show acc.setN ((F[k]'hks).toNat : Int) (m.num ((F[k]'hks).toNat : Int)) = zAG m F (k + 1) by rw [HSu.out, ← Hacc.out]; unfold cleanStep; rw [if_neg l77, if_neg l80, if_neg l76])
      clear hlet l77 l80 l76 hnl
      have hql : g < wr.heap.size := H3.out.lt
      have hqq : q < wr.heap.size := H1.out.lt
      have HK := hid (show ∀ w', Below wr.heap.size wr w' → (w'.cell? ⟨q, 0, none⟩ = some (.int .i64 m.k) ∧ w'.cell? ⟨q, 1, none⟩ = some (.int .i64 m.fr) ∧ w'.cell? ⟨q, 2, none⟩ = some (.int .i64 m.to_) ∧ w'.cell? ⟨q, 3, none⟩ = some (.int .i64 m.bal) ∧ w'.cell? ⟨q, 4, none⟩ = some (.int .i64 m.gen) ∧ w'.cell? ⟨q, 5, none⟩ = some (.int .i64 m.bas) ∧ w'.cell? ⟨q, 6, none⟩ = some (.int .i64 m.fl) ∧ w'.cell? ⟨q, 7, none⟩ = some (.int .i64 m.tp) ∧ w'.cell? ⟨q, 8, none⟩ = some (.int .i64 m.rd) ∧ w'.cell? ⟨q, 9, none⟩ = some (.string m.mrk) ∧ w'.cell? ⟨q, 10, none⟩ = some (.int .i64 m.pa) ∧ w'.cell? ⟨q, 11, none⟩ = some (.int .i64 m.po) ∧ w'.cell? ⟨q, 12, none⟩ = some (.string m.pt) ∧ w'.cell? ⟨q, 13, none⟩ = some (.slice m.la m.ll m.lc)) ∧ (w'.cell? ⟨g, 0, none⟩ = some (.int .i64 acc.k) ∧ w'.cell? ⟨g, 1, none⟩ = some (.int .i64 acc.fr) ∧ w'.cell? ⟨g, 2, none⟩ = some (.int .i64 acc.to_) ∧ w'.cell? ⟨g, 3, none⟩ = some (.int .i64 acc.bal) ∧ w'.cell? ⟨g, 4, none⟩ = some (.int .i64 acc.gen) ∧ w'.cell? ⟨g, 5, none⟩ = some (.int .i64 acc.bas) ∧ w'.cell? ⟨g, 6, none⟩ = some (.int .i64 acc.fl) ∧ w'.cell? ⟨g, 7, none⟩ = some (.int .i64 acc.tp) ∧ w'.cell? ⟨g, 8, none⟩ = some (.int .i64 acc.rd) ∧ w'.cell? ⟨g, 9, none⟩ = some (.string acc.mrk) ∧ w'.cell? ⟨g, 10, none⟩ = some (.int .i64 acc.pa) ∧ w'.cell? ⟨g, 11, none⟩ = some (.int .i64 acc.po) ∧ w'.cell? ⟨g, 12, none⟩ = some (.string acc.pt) ∧ w'.cell? ⟨g, 13, none⟩ = some (.slice acc.la acc.ll acc.lc)) from fun w' hb => ⟨⟨(H1.out.below hb).cell 0, (H1.out.below hb).cell 1, (H1.out.below hb).cell 2, (H1.out.below hb).cell 3, (H1.out.below hb).cell 4, (H1.out.below hb).cell 5, (H1.out.below hb).cell 6, (H1.out.below hb).cell 7, (H1.out.below hb).cell 8, (H1.out.below hb).cell 9, (H1.out.below hb).cell 10, (H1.out.below hb).cell 11, (H1.out.below hb).cell 12, (H1.out.below hb).cell 13⟩, ⟨(H3.out.below hb).cell 0, (H3.out.below hb).cell 1, (H3.out.below hb).cell 2, (H3.out.below hb).cell 3, (H3.out.below hb).cell 4, (H3.out.below hb).cell 5, (H3.out.below hb).cell 6, (H3.out.below hb).cell 7, (H3.out.below hb).cell 8, (H3.out.below hb).cell 9, (H3.out.below hb).cell 10, (H3.out.below hb).cell 11, (H3.out.below hb).cell 12, (H3.out.below hb).cell 13⟩⟩)
      have HK1 := hid (show ∀ w', Below wr.heap.size wr w' → (w'.cell? ⟨q, 0, none⟩ = some (.int .i64 m.k) ∧ w'.cell? ⟨q, 1, none⟩ = some (.int .i64 m.fr) ∧ w'.cell? ⟨q, 2, none⟩ = some (.int .i64 m.to_) ∧ w'.cell? ⟨q, 3, none⟩ = some (.int .i64 m.bal) ∧ w'.cell? ⟨q, 4, none⟩ = some (.int .i64 m.gen) ∧ w'.cell? ⟨q, 5, none⟩ = some (.int .i64 m.bas) ∧ w'.cell? ⟨q, 6, none⟩ = some (.int .i64 m.fl) ∧ w'.cell? ⟨q, 7, none⟩ = some (.int .i64 m.tp) ∧ w'.cell? ⟨q, 8, none⟩ = some (.int .i64 m.rd) ∧ w'.cell? ⟨q, 9, none⟩ = some (.string m.mrk) ∧ w'.cell? ⟨q, 10, none⟩ = some (.int .i64 m.pa) ∧ w'.cell? ⟨q, 11, none⟩ = some (.int .i64 m.po) ∧ w'.cell? ⟨q, 12, none⟩ = some (.string m.pt) ∧ w'.cell? ⟨q, 13, none⟩ = some (.slice m.la m.ll m.lc)) from fun w' hb => ⟨(H1.out.below hb).cell 0, (H1.out.below hb).cell 1, (H1.out.below hb).cell 2, (H1.out.below hb).cell 3, (H1.out.below hb).cell 4, (H1.out.below hb).cell 5, (H1.out.below hb).cell 6, (H1.out.below hb).cell 7, (H1.out.below hb).cell 8, (H1.out.below hb).cell 9, (H1.out.below hb).cell 10, (H1.out.below hb).cell 11, (H1.out.below hb).cell 12, (H1.out.below hb).cell 13⟩)
      have HKS := hid (show ∀ (o : MG) ws, Below wr.heap.size wr ws → ((set14 ws g o).cell? ⟨q, 0, none⟩ = some (.int .i64 m.k) ∧ (set14 ws g o).cell? ⟨q, 1, none⟩ = some (.int .i64 m.fr) ∧ (set14 ws g o).cell? ⟨q, 2, none⟩ = some (.int .i64 m.to_) ∧ (set14 ws g o).cell? ⟨q, 3, none⟩ = some (.int .i64 m.bal) ∧ (set14 ws g o).cell? ⟨q, 4, none⟩ = some (.int .i64 m.gen) ∧ (set14 ws g o).cell? ⟨q, 5, none⟩ = some (.int .i64 m.bas) ∧ (set14 ws g o).cell? ⟨q, 6, none⟩ = some (.int .i64 m.fl) ∧ (set14 ws g o).cell? ⟨q, 7, none⟩ = some (.int .i64 m.tp) ∧ (set14 ws g o).cell? ⟨q, 8, none⟩ = some (.int .i64 m.rd) ∧ (set14 ws g o).cell? ⟨q, 9, none⟩ = some (.string m.mrk) ∧ (set14 ws g o).cell? ⟨q, 10, none⟩ = some (.int .i64 m.pa) ∧ (set14 ws g o).cell? ⟨q, 11, none⟩ = some (.int .i64 m.po) ∧ (set14 ws g o).cell? ⟨q, 12, none⟩ = some (.string m.pt) ∧ (set14 ws g o).cell? ⟨q, 13, none⟩ = some (.slice m.la m.ll m.lc)) from fun o ws hb => by
       have hh := zDj (H1.out.below hb) (Ne.symm hne) (.int .i64 o.k) (.int .i64 o.fr) (.int .i64 o.to_) (.int .i64 o.bal) (.int .i64 o.gen) (.int .i64 o.bas) (.int .i64 o.fl) (.int .i64 o.tp) (.int .i64 o.rd) (.string o.mrk) (.int .i64 o.pa) (.int .i64 o.po) (.string o.pt) (.slice o.la o.ll o.lc)
       exact ⟨hh.cell 0, hh.cell 1, hh.cell 2, hh.cell 3, hh.cell 4, hh.cell 5, hh.cell 6, hh.cell 7, hh.cell 8, hh.cell 9, hh.cell 10, hh.cell 11, hh.cell 12, hh.cell 13⟩)
      have hk0 := HK.out wr.drew (Below.refl _ _).drew
      have f3 : ∀ w', Below wr.heap.size wr w' → ∀ j, w'.frozen? ⟨g, j, none⟩ = false := fun w' hb j => (H3.out.below hb).free j
      have HF3 := hid f3
      clear f3
      obtain ⟨hc1, d0, d1, d2, d3, d4, d5, d6, d7, d8, d9, d10, d11, d12, d13⟩ := hk0
      go_upto_region 7 with fail
      refine wp_region_noPanic ?_
      refine wp_region_held_drew (S := (fun w' => w'.cell? ⟨q, 0, none⟩ = some (.int .i64 m.k) ∧ w'.cell? ⟨q, 1, none⟩ = some (.int .i64 m.fr) ∧ w'.cell? ⟨q, 2, none⟩ = some (.int .i64 m.to_) ∧ w'.cell? ⟨q, 3, none⟩ = some (.int .i64 m.bal) ∧ w'.cell? ⟨q, 4, none⟩ = some (.int .i64 m.gen) ∧ w'.cell? ⟨q, 5, none⟩ = some (.int .i64 m.bas) ∧ w'.cell? ⟨q, 6, none⟩ = some (.int .i64 m.fl) ∧ w'.cell? ⟨q, 7, none⟩ = some (.int .i64 m.tp) ∧ w'.cell? ⟨q, 8, none⟩ = some (.int .i64 m.rd) ∧ w'.cell? ⟨q, 9, none⟩ = some (.string m.mrk) ∧ w'.cell? ⟨q, 10, none⟩ = some (.int .i64 m.pa) ∧ w'.cell? ⟨q, 11, none⟩ = some (.int .i64 m.po) ∧ w'.cell? ⟨q, 12, none⟩ = some (.string m.pt) ∧ w'.cell? ⟨q, 13, none⟩ = some (.slice m.la m.ll m.lc))) (by kernel_rfl) ?_ (fun hHeld => ?_)
      ·((try dsimp only); (first | with_reducible exact hc1 | with_reducible exact HK1.out _ (by assumption) | with_reducible exact HKS.out _ _ (by assumption) | go_keep))
      refine htk 1 (v := ?_) (hy := fun w hSw => ?_) (h := ?_)
      rotate_left
      ·((try dsimp only at hSw); go_simp; (try with_reducible rfl))
      (try simp only [Act.put, List.setIfInBounds_toArray, List.set_cons_zero, List.set_cons_succ])
      refine htk 2 (v := ?_) (hy := fun w hSw => ?_) (h := ?_)
      rotate_left
      ·((try dsimp only at hSw); go_simp; (try with_reducible rfl))
      (try simp only [Act.put, List.setIfInBounds_toArray, List.set_cons_zero, List.set_cons_succ])
      refine htk 4 (v := ?_) (hy := fun w hSw => ?_) (h := ?_)
      rotate_left
      ·((try dsimp only at hSw); go_simp; (try with_reducible rfl))
      (try simp only [Act.put, List.setIfInBounds_toArray, List.set_cons_zero, List.set_cons_succ])
      refine htk 5 (v := ?_) (hy := fun w hSw => ?_) (h := ?_)
      rotate_left
      ·((try dsimp only at hSw); go_simp; (try with_reducible rfl))
      (try simp only [Act.put, List.setIfInBounds_toArray, List.set_cons_zero, List.set_cons_succ])
      refine htk 6 (v := ?_) (hy := fun w hSw => ?_) (h := ?_)
      rotate_left
      ·((try dsimp only at hSw); go_simp; (try with_reducible rfl))
      (try simp only [Act.put, List.setIfInBounds_toArray, List.set_cons_zero, List.set_cons_succ])
      refine wpAnyH_ready (rs := [0, 3, 7]) (by kernel_rfl) (by simp) (zAn rfl (fun K hK => ?_) (zAn rfl (fun K hK => ?_) (zAn rfl (fun K hK => ?_) AllReadyH.nil)))
      all_goals go_simp
      all_goals
       refine hK.out _ _ ?_ (fun hHeld => ?_)
       focus ((try dsimp only); (first | with_reducible exact hc1 | with_reducible exact HK1.out _ (by assumption) | with_reducible exact HKS.out _ _ (by assumption) | go_keep))
       clear hK K
       (try simp only [Act.put, List.setIfInBounds_toArray, List.set_cons_zero, List.set_cons_succ])
      refine wpAnyH_ready (rs := [3, 7]) (by kernel_rfl) (by simp) (zAn rfl (fun K hK => ?_) (zAn rfl (fun K hK => ?_) AllReadyH.nil)); rotate_left 2
      refine wpAnyH_ready (rs := [0, 7]) (by kernel_rfl) (by simp) (zAn rfl (fun K hK => ?_) (zAn rfl (fun K hK => ?_) AllReadyH.nil)); rotate_left 2
      refine wpAnyH_ready (rs := [0, 3, 8]) (by kernel_rfl) (by simp) (zAn rfl (fun K hK => ?_) (zAn rfl (fun K hK => ?_) (zAn rfl (fun K hK => ?_) AllReadyH.nil))); rotate_left 3
      all_goals go_simp
      rotate_left 6; focus ((go_at_call 50; refine (HN.out _).mono ?_; rintro e wn ⟨rfl, hbn⟩; have hbn2 := zAd ((Below.refl wr.heap.size wr).drew) hbn; obtain ⟨_, n0, n1, n2, n3, n4, n5, n6, n7, n8, n9, n10, n11, n12, n13⟩ := HK.out wn hbn2; clear hbn); go_wp2_with fail)
      rotate_left 1
      all_goals
       refine hK.out _ _ ?_ (fun hHeld => ?_)
       focus ((try dsimp only); (first | with_reducible exact hc1 | with_reducible exact HK1.out _ (by assumption) | with_reducible exact HKS.out _ _ (by assumption) | go_keep))
       clear hK K
       (try simp only [Act.put, List.setIfInBounds_toArray, List.set_cons_zero, List.set_cons_succ])
      refine hon 7 (h := fun K hK => ?_); rotate_left 1
      refine wpAnyH_ready (rs := [3, 8]) (by kernel_rfl) (by simp) (zAn rfl (fun K hK => ?_) (zAn rfl (fun K hK => ?_) AllReadyH.nil)); rotate_left 2
      refine hon 7 (h := fun K hK => ?_); rotate_left 1
      refine wpAnyH_ready (rs := [0, 8]) (by kernel_rfl) (by simp) (zAn rfl (fun K hK => ?_) (zAn rfl (fun K hK => ?_) AllReadyH.nil)); rotate_left 2
      refine wpAnyH_ready (rs := [3, 8]) (by kernel_rfl) (by simp) (zAn rfl (fun K hK => ?_) (zAn rfl (fun K hK => ?_) AllReadyH.nil)); rotate_left 2
      refine wpAnyH_ready (rs := [0, 8]) (by kernel_rfl) (by simp) (zAn rfl (fun K hK => ?_) (zAn rfl (fun K hK => ?_) AllReadyH.nil)); rotate_left 2
      refine wpAnyH_ready (rs := [0, 3]) (by kernel_rfl) (by simp) (zAn rfl (fun K hK => ?_) (zAn rfl (fun K hK => ?_) AllReadyH.nil)); rotate_left 2
      all_goals go_simp
      rotate_left 2; focus ((go_at_call 50; refine (HN.out _).mono ?_; rintro e wn ⟨rfl, hbn⟩; have hbn2 := zAd ((Below.refl wr.heap.size wr).drew) hbn; obtain ⟨_, n0, n1, n2, n3, n4, n5, n6, n7, n8, n9, n10, n11, n12, n13⟩ := HK.out wn hbn2; clear hbn); go_wp2_with fail)
      rotate_left 1
      rotate_left 2; focus ((go_at_call 50; refine (HN.out _).mono ?_; rintro e wn ⟨rfl, hbn⟩; have hbn2 := zAd ((Below.refl wr.heap.size wr).drew) hbn; obtain ⟨_, n0, n1, n2, n3, n4, n5, n6, n7, n8, n9, n10, n11, n12, n13⟩ := HK.out wn hbn2; clear hbn); go_wp2_with fail)
      rotate_left 1
      rotate_left 1; focus ((go_at_call 50; refine (HN.out _).mono ?_; rintro e wn ⟨rfl, hbn⟩; have hbn2 := zAd ((Below.refl wr.heap.size wr).drew) hbn; obtain ⟨_, n0, n1, n2, n3, n4, n5, n6, n7, n8, n9, n10, n11, n12, n13⟩ := HK.out wn hbn2; clear hbn); go_wp2_with fail)
      rotate_left 1
      rotate_left 1; focus ((go_at_call 50; refine (HN.out _).mono ?_; rintro e wn ⟨rfl, hbn⟩; have hbn2 := zAd ((Below.refl wr.heap.size wr).drew) hbn; obtain ⟨_, n0, n1, n2, n3, n4, n5, n6, n7, n8, n9, n10, n11, n12, n13⟩ := HK.out wn hbn2; clear hbn); go_wp2_with fail)
      rotate_left 1
      rotate_left 2
      all_goals
       refine hK.out _ _ ?_ (fun hHeld => ?_)
       focus ((try dsimp only); (first | with_reducible exact hc1 | with_reducible exact HK1.out _ (by assumption) | with_reducible exact HKS.out _ _ (by assumption) | go_keep))
       clear hK K
       (try simp only [Act.put, List.setIfInBounds_toArray, List.set_cons_zero, List.set_cons_succ])
      refine hon 8 (h := fun K hK => ?_); rotate_left 1
      refine hon 8 (h := fun K hK => ?_); rotate_left 1
      refine hon 3 (h := fun K hK => ?_); rotate_left 1
      refine hon 8 (h := fun K hK => ?_); rotate_left 1
      refine hon 8 (h := fun K hK => ?_); rotate_left 1
      refine hon 0 (h := fun K hK => ?_); rotate_left 1
      refine hon 8 (h := fun K hK => ?_); rotate_left 1
      refine hon 3 (h := fun K hK => ?_); rotate_left 1
      refine hon 8 (h := fun K hK => ?_); rotate_left 1
      refine hon 0 (h := fun K hK => ?_); rotate_left 1
      refine hon 3 (h := fun K hK => ?_); rotate_left 1
      refine hon 0 (h := fun K hK => ?_); rotate_left 1
      all_goals go_simp
      focus ((go_at_call 50; refine (HN.out _).mono ?_; rintro e wn ⟨rfl, hbn⟩; have hbn2 := zAd ((Below.refl wr.heap.size wr).drew) hbn; obtain ⟨_, n0, n1, n2, n3, n4, n5, n6, n7, n8, n9, n10, n11, n12, n13⟩ := HK.out wn hbn2; clear hbn); go_wp2_with fail)
      rotate_left 1
      focus ((go_at_call 50; refine (HN.out _).mono ?_; rintro e wn ⟨rfl, hbn⟩; have hbn2 := zAd ((Below.refl wr.heap.size wr).drew) hbn; obtain ⟨_, n0, n1, n2, n3, n4, n5, n6, n7, n8, n9, n10, n11, n12, n13⟩ := HK.out wn hbn2; clear hbn); go_wp2_with fail)
      rotate_left 1
      rotate_left 1; focus ((go_at_call 50; refine (HN.out _).mono ?_; rintro e wn ⟨rfl, hbn⟩; have hbn2 := zAd ((Below.refl wr.heap.size wr).drew) hbn; obtain ⟨_, n0, n1, n2, n3, n4, n5, n6, n7, n8, n9, n10, n11, n12, n13⟩ := HK.out wn hbn2; clear hbn); go_wp2_with fail)
      rotate_left 1
      focus ((go_at_call 50; refine (HN.out _).mono ?_; rintro e wn ⟨rfl, hbn⟩; have hbn2 := zAd ((Below.refl wr.heap.size wr).drew) hbn; obtain ⟨_, n0, n1, n2, n3, n4, n5, n6, n7, n8, n9, n10, n11, n12, n13⟩ := HK.out wn hbn2; clear hbn); go_wp2_with fail)
      rotate_left 1
      rotate_left 1; focus ((go_at_call 50; refine (HN.out _).mono ?_; rintro e wn ⟨rfl, hbn⟩; have hbn2 := zAd ((Below.refl wr.heap.size wr).drew) hbn; obtain ⟨_, n0, n1, n2, n3, n4, n5, n6, n7, n8, n9, n10, n11, n12, n13⟩ := HK.out wn hbn2; clear hbn); go_wp2_with fail)
      rotate_left 1
      rotate_left 1; focus ((go_at_call 50; refine (HN.out _).mono ?_; rintro e wn ⟨rfl, hbn⟩; have hbn2 := zAd ((Below.refl wr.heap.size wr).drew) hbn; obtain ⟨_, n0, n1, n2, n3, n4, n5, n6, n7, n8, n9, n10, n11, n12, n13⟩ := HK.out wn hbn2; clear hbn); go_wp2_with fail)
      rotate_left 1
      rotate_left 3
      all_goals
       refine hK.out _ _ ?_ (fun hHeld => ?_)
       focus ((try dsimp only); (first | with_reducible exact hc1 | with_reducible exact HK1.out _ (by assumption) | with_reducible exact HKS.out _ _ (by assumption) | go_keep))
       clear hK K
       (try simp only [Act.put, List.setIfInBounds_toArray, List.set_cons_zero, List.set_cons_succ])
      all_goals refine hon 9 (h := fun K hK => ?_)
      all_goals go_simp
      all_goals ((go_at_call 49; refine (HS.out _).mono ?_; rintro e ws ⟨o, ho, rfl, hbs⟩; have hbs2 := zAd hbn2 hbs; clear n0 n1 n2 n3 n4 n5 n6 n7 n8 n9 n10 n11 n12 n13 d0 d1 d2 d3 d4 d5 d6 d7 d8 d9 d10 d11 d12 d13 hc1 e77 e80 e76; obtain ⟨_, s0, s1, s2, s3, s4, s5, s6, s7, s8, s9, s10, s11, s12, s13⟩ := HK.out ws hbs2; obtain ⟨g0, g1, g2, g3, g4, g5, g6, g7, g8, g9, g10, g11, g12, g13⟩ := all14 (HF3.out ws hbs2)); go_wp2_with fail)
      all_goals
       refine hK.out _ _ ?_ (fun hHeld => ?_)
       focus ((try dsimp only); (first | with_reducible exact hc1 | with_reducible exact HK1.out _ (by assumption) | with_reducible exact HKS.out _ _ (by assumption) | go_keep))
       clear hK K
       (try simp only [Act.put, List.setIfInBounds_toArray, List.set_cons_zero, List.set_cons_succ])
      all_goals refine hon 10 (h := fun K hK => ?_)
      all_goals go_simp
      all_goals
       refine hK.out _ _ ?_ (fun hHeld => ?_)
       focus ((try dsimp only); (first | with_reducible exact hc1 | with_reducible exact HK1.out _ (by assumption) | with_reducible exact HKS.out _ _ (by assumption) | go_keep))
       clear hK K
       (try simp only [Act.put, List.setIfInBounds_toArray, List.set_cons_zero, List.set_cons_succ])
      all_goals refine wpAnyH_done (by kernel_rfl) ?_ _
      all_goals (refine NoPanic.normal ?_)
      all_goals as_aux_lemma =>
       have H1n := hid (zDj (H1.out.below hbs2) (Ne.symm hne) (.int .i64 o.k) (.int .i64 o.fr) (.int .i64 o.to_) (.int .i64 o.bal) (.int .i64 o.gen) (.int .i64 o.bas) (.int .i64 o.fl) (.int .i64 o.tp) (.int .i64 o.rd) (.string o.mrk) (.int .i64 o.pa) (.int .i64 o.po) (.string o.pt) (.slice o.la o.ll o.lc))
       have H2n := hid (zDj (H2.out.below hbs2) (Ne.symm hne2) (.int .i64 o.k) (.int .i64 o.fr) (.int .i64 o.to_) (.int .i64 o.bal) (.int .i64 o.gen) (.int .i64 o.bas) (.int .i64 o.fl) (.int .i64 o.tp) (.int .i64 o.rd) (.string o.mrk) (.int .i64 o.pa) (.int .i64 o.po) (.string o.pt) (.slice o.la o.ll o.lc))
       have H3n := hid (set14_own (H3.out.below hbs2) (.int .i64 o.k) (.int .i64 o.fr) (.int .i64 o.to_) (.int .i64 o.bal) (.int .i64 o.gen) (.int .i64 o.bas) (.int .i64 o.fl) (.int .i64 o.tp) (.int .i64 o.rd) (.string o.mrk) (.int .i64 o.pa) (.int .i64 o.po) (.string o.pt) (.slice o.la o.ll o.lc))
       have hbn := zAT (hbr.trans (hbs2.mono hbr.size)) hqw (.int .i64 o.k) (.int .i64 o.fr) (.int .i64 o.to_) (.int .i64 o.bal) (.int .i64 o.gen) (.int .i64 o.bas) (.int .i64 o.fl) (.int .i64 o.tp) (.int .i64 o.rd) (.string o.mrk) (.int .i64 o.pa) (.int .i64 o.po) (.string o.pt) (.slice o.la o.ll o.lc)
       have HAo := hid (show o = zAG m F (k + 1) by rw [ho.out]; exact Hst.out)
       clear H1 H2 H3 HK HK1 HKS HF3 HN HS hbs hbs2 hbr s0 s1 s2 s3 s4 s5 s6 s7 s8 s9 s10 s11 s12 s13 g0 g1 g2 g3 g4 g5 g6 g7 g8 g9 g10 g11 g12 g13
       go_wp2_with fail
       go_roundw
       case rel => exact ⟨k + 1, o, by go_num, by omega, HAo, H1n, H2n, H3n, hbn⟩
       case measure => simp [intOf]; omega
  ·obtain rfl : k = F.size := by omega
   obtain ⟨d0, d1, d2, d3, d4, d5, d6, d7, d8, d9, d10, d11, d12, d13⟩ := (blk14 H3.out).1
   obtain ⟨y0, y1, y2, y3, y4, y5, y6, y7, y8, y9, y10, y11, y12, y13⟩ := (blk14 H2.out).1
   have fy : ∀ j, wr.frozen? ⟨q + 1, j, none⟩ = false := fun j => H2.out.free j
   have hqw1 : w.heap.size ≤ q + 1 := by have := Hq.out; omega
   have HB := hid ((((((((((((((hbr.setCell (p := ⟨q + 1, 0, none⟩) hqw1 (.int .i64 acc.k)).setCell (p := ⟨q + 1, 1, none⟩) hqw1 (.int .i64 acc.fr)).setCell (p := ⟨q + 1, 2, none⟩) hqw1 (.int .i64 acc.to_)).setCell (p := ⟨q + 1, 3, none⟩) hqw1 (.int .i64 acc.bal)).setCell (p := ⟨q + 1, 4, none⟩) hqw1 (.int .i64 acc.gen)).setCell (p := ⟨q + 1, 5, none⟩) hqw1 (.int .i64 acc.bas)).setCell (p := ⟨q + 1, 6, none⟩) hqw1 (.int .i64 acc.fl)).setCell (p := ⟨q + 1, 7, none⟩) hqw1 (.int .i64 acc.tp)).setCell (p := ⟨q + 1, 8, none⟩) hqw1 (.int .i64 acc.rd)).setCell (p := ⟨q + 1, 9, none⟩) hqw1 (.string acc.mrk)).setCell (p := ⟨q + 1, 10, none⟩) hqw1 (.int .i64 acc.pa)).setCell (p := ⟨q + 1, 11, none⟩) hqw1 (.int .i64 acc.po)).setCell (p := ⟨q + 1, 12, none⟩) hqw1 (.string acc.pt)).setCell (p := ⟨q + 1, 13, none⟩) hqw1 (.slice acc.la acc.ll acc.lc))
   clear H1 H2 H3 hbr
   go_wp2_with fail
   refine bodyPost_ret (v := .agg #[.int .i64 acc.k, .int .i64 acc.fr, .int .i64 acc.to_, .int .i64 acc.bal, .int .i64 acc.gen, .int .i64 acc.bas, .int .i64 acc.fl, .int .i64 acc.tp, .int .i64 acc.rd, .string acc.mrk, .int .i64 acc.pa, .int .i64 acc.po, .string acc.pt, .slice acc.la acc.ll acc.lc]) ?_ rfl ⟨acc, Hacc, rfl, HB.out⟩
   simp [results, Tryz.results31, go_sem, y0, y1, y2, y3, y4, y5, y6, y7, y8, y9, y10, y11, y12, y13]
end Go.Proofs.YtaemlplcjjbamaaGreatDoor
