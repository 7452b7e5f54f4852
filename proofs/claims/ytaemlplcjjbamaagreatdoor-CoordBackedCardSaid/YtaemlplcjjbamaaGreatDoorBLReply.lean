/- The walk of the statement's reply (layer 20) at whatever mes -/
import Derived.Test.YtaemlplcjjbamaaGreatDoorBCClean
namespace Go.Proofs.YtaemlplcjjbamaaGreatDoor
open Go.Lib (hid)
set_option maxRecDepth 100000
set_option maxHeartbeats 8000000
open Go Go.RowKit
set_option linter.unusedVariables false
def Bare (m : MG) : Prop := m.la = none ∧ m.ll = 0 ∧ m.lc = 0 ∧ m.pt = ⟨#[]⟩
theorem Bare.setN {m : MG} (h : Bare m) (c n : Int) : Bare (m.setN c n) := by
 unfold MG.setN
 split
 ·exact h
 ·split
  ·exact h
  ·split
   ·exact h
   ·split
    ·exact h
    ·split
     ·exact h
     ·exact h
theorem Bare.clean {m : MG} (h : Bare m) (F : ByteArray) : ∀ k, Bare (zAG m F k)
 | 0 => ⟨rfl, rfl, rfl, rfl⟩
 | k + 1 => by
  have ih := Bare.clean h F k
  show Bare (if h : k < F.size then _ else _)
  split
  ·unfold cleanStep
   split
   ·exact ih
   ·split
    ·exact ⟨ih.1, ih.2.1, ih.2.2.1, h.2.2.2⟩
    ·split
     ·exact ⟨h.1, h.2.1, h.2.2.1, ih.2.2.2⟩
     ·exact ih.setN _ _
  ·exact ih
def zBi (w : World) (e : Ending) (w' : World) : Prop := ∃ o : MG, e = .returned (.agg #[.int .i64 o.k, .int .i64 o.fr, .int .i64 o.to_, .int .i64 o.bal, .int .i64 o.gen, .int .i64 o.bas, .int .i64 o.fl, .int .i64 o.tp, .int .i64 o.rd, .string o.mrk, .int .i64 o.pa, .int .i64 o.po, .string o.pt, .slice o.la o.ll o.lc]) ∧ Bare o ∧ Below w.heap.size w w'
theorem clean_bare (M : MG) (hb : Bare M) (w1 : World) : Calls Tryz.prog 31 #[.agg #[.int .i64 M.k, .int .i64 M.fr, .int .i64 M.to_, .int .i64 M.bal, .int .i64 M.gen, .int .i64 M.bas, .int .i64 M.fl, .int .i64 M.tp, .int .i64 M.rd, .string M.mrk, .int .i64 M.pa, .int .i64 M.po, .string M.pt, .slice M.la M.ll M.lc]] w1 fun e w' => ∃ o : MG, Hid (Bare o) ∧ e = .returned (.agg #[.int .i64 o.k, .int .i64 o.fr, .int .i64 o.to_, .int .i64 o.bal, .int .i64 o.gen, .int .i64 o.bas, .int .i64 o.fl, .int .i64 o.tp, .int .i64 o.rd, .string o.mrk, .int .i64 o.pa, .int .i64 o.po, .string o.pt, .slice o.la o.ll o.lc]) ∧ Below w1.heap.size w1 w' :=
 (zBz M w1).mono (fun e w' h => by
  obtain ⟨o, ho, h1, h2⟩ := h
  exact ⟨o, hid (by rw [ho.out]; exact Bare.clean hb _ _), h1, h2⟩)
theorem three_new (w : World) (oA oC : Obj) (zs : Array Value) (T : TypeId) : Blk (((w.alloc oA).alloc (.cells zs T)).alloc oC) (w.heap.size + 1) zs.toList T ∧ Below w.heap.size w (((w.alloc oA).alloc (.cells zs T)).alloc oC) := by
 have h := (Blk.new (w.alloc oA) zs.toList T).alloc oC
 rw [show (w.alloc oA).heap.size = w.heap.size + 1 by simp] at h
 exact ⟨h, (((Below.refl w.heap.size w).alloc (Nat.le_refl _) oA).alloc (by simp) _).alloc (by simp; omega) oC⟩
theorem lreply_1 (m : MG) (id : Int) (w : World) : Calls Tryz.prog 32 #[.agg #[.int .i64 1, .int .i64 m.fr, .int .i64 m.to_, .int .i64 m.bal, .int .i64 m.gen, .int .i64 m.bas, .int .i64 m.fl, .int .i64 m.tp, .int .i64 m.rd, .string m.mrk, .int .i64 m.pa, .int .i64 m.po, .string m.pt, .slice m.la m.ll m.lc], .int .i64 id] w (zBi w) := by
 have HC := hid (clean_bare ⟨2, m.to_, id, m.bal, m.gen, 0, m.fl, 0, m.rd, m.mrk, 0, 0, ⟨#[]⟩, none, 0, 0⟩ ⟨rfl, rfl, rfl, rfl⟩)
 go_enter Tryz.func32, Tryz.ntmps32
 go_wp2_with fail
 generalize (Obj.cells #[.int .i64 1, .int .i64 m.fr, .int .i64 m.to_, .int .i64 m.bal, .int .i64 m.gen, .int .i64 m.bas, .int .i64 m.fl, .int .i64 m.tp, .int .i64 m.rd, .string m.mrk, .int .i64 m.pa, .int .i64 m.po, .string m.pt, .slice m.la m.ll m.lc] 30) = oA
 generalize (Obj.cells #[.int .i64 2, .int .i64 m.to_, .int .i64 id, .int .i64 m.bal, .int .i64 m.gen, .int .i64 0, .int .i64 m.fl, .int .i64 0, .int .i64 m.rd, .string m.mrk, .int .i64 0, .int .i64 0, .string ⟨#[]⟩, .slice none 0 0] 30) = oC
 have hN := three_new w oA oC #[.int .i64 0, .int .i64 0, .int .i64 0, .int .i64 0, .int .i64 0, .int .i64 0, .int .i64 0, .int .i64 0, .int .i64 0, .string ⟨#[]⟩, .int .i64 0, .int .i64 0, .string ⟨#[]⟩, .slice none 0 0] 30
 have hgw : w.heap.size ≤ w.heap.size + 1 := by omega
 generalize ((w.alloc oA).alloc (.cells #[.int .i64 0, .int .i64 0, .int .i64 0, .int .i64 0, .int .i64 0, .int .i64 0, .int .i64 0, .int .i64 0, .int .i64 0, .string ⟨#[]⟩, .int .i64 0, .int .i64 0, .string ⟨#[]⟩, .slice none 0 0] 30)).alloc oC = w0 at hN ⊢
 obtain ⟨Y2, b0⟩ := hN
 have HY0 := hid Y2
 clear Y2
 generalize w.heap.size + 1 = g at HY0 hgw ⊢
 refine (HC.out w0).mono ?_
 rintro e w1 ⟨o, ho, rfl, hb1'⟩
 have HY := hid (HY0.out.below hb1')
 have HB1 := hid (zAd b0 hb1')
 obtain ⟨⟨y0, y1, y2, y3, y4, y5, y6, y7, y8, y9, y10, y11, y12, y13⟩, fa⟩ := blk14 HY.out
 obtain ⟨f0, f1, f2, f3, f4, f5, f6, f7, f8, f9, f10, f11, f12, f13⟩ := all14 fa
 clear HC HY0 b0 hb1'
 have HB := hid (zAT HB1.out hgw (.int .i64 o.k) (.int .i64 o.fr) (.int .i64 o.to_) (.int .i64 o.bal) (.int .i64 o.gen) (.int .i64 o.bas) (.int .i64 o.fl) (.int .i64 o.tp) (.int .i64 o.rd) (.string o.mrk) (.int .i64 o.pa) (.int .i64 o.po) (.string o.pt) (.slice o.la o.ll o.lc))
 go_wp2_with fail
 refine bodyPost_ret (v := .agg #[.int .i64 o.k, .int .i64 o.fr, .int .i64 o.to_, .int .i64 o.bal, .int .i64 o.gen, .int .i64 o.bas, .int .i64 o.fl, .int .i64 o.tp, .int .i64 o.rd, .string o.mrk, .int .i64 o.pa, .int .i64 o.po, .string o.pt, .slice o.la o.ll o.lc]) ?_ rfl ⟨o, rfl, ho.out, HB.out⟩
 simp [results, Tryz.results32, go_sem, y0, y1, y2, y3, y4, y5, y6, y7, y8, y9, y10, y11, y12, y13]
theorem lreply_4 (m : MG) (id : Int) (w : World) : Calls Tryz.prog 32 #[.agg #[.int .i64 4, .int .i64 m.fr, .int .i64 m.to_, .int .i64 m.bal, .int .i64 m.gen, .int .i64 m.bas, .int .i64 m.fl, .int .i64 m.tp, .int .i64 m.rd, .string m.mrk, .int .i64 m.pa, .int .i64 m.po, .string m.pt, .slice m.la m.ll m.lc], .int .i64 id] w (zBi w) := by
 have HC := hid (clean_bare ⟨5, m.to_, id, m.bal, m.gen, 0, m.fl, 0, wrap64 (wrap64 (m.po - 1) - m.pa), m.mrk, 0, 0, ⟨#[]⟩, none, 0, 0⟩ ⟨rfl, rfl, rfl, rfl⟩)
 go_enter Tryz.func32, Tryz.ntmps32
 go_wp2_with fail
 generalize (Obj.cells #[.int .i64 4, .int .i64 m.fr, .int .i64 m.to_, .int .i64 m.bal, .int .i64 m.gen, .int .i64 m.bas, .int .i64 m.fl, .int .i64 m.tp, .int .i64 m.rd, .string m.mrk, .int .i64 m.pa, .int .i64 m.po, .string m.pt, .slice m.la m.ll m.lc] 30) = oA
 generalize (Obj.cells #[.int .i64 5, .int .i64 m.to_, .int .i64 id, .int .i64 m.bal, .int .i64 m.gen, .int .i64 0, .int .i64 m.fl, .int .i64 0, .int .i64 (wrap64 (wrap64 (m.po - 1) - m.pa)), .string m.mrk, .int .i64 0, .int .i64 0, .string ⟨#[]⟩, .slice none 0 0] 30) = oC
 have hN := three_new w oA oC #[.int .i64 0, .int .i64 0, .int .i64 0, .int .i64 0, .int .i64 0, .int .i64 0, .int .i64 0, .int .i64 0, .int .i64 0, .string ⟨#[]⟩, .int .i64 0, .int .i64 0, .string ⟨#[]⟩, .slice none 0 0] 30
 have hgw : w.heap.size ≤ w.heap.size + 1 := by omega
 generalize ((w.alloc oA).alloc (.cells #[.int .i64 0, .int .i64 0, .int .i64 0, .int .i64 0, .int .i64 0, .int .i64 0, .int .i64 0, .int .i64 0, .int .i64 0, .string ⟨#[]⟩, .int .i64 0, .int .i64 0, .string ⟨#[]⟩, .slice none 0 0] 30)).alloc oC = w0 at hN ⊢
 obtain ⟨Y2, b0⟩ := hN
 have HY0 := hid Y2
 clear Y2
 generalize w.heap.size + 1 = g at HY0 hgw ⊢
 refine (HC.out w0).mono ?_
 rintro e w1 ⟨o, ho, rfl, hb1'⟩
 have HY := hid (HY0.out.below hb1')
 have HB1 := hid (zAd b0 hb1')
 obtain ⟨⟨y0, y1, y2, y3, y4, y5, y6, y7, y8, y9, y10, y11, y12, y13⟩, fa⟩ := blk14 HY.out
 obtain ⟨f0, f1, f2, f3, f4, f5, f6, f7, f8, f9, f10, f11, f12, f13⟩ := all14 fa
 clear HC HY0 b0 hb1'
 have HB := hid (zAT HB1.out hgw (.int .i64 o.k) (.int .i64 o.fr) (.int .i64 o.to_) (.int .i64 o.bal) (.int .i64 o.gen) (.int .i64 o.bas) (.int .i64 o.fl) (.int .i64 o.tp) (.int .i64 o.rd) (.string o.mrk) (.int .i64 o.pa) (.int .i64 o.po) (.string o.pt) (.slice o.la o.ll o.lc))
 go_wp2_with fail
 refine bodyPost_ret (v := .agg #[.int .i64 o.k, .int .i64 o.fr, .int .i64 o.to_, .int .i64 o.bal, .int .i64 o.gen, .int .i64 o.bas, .int .i64 o.fl, .int .i64 o.tp, .int .i64 o.rd, .string o.mrk, .int .i64 o.pa, .int .i64 o.po, .string o.pt, .slice o.la o.ll o.lc]) ?_ rfl ⟨o, rfl, ho.out, HB.out⟩
 simp [results, Tryz.results32, go_sem, y0, y1, y2, y3, y4, y5, y6, y7, y8, y9, y10, y11, y12, y13]
theorem lreply_7 (m : MG) (id : Int) (w : World) : Calls Tryz.prog 32 #[.agg #[.int .i64 7, .int .i64 m.fr, .int .i64 m.to_, .int .i64 m.bal, .int .i64 m.gen, .int .i64 m.bas, .int .i64 m.fl, .int .i64 m.tp, .int .i64 m.rd, .string m.mrk, .int .i64 m.pa, .int .i64 m.po, .string m.pt, .slice m.la m.ll m.lc], .int .i64 id] w (zBi w) := by
 have HC := hid (clean_bare ⟨8, m.to_, id, m.bal, m.gen, 0, m.fl, 0, m.rd, m.mrk, 0, 0, ⟨#[]⟩, none, 0, 0⟩ ⟨rfl, rfl, rfl, rfl⟩)
 go_enter Tryz.func32, Tryz.ntmps32
 go_wp2_with fail
 generalize (Obj.cells #[.int .i64 7, .int .i64 m.fr, .int .i64 m.to_, .int .i64 m.bal, .int .i64 m.gen, .int .i64 m.bas, .int .i64 m.fl, .int .i64 m.tp, .int .i64 m.rd, .string m.mrk, .int .i64 m.pa, .int .i64 m.po, .string m.pt, .slice m.la m.ll m.lc] 30) = oA
 generalize (Obj.cells #[.int .i64 8, .int .i64 m.to_, .int .i64 id, .int .i64 m.bal, .int .i64 m.gen, .int .i64 0, .int .i64 m.fl, .int .i64 0, .int .i64 m.rd, .string m.mrk, .int .i64 0, .int .i64 0, .string ⟨#[]⟩, .slice none 0 0] 30) = oC
 have hN := three_new w oA oC #[.int .i64 0, .int .i64 0, .int .i64 0, .int .i64 0, .int .i64 0, .int .i64 0, .int .i64 0, .int .i64 0, .int .i64 0, .string ⟨#[]⟩, .int .i64 0, .int .i64 0, .string ⟨#[]⟩, .slice none 0 0] 30
 have hgw : w.heap.size ≤ w.heap.size + 1 := by omega
 generalize ((w.alloc oA).alloc (.cells #[.int .i64 0, .int .i64 0, .int .i64 0, .int .i64 0, .int .i64 0, .int .i64 0, .int .i64 0, .int .i64 0, .int .i64 0, .string ⟨#[]⟩, .int .i64 0, .int .i64 0, .string ⟨#[]⟩, .slice none 0 0] 30)).alloc oC = w0 at hN ⊢
 obtain ⟨Y2, b0⟩ := hN
 have HY0 := hid Y2
 clear Y2
 generalize w.heap.size + 1 = g at HY0 hgw ⊢
 refine (HC.out w0).mono ?_
 rintro e w1 ⟨o, ho, rfl, hb1'⟩
 have HY := hid (HY0.out.below hb1')
 have HB1 := hid (zAd b0 hb1')
 obtain ⟨⟨y0, y1, y2, y3, y4, y5, y6, y7, y8, y9, y10, y11, y12, y13⟩, fa⟩ := blk14 HY.out
 obtain ⟨f0, f1, f2, f3, f4, f5, f6, f7, f8, f9, f10, f11, f12, f13⟩ := all14 fa
 clear HC HY0 b0 hb1'
 have HB := hid (zAT HB1.out hgw (.int .i64 o.k) (.int .i64 o.fr) (.int .i64 o.to_) (.int .i64 o.bal) (.int .i64 o.gen) (.int .i64 o.bas) (.int .i64 o.fl) (.int .i64 o.tp) (.int .i64 o.rd) (.string o.mrk) (.int .i64 o.pa) (.int .i64 o.po) (.string o.pt) (.slice o.la o.ll o.lc))
 go_wp2_with fail
 refine bodyPost_ret (v := .agg #[.int .i64 o.k, .int .i64 o.fr, .int .i64 o.to_, .int .i64 o.bal, .int .i64 o.gen, .int .i64 o.bas, .int .i64 o.fl, .int .i64 o.tp, .int .i64 o.rd, .string o.mrk, .int .i64 o.pa, .int .i64 o.po, .string o.pt, .slice o.la o.ll o.lc]) ?_ rfl ⟨o, rfl, ho.out, HB.out⟩
 simp [results, Tryz.results32, go_sem, y0, y1, y2, y3, y4, y5, y6, y7, y8, y9, y10, y11, y12, y13]
theorem lreply_9 (m : MG) (id : Int) (w : World) : Calls Tryz.prog 32 #[.agg #[.int .i64 9, .int .i64 m.fr, .int .i64 m.to_, .int .i64 m.bal, .int .i64 m.gen, .int .i64 m.bas, .int .i64 m.fl, .int .i64 m.tp, .int .i64 m.rd, .string m.mrk, .int .i64 m.pa, .int .i64 m.po, .string m.pt, .slice m.la m.ll m.lc], .int .i64 id] w (zBi w) := by
 have HC := hid (clean_bare ⟨10, m.to_, id, m.bal, m.gen, 0, m.fl, wrap64 (m.gen + 1), m.rd, m.mrk, 0, 0, ⟨#[]⟩, none, 0, 0⟩ ⟨rfl, rfl, rfl, rfl⟩)
 go_enter Tryz.func32, Tryz.ntmps32
 go_wp2_with fail
 generalize (Obj.cells #[.int .i64 9, .int .i64 m.fr, .int .i64 m.to_, .int .i64 m.bal, .int .i64 m.gen, .int .i64 m.bas, .int .i64 m.fl, .int .i64 m.tp, .int .i64 m.rd, .string m.mrk, .int .i64 m.pa, .int .i64 m.po, .string m.pt, .slice m.la m.ll m.lc] 30) = oA
 generalize (Obj.cells #[.int .i64 10, .int .i64 m.to_, .int .i64 id, .int .i64 m.bal, .int .i64 m.gen, .int .i64 0, .int .i64 m.fl, .int .i64 (wrap64 (m.gen + 1)), .int .i64 m.rd, .string m.mrk, .int .i64 0, .int .i64 0, .string ⟨#[]⟩, .slice none 0 0] 30) = oC
 have hN := three_new w oA oC #[.int .i64 0, .int .i64 0, .int .i64 0, .int .i64 0, .int .i64 0, .int .i64 0, .int .i64 0, .int .i64 0, .int .i64 0, .string ⟨#[]⟩, .int .i64 0, .int .i64 0, .string ⟨#[]⟩, .slice none 0 0] 30
 have hgw : w.heap.size ≤ w.heap.size + 1 := by omega
 generalize ((w.alloc oA).alloc (.cells #[.int .i64 0, .int .i64 0, .int .i64 0, .int .i64 0, .int .i64 0, .int .i64 0, .int .i64 0, .int .i64 0, .int .i64 0, .string ⟨#[]⟩, .int .i64 0, .int .i64 0, .string ⟨#[]⟩, .slice none 0 0] 30)).alloc oC = w0 at hN ⊢
 obtain ⟨Y2, b0⟩ := hN
 have HY0 := hid Y2
 clear Y2
 generalize w.heap.size + 1 = g at HY0 hgw ⊢
 refine (HC.out w0).mono ?_
 rintro e w1 ⟨o, ho, rfl, hb1'⟩
 have HY := hid (HY0.out.below hb1')
 have HB1 := hid (zAd b0 hb1')
 obtain ⟨⟨y0, y1, y2, y3, y4, y5, y6, y7, y8, y9, y10, y11, y12, y13⟩, fa⟩ := blk14 HY.out
 obtain ⟨f0, f1, f2, f3, f4, f5, f6, f7, f8, f9, f10, f11, f12, f13⟩ := all14 fa
 clear HC HY0 b0 hb1'
 have HB := hid (zAT HB1.out hgw (.int .i64 o.k) (.int .i64 o.fr) (.int .i64 o.to_) (.int .i64 o.bal) (.int .i64 o.gen) (.int .i64 o.bas) (.int .i64 o.fl) (.int .i64 o.tp) (.int .i64 o.rd) (.string o.mrk) (.int .i64 o.pa) (.int .i64 o.po) (.string o.pt) (.slice o.la o.ll o.lc))
 go_wp2_with fail
 refine bodyPost_ret (v := .agg #[.int .i64 o.k, .int .i64 o.fr, .int .i64 o.to_, .int .i64 o.bal, .int .i64 o.gen, .int .i64 o.bas, .int .i64 o.fl, .int .i64 o.tp, .int .i64 o.rd, .string o.mrk, .int .i64 o.pa, .int .i64 o.po, .string o.pt, .slice o.la o.ll o.lc]) ?_ rfl ⟨o, rfl, ho.out, HB.out⟩
 simp [results, Tryz.results32, go_sem, y0, y1, y2, y3, y4, y5, y6, y7, y8, y9, y10, y11, y12, y13]
theorem lreply_11 (m : MG) (id : Int) (w : World) : Calls Tryz.prog 32 #[.agg #[.int .i64 11, .int .i64 m.fr, .int .i64 m.to_, .int .i64 m.bal, .int .i64 m.gen, .int .i64 m.bas, .int .i64 m.fl, .int .i64 m.tp, .int .i64 m.rd, .string m.mrk, .int .i64 m.pa, .int .i64 m.po, .string m.pt, .slice m.la m.ll m.lc], .int .i64 id] w (zBi w) := by
 have HC := hid (clean_bare ⟨12, m.to_, id, m.bal, m.gen, 0, m.fl, 0, m.rd, m.mrk, 0, 0, ⟨#[]⟩, none, 0, 0⟩ ⟨rfl, rfl, rfl, rfl⟩)
 go_enter Tryz.func32, Tryz.ntmps32
 go_wp2_with fail
 generalize (Obj.cells #[.int .i64 11, .int .i64 m.fr, .int .i64 m.to_, .int .i64 m.bal, .int .i64 m.gen, .int .i64 m.bas, .int .i64 m.fl, .int .i64 m.tp, .int .i64 m.rd, .string m.mrk, .int .i64 m.pa, .int .i64 m.po, .string m.pt, .slice m.la m.ll m.lc] 30) = oA
 generalize (Obj.cells #[.int .i64 12, .int .i64 m.to_, .int .i64 id, .int .i64 m.bal, .int .i64 m.gen, .int .i64 0, .int .i64 m.fl, .int .i64 0, .int .i64 m.rd, .string m.mrk, .int .i64 0, .int .i64 0, .string ⟨#[]⟩, .slice none 0 0] 30) = oC
 have hN := three_new w oA oC #[.int .i64 0, .int .i64 0, .int .i64 0, .int .i64 0, .int .i64 0, .int .i64 0, .int .i64 0, .int .i64 0, .int .i64 0, .string ⟨#[]⟩, .int .i64 0, .int .i64 0, .string ⟨#[]⟩, .slice none 0 0] 30
 have hgw : w.heap.size ≤ w.heap.size + 1 := by omega
 generalize ((w.alloc oA).alloc (.cells #[.int .i64 0, .int .i64 0, .int .i64 0, .int .i64 0, .int .i64 0, .int .i64 0, .int .i64 0, .int .i64 0, .int .i64 0, .string ⟨#[]⟩, .int .i64 0, .int .i64 0, .string ⟨#[]⟩, .slice none 0 0] 30)).alloc oC = w0 at hN ⊢
 obtain ⟨Y2, b0⟩ := hN
 have HY0 := hid Y2
 clear Y2
 generalize w.heap.size + 1 = g at HY0 hgw ⊢
 refine (HC.out w0).mono ?_
 rintro e w1 ⟨o, ho, rfl, hb1'⟩
 have HY := hid (HY0.out.below hb1')
 have HB1 := hid (zAd b0 hb1')
 obtain ⟨⟨y0, y1, y2, y3, y4, y5, y6, y7, y8, y9, y10, y11, y12, y13⟩, fa⟩ := blk14 HY.out
 obtain ⟨f0, f1, f2, f3, f4, f5, f6, f7, f8, f9, f10, f11, f12, f13⟩ := all14 fa
 clear HC HY0 b0 hb1'
 have HB := hid (zAT HB1.out hgw (.int .i64 o.k) (.int .i64 o.fr) (.int .i64 o.to_) (.int .i64 o.bal) (.int .i64 o.gen) (.int .i64 o.bas) (.int .i64 o.fl) (.int .i64 o.tp) (.int .i64 o.rd) (.string o.mrk) (.int .i64 o.pa) (.int .i64 o.po) (.string o.pt) (.slice o.la o.ll o.lc))
 go_wp2_with fail
 refine bodyPost_ret (v := .agg #[.int .i64 o.k, .int .i64 o.fr, .int .i64 o.to_, .int .i64 o.bal, .int .i64 o.gen, .int .i64 o.bas, .int .i64 o.fl, .int .i64 o.tp, .int .i64 o.rd, .string o.mrk, .int .i64 o.pa, .int .i64 o.po, .string o.pt, .slice o.la o.ll o.lc]) ?_ rfl ⟨o, rfl, ho.out, HB.out⟩
 simp [results, Tryz.results32, go_sem, y0, y1, y2, y3, y4, y5, y6, y7, y8, y9, y10, y11, y12, y13]
theorem lreply_15 (m : MG) (id : Int) (w : World) : Calls Tryz.prog 32 #[.agg #[.int .i64 15, .int .i64 m.fr, .int .i64 m.to_, .int .i64 m.bal, .int .i64 m.gen, .int .i64 m.bas, .int .i64 m.fl, .int .i64 m.tp, .int .i64 m.rd, .string m.mrk, .int .i64 m.pa, .int .i64 m.po, .string m.pt, .slice m.la m.ll m.lc], .int .i64 id] w (zBi w) := by
 have HC := hid (clean_bare ⟨16, m.to_, id, m.bal, m.gen, 0, m.fl, 0, m.rd, m.mrk, 0, 0, ⟨#[]⟩, none, 0, 0⟩ ⟨rfl, rfl, rfl, rfl⟩)
 go_enter Tryz.func32, Tryz.ntmps32
 go_wp2_with fail
 generalize (Obj.cells #[.int .i64 15, .int .i64 m.fr, .int .i64 m.to_, .int .i64 m.bal, .int .i64 m.gen, .int .i64 m.bas, .int .i64 m.fl, .int .i64 m.tp, .int .i64 m.rd, .string m.mrk, .int .i64 m.pa, .int .i64 m.po, .string m.pt, .slice m.la m.ll m.lc] 30) = oA
 generalize (Obj.cells #[.int .i64 16, .int .i64 m.to_, .int .i64 id, .int .i64 m.bal, .int .i64 m.gen, .int .i64 0, .int .i64 m.fl, .int .i64 0, .int .i64 m.rd, .string m.mrk, .int .i64 0, .int .i64 0, .string ⟨#[]⟩, .slice none 0 0] 30) = oC
 have hN := three_new w oA oC #[.int .i64 0, .int .i64 0, .int .i64 0, .int .i64 0, .int .i64 0, .int .i64 0, .int .i64 0, .int .i64 0, .int .i64 0, .string ⟨#[]⟩, .int .i64 0, .int .i64 0, .string ⟨#[]⟩, .slice none 0 0] 30
 have hgw : w.heap.size ≤ w.heap.size + 1 := by omega
 generalize ((w.alloc oA).alloc (.cells #[.int .i64 0, .int .i64 0, .int .i64 0, .int .i64 0, .int .i64 0, .int .i64 0, .int .i64 0, .int .i64 0, .int .i64 0, .string ⟨#[]⟩, .int .i64 0, .int .i64 0, .string ⟨#[]⟩, .slice none 0 0] 30)).alloc oC = w0 at hN ⊢
 obtain ⟨Y2, b0⟩ := hN
 have HY0 := hid Y2
 clear Y2
 generalize w.heap.size + 1 = g at HY0 hgw ⊢
 refine (HC.out w0).mono ?_
 rintro e w1 ⟨o, ho, rfl, hb1'⟩
 have HY := hid (HY0.out.below hb1')
 have HB1 := hid (zAd b0 hb1')
 obtain ⟨⟨y0, y1, y2, y3, y4, y5, y6, y7, y8, y9, y10, y11, y12, y13⟩, fa⟩ := blk14 HY.out
 obtain ⟨f0, f1, f2, f3, f4, f5, f6, f7, f8, f9, f10, f11, f12, f13⟩ := all14 fa
 clear HC HY0 b0 hb1'
 have HB := hid (zAT HB1.out hgw (.int .i64 o.k) (.int .i64 o.fr) (.int .i64 o.to_) (.int .i64 o.bal) (.int .i64 o.gen) (.int .i64 o.bas) (.int .i64 o.fl) (.int .i64 o.tp) (.int .i64 o.rd) (.string o.mrk) (.int .i64 o.pa) (.int .i64 o.po) (.string o.pt) (.slice o.la o.ll o.lc))
 go_wp2_with fail
 refine bodyPost_ret (v := .agg #[.int .i64 o.k, .int .i64 o.fr, .int .i64 o.to_, .int .i64 o.bal, .int .i64 o.gen, .int .i64 o.bas, .int .i64 o.fl, .int .i64 o.tp, .int .i64 o.rd, .string o.mrk, .int .i64 o.pa, .int .i64 o.po, .string o.pt, .slice o.la o.ll o.lc]) ?_ rfl ⟨o, rfl, ho.out, HB.out⟩
 simp [results, Tryz.results32, go_sem, y0, y1, y2, y3, y4, y5, y6, y7, y8, y9, y10, y11, y12, y13]
theorem lreply_0 (m : MG) (id : Int) (hk : m.k ≠ 1 ∧ m.k ≠ 4 ∧ m.k ≠ 7 ∧ m.k ≠ 9 ∧ m.k ≠ 11 ∧ m.k ≠ 15) (w : World) : Calls Tryz.prog 32 #[.agg #[.int .i64 m.k, .int .i64 m.fr, .int .i64 m.to_, .int .i64 m.bal, .int .i64 m.gen, .int .i64 m.bas, .int .i64 m.fl, .int .i64 m.tp, .int .i64 m.rd, .string m.mrk, .int .i64 m.pa, .int .i64 m.po, .string m.pt, .slice m.la m.ll m.lc], .int .i64 id] w (zBi w) := by
 have HC := hid (clean_bare ⟨0, m.to_, id, m.bal, m.gen, 0, m.fl, 0, m.rd, m.mrk, 0, 0, ⟨#[]⟩, none, 0, 0⟩ ⟨rfl, rfl, rfl, rfl⟩)
 have k1 : (m.k == 1) = false := by rw [beq_eq_false_iff_ne]; omega
 have k4 : (m.k == 4) = false := by rw [beq_eq_false_iff_ne]; omega
 have k7 : (m.k == 7) = false := by rw [beq_eq_false_iff_ne]; omega
 have k9 : (m.k == 9) = false := by rw [beq_eq_false_iff_ne]; omega
 have k11 : (m.k == 11) = false := by rw [beq_eq_false_iff_ne]; omega
 have k15 : (m.k == 15) = false := by rw [beq_eq_false_iff_ne]; omega
 clear hk
 go_enter Tryz.func32, Tryz.ntmps32
 go_wp2_with fail
 generalize (Obj.cells #[.int .i64 m.k, .int .i64 m.fr, .int .i64 m.to_, .int .i64 m.bal, .int .i64 m.gen, .int .i64 m.bas, .int .i64 m.fl, .int .i64 m.tp, .int .i64 m.rd, .string m.mrk, .int .i64 m.pa, .int .i64 m.po, .string m.pt, .slice m.la m.ll m.lc] 30) = oA
 generalize (Obj.cells #[.int .i64 0, .int .i64 m.to_, .int .i64 id, .int .i64 m.bal, .int .i64 m.gen, .int .i64 0, .int .i64 m.fl, .int .i64 0, .int .i64 m.rd, .string m.mrk, .int .i64 0, .int .i64 0, .string ⟨#[]⟩, .slice none 0 0] 30) = oC
 have hN := three_new w oA oC #[.int .i64 0, .int .i64 0, .int .i64 0, .int .i64 0, .int .i64 0, .int .i64 0, .int .i64 0, .int .i64 0, .int .i64 0, .string ⟨#[]⟩, .int .i64 0, .int .i64 0, .string ⟨#[]⟩, .slice none 0 0] 30
 have hgw : w.heap.size ≤ w.heap.size + 1 := by omega
 generalize ((w.alloc oA).alloc (.cells #[.int .i64 0, .int .i64 0, .int .i64 0, .int .i64 0, .int .i64 0, .int .i64 0, .int .i64 0, .int .i64 0, .int .i64 0, .string ⟨#[]⟩, .int .i64 0, .int .i64 0, .string ⟨#[]⟩, .slice none 0 0] 30)).alloc oC = w0 at hN ⊢
 obtain ⟨Y2, b0⟩ := hN
 have HY0 := hid Y2
 clear Y2
 generalize w.heap.size + 1 = g at HY0 hgw ⊢
 refine (HC.out w0).mono ?_
 rintro e w1 ⟨o, ho, rfl, hb1'⟩
 have HY := hid (HY0.out.below hb1')
 have HB1 := hid (zAd b0 hb1')
 obtain ⟨⟨y0, y1, y2, y3, y4, y5, y6, y7, y8, y9, y10, y11, y12, y13⟩, fa⟩ := blk14 HY.out
 obtain ⟨f0, f1, f2, f3, f4, f5, f6, f7, f8, f9, f10, f11, f12, f13⟩ := all14 fa
 clear HC HY0 b0 hb1'
 have HB := hid (zAT HB1.out hgw (.int .i64 o.k) (.int .i64 o.fr) (.int .i64 o.to_) (.int .i64 o.bal) (.int .i64 o.gen) (.int .i64 o.bas) (.int .i64 o.fl) (.int .i64 o.tp) (.int .i64 o.rd) (.string o.mrk) (.int .i64 o.pa) (.int .i64 o.po) (.string o.pt) (.slice o.la o.ll o.lc))
 go_wp2_with fail
 refine bodyPost_ret (v := .agg #[.int .i64 o.k, .int .i64 o.fr, .int .i64 o.to_, .int .i64 o.bal, .int .i64 o.gen, .int .i64 o.bas, .int .i64 o.fl, .int .i64 o.tp, .int .i64 o.rd, .string o.mrk, .int .i64 o.pa, .int .i64 o.po, .string o.pt, .slice o.la o.ll o.lc]) ?_ rfl ⟨o, rfl, ho.out, HB.out⟩
 simp [results, Tryz.results32, go_sem, y0, y1, y2, y3, y4, y5, y6, y7, y8, y9, y10, y11, y12, y13]
theorem lreply_any (m : MG) (id : Int) (w : World) : Calls Tryz.prog 32 #[.agg #[.int .i64 m.k, .int .i64 m.fr, .int .i64 m.to_, .int .i64 m.bal, .int .i64 m.gen, .int .i64 m.bas, .int .i64 m.fl, .int .i64 m.tp, .int .i64 m.rd, .string m.mrk, .int .i64 m.pa, .int .i64 m.po, .string m.pt, .slice m.la m.ll m.lc], .int .i64 id] w (zBi w) := by
 by_cases h1 : m.k = 1
 ·rw [h1]; exact lreply_1 m id w
 by_cases h4 : m.k = 4
 ·rw [h4]; exact lreply_4 m id w
 by_cases h7 : m.k = 7
 ·rw [h7]; exact lreply_7 m id w
 by_cases h9 : m.k = 9
 ·rw [h9]; exact lreply_9 m id w
 by_cases h11 : m.k = 11
 ·rw [h11]; exact lreply_11 m id w
 by_cases h15 : m.k = 15
 ·rw [h15]; exact lreply_15 m id w
 exact lreply_0 m id ⟨h1, h4, h7, h9, h11, h15⟩ w
end Go.Proofs.YtaemlplcjjbamaaGreatDoor
