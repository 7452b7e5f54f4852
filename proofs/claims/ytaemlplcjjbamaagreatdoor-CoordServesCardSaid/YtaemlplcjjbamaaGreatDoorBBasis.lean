/- The walk of a coordinator's promise. Conditions: tops of promises at most 2^61; the promises' entries lie in memory that was there at the start. The walk of a coordinator's know: an image of a new generation is put behind those at hand. Condition: fewer than 32 are at hand, none of that generation. plan.Basis: which generation is the basis for another one. No condition. -/
import Derived.Test.YtaemlplcjjbamaaGreatDoorBKn
import Derived.Test.YtaemlplcjjbamaaGreatDoorBPRow
import Derived.Test.YtaemlplcjjbamaaGreatDoorBHeld
import Derived.StillTailTactics
import Derived.Deep.RegionLaw
import Derived.Deep.DrawnRows
import Derived.Test.YtaemlplcjjbamaaGreatDoorBCGot
import Derived.Deep.AppendLies
import Derived.Laws.EntriesVeiled
import Derived.Test.YtaemlplcjjbamaaGreatDoorBTick
namespace Go.Proofs.YtaemlplcjjbamaaGreatDoor
open Go.RowKit
attribute [local go_sem ↓] Go.wp_at_zero Go.wp_at_succ

theorem CoordAt.setPromises {w : World} {b : Nat} {c : CSt} (h : CoordAt w b c) (v : Value) : CoordAt (w.setCell ⟨b, 10, none⟩ v) b { c with promises := v } := ⟨h.1.set 10 v, h.2⟩
theorem CoordAt.setPhase {w : World} {b : Nat} {c : CSt} (h : CoordAt w b c) (x : Int) : CoordAt (w.setCell ⟨b, 4, none⟩ (.int .i64 x)) b { c with phase := x } := ⟨h.1.set 4 _, h.2⟩
theorem CoordAt.setFloor {w : World} {b : Nat} {c : CSt} (h : CoordAt w b c) (x : Int) : CoordAt (w.setCell ⟨b, 5, none⟩ (.int .i64 x)) b { c with floor := x } := ⟨h.1.set 5 _, h.2⟩
theorem CoordAt.setTop {w : World} {b : Nat} {c : CSt} (h : CoordAt w b c) (x : Int) : CoordAt (w.setCell ⟨b, 6, none⟩ (.int .i64 x)) b { c with top := x } := ⟨h.1.set 6 _, h.2⟩
theorem CoordAt.setChosen {w : World} {b : Nat} {c : CSt} (h : CoordAt w b c) (v : Value) : CoordAt (w.setCell ⟨b, 7, none⟩ v) b { c with chosen := v } := ⟨h.1.set 7 v, h.2⟩
theorem CoordAt.setAgain {w : World} {b : Nat} {c : CSt} (h : CoordAt w b c) (v : Value) : CoordAt (w.setCell ⟨b, 11, none⟩ v) b { c with again := v } := ⟨h.1.set 11 v, h.2⟩
theorem CoordAt.grown {w w' : World} {b : Nat} {c : CSt} {row : Option Nat} (h : CoordAt w b c) (hg : w.grownBy w' row) (hr : row ≠ some b) : CoordAt w' b c := ⟨blk_grown h.1 hg hr, h.2⟩
/-- a row of promises of the coordinator's own -/
def PromRow (w0 w : World) (v : Value) (ps : List Prom) : Prop := ∃ cs, w.ownsRow w0.heap.size 171 3 v ps.length cs ∧ PRow w0 ps cs
/-- a coordinator that prepares: its tally, its promises, its peers -/
structure Prep (w0 w : World) (c t : Nat) (S : CSt) (n : Nat) (m : List Bool) (ps : List Prom) (qs : List Peer) : Prop where
  at_ : CoordAt w c S
  n_ : S.n = (n : Int)
  n1 : 1 ≤ n
  n9 : n ≤ 9
  promised : S.promised = .pointer (some ⟨t, 0, none⟩)
  tally : TallyAt w t n m
  row : PromRow w0 w S.promises ps
  peers : S.peers = peersVals qs
  qs9 : qs.length = 9
  below : Below w0.heap.size w0 w
  c0 : w0.heap.size ≤ c
  t0 : w0.heap.size ≤ t
/-- the blocks that a coordinator's promise may turn -/
def InPrep (c t : Nat) (S : CSt) : Nat → Prop := fun k => k = c ∨ k = t ∨ S.promises.ownBlock = some k
theorem inPrep_base {w0 w : World} {c t : Nat} {S : CSt} {cs : List Value} {k : Nat} (hc : w0.heap.size ≤ c) (ht : w0.heap.size ≤ t) (hr : w.ownsRow w0.heap.size 171 3 S.promises k cs) : ∀ b, b < w0.heap.size → ¬ InPrep c t S b := by
  intro b hb h
  rcases h with h | h | h
  · omega
  · omega
  · have := (row_lt hr h).1
    omega
/-- what a promise that is new leaves: another one that prepares, or a leader -/
def PromiseSays (w0 : World) (c t : Nat) (S : CSt) (n : Nat) (m : List Bool) (ps : List Prom) (qs : List Peer) (v : Nat) (p : Prom) (w : World) (e : Ending) (w' : World) : Prop :=
  e = .returned (.tuple #[]) ∧ Touch (InPrep c t S) w w' ∧
  (wonT (addTo m v n) n = false → ∃ v', Prep w0 w' c t { S with promises := v', peers := peersVals (qs.set v (farPeer (qs.getD v ⟨false, 0, 0, 0, ⟨#[]⟩, false, 0, .pointer none⟩) p.floor p.top)) } n (addTo m v n) (ps ++ [p]) (qs.set v (farPeer (qs.getD v ⟨false, 0, 0, 0, ⟨#[]⟩, false, 0, .pointer none⟩) p.floor p.top)) ∧ ∀ g, v'.ownBlock = some g → S.promises.ownBlock = some g ∨ w.heap.size ≤ g) ∧
  (wonT (addTo m v n) n = true → ∃ v1 v2, CoordAt w' c { S with promises := .slice none 0 0, peers := peersVals (qs.set v (farPeer (qs.getD v ⟨false, 0, 0, 0, ⟨#[]⟩, false, 0, .pointer none⟩) p.floor p.top)), floor := floorOf (ps ++ [p]), top := topOf (ps ++ [p]), chosen := v1, again := v2, phase := 2 } ∧
    w'.ownsRow w.heap.size 102 3 v1 (chosenOf (ps ++ [p])).length (entsVals (chosenOf (ps ++ [p]))) ∧ w'.ownsRow w.heap.size 102 3 v2 (againOf (ps ++ [p])).length (entsVals (againOf (ps ++ [p]))) ∧ TallyAt w' t n (addTo m v n))
set_option maxRecDepth 100000 in
set_option maxHeartbeats 8000000 in
theorem promise_new (w0 : World) (c t : Nat) (S : CSt) (n : Nat) (m : List Bool) (ps : List Prom) (qs : List Peer) (v : Nat) (kind to' bal gen basis fl tp rd pa po : Int) (mk pt : ByteArray) (la : Option Addr) (lc : Nat) (es : List Ent) (w : World)
    (h : Prep w0 w c t S n m ps qs) (hv : v < n) (hm : m.getD v false = false) (hps : ps.length ≤ 1000) (hes : EntsAt w0 la es) (htops : ∀ p ∈ ps ++ [(⟨fl, tp, es⟩ : Prom)], p.top ≤ 2305843009213693952) (hll : ∀ p ∈ ps ++ [(⟨fl, tp, es⟩ : Prom)], p.list.length ≤ 1000000) :
    Calls Tryz.prog 79 #[.pointer (some ⟨c, 0, none⟩), .agg #[.int .i64 kind, .int .i64 (v : Int), .int .i64 to', .int .i64 bal, .int .i64 gen, .int .i64 basis, .int .i64 fl, .int .i64 tp, .int .i64 rd, .string mk, .int .i64 pa, .int .i64 po, .string pt, .slice la es.length lc]] w (PromiseSays w0 c t S n m ps qs v ⟨fl, tp, es⟩ w) := by
  obtain ⟨hat, hn, hn1, hn9, hpr, htl, ⟨cs, hrow, hpw⟩, hqs, hq9, hbel, hc0, ht0⟩ := h
  have hcl := hat.1.lt
  have htlt := htl.1.lt
  have c9 : w.cell? ⟨c, 9, none⟩ = some (.pointer (some ⟨t, 0, none⟩)) := by rw [← hpr]; exact hat.hd 9 (by omega)
  have c10 : w.cell? ⟨c, 10, none⟩ = some S.promises := hat.hd 10 (by omega)
  have hne : c ≠ t := hat.1.ne htl.1 (by decide)
  have Hat := Lib.hid hat
  have Htl := Lib.hid htl
  have Hrow := Lib.hid hrow
  have Hpw := Lib.hid hpw
  have Hqs := Lib.hid hqs
  have Hpr := Lib.hid hpr
  have Hn := Lib.hid hn
  have Hm := Lib.hid hm
  have Hes := Lib.hid hes
  have Htops := Lib.hid htops
  have Hll := Lib.hid hll
  have Hbase := Lib.hid (inPrep_base (t := t) hc0 ht0 hrow)
  have hvq : v < qs.length := by omega
  have hqv : qs.getD v ⟨false, 0, 0, 0, ⟨#[]⟩, false, 0, .pointer none⟩ = qs[v] := by rw [List.getD, List.getElem?_eq_getElem hvq]; rfl
  have Hqv := Lib.hid hqv
  clear hat htl hrow hpw hqs hpr hn hm hes htops hll hqv
  go_enter Tryz.func79, Tryz.ntmps79
  go_wp2
  have Htl1 := Lib.hid (show TallyAt (w.alloc (.cells #[.int .i64 kind, .int .i64 (v : Int), .int .i64 to', .int .i64 bal, .int .i64 gen, .int .i64 basis, .int .i64 fl, .int .i64 tp, .int .i64 rd, .string mk, .int .i64 pa, .int .i64 po, .string pt, .slice la es.length lc] 30)) t n m from ⟨Htl.out.1.alloc _, Htl.out.2⟩)
  go_quiet ((go_at_call 51; first | exact quiet_left (has_in t n m v _ (Htl1.out.drewN _) hv) | exact quiet_add_left (has_in t n m v _ (Htl1.out.drewN _) hv)))
  rw [Hm.out]
  go_wp2
  have M1 := (Blk.new w [.int .i64 kind, .int .i64 (v : Int), .int .i64 to', .int .i64 bal, .int .i64 gen, .int .i64 basis, .int .i64 fl, .int .i64 tp, .int .i64 rd, .string mk, .int .i64 pa, .int .i64 po, .string pt, .slice la es.length lc] 30).drewN nq
  have At1 := (Hat.out.alloc (.cells #[.int .i64 kind, .int .i64 (v : Int), .int .i64 to', .int .i64 bal, .int .i64 gen, .int .i64 basis, .int .i64 fl, .int .i64 tp, .int .i64 rd, .string mk, .int .i64 pa, .int .i64 po, .string pt, .slice la es.length lc] 30)).drewN nq
  have Tl1 := Htl1.out.drewN nq
  have hb1 := below_drewN ((Below.refl w.heap.size w).alloc (Nat.le_refl _) (.cells #[.int .i64 kind, .int .i64 (v : Int), .int .i64 to', .int .i64 bal, .int .i64 gen, .int .i64 basis, .int .i64 fl, .int .i64 tp, .int .i64 rd, .string mk, .int .i64 pa, .int .i64 po, .string pt, .slice la es.length lc] 30)) nq
  have Row1 := ownsRow_below Hrow.out hb1
  generalize (w.alloc (.cells #[.int .i64 kind, .int .i64 (v : Int), .int .i64 to', .int .i64 bal, .int .i64 gen, .int .i64 basis, .int .i64 fl, .int .i64 tp, .int .i64 rd, .string mk, .int .i64 pa, .int .i64 po, .string pt, .slice la es.length lc] 30)).drewN nq = w1 at M1 At1 Tl1 hb1 Row1 ⊢
  obtain ⟨q, hq⟩ : ∃ q, q = w.heap.size := ⟨_, rfl⟩
  rw [← hq] at M1 ⊢
  have hqc : c < q := by omega
  have hqt : t < q := by omega
  clear hq
  have d9 : w1.cell? ⟨c, 9, none⟩ = some (.pointer (some ⟨t, 0, none⟩)) := by rw [← Hpr.out]; exact At1.hd 9 (by omega)
  have m1 : w1.cell? ⟨q, 1, none⟩ = some (.int .i64 (v : Int)) := M1.cell 1
  have HM1 := Lib.hid M1
  have HAt1 := Lib.hid At1
  have HTl1 := Lib.hid Tl1
  have HRow1 := Lib.hid Row1
  clear M1 At1 Tl1 Row1 c9 c10 Htl1 Htl Hat Hrow
  go_still_tail 6, (by kernel_rfl)
  change wpList _ _ _ _ _ w1.drew
  have At2 := HAt1.out.drew
  have Tl2 : TallyAt w1.drew t n m := HTl1.out
  have M2 := HM1.out.drew
  have Row2 := ownsRow_below HRow1.out (Below.refl _ _).drew
  have hb2 := hb1.drew
  generalize w1.drew = w2 at At2 Tl2 M2 Row2 hb2 ⊢
  have HAt2 := Lib.hid At2
  have HM2 := Lib.hid M2
  have HRow2 := Lib.hid Row2
  have HTl2 := Lib.hid Tl2
  clear At2 M2 Row2 Tl2 HTl1 HM1 HAt1 HRow1 d9 m1 hb1
  have e1 : isOne (v : Int) n = true := by unfold isOne; simp; omega
  have hadd := add_any t n m v w2 HTl2.out
  rw [e1] at hadd
  have HAdd := Lib.hid hadd
  clear hadd e1
  go_wp2_with fail
  refine HAdd.out.mono ?_
  rintro e w3 ⟨rfl, Tl3, T3⟩
  clear HAdd
  have HT3 := Lib.hid Tl3
  have At3 : CoordAt w3 c S := ⟨HAt2.out.1.touch T3 hne, HAt2.out.2⟩
  have M3 := HM2.out.touch T3 (by omega)
  have Row3 := row_touch HRow2.out T3 (fun g hg e => row_ne HRow2.out HTl2.out.1 (by decide) (by rw [hg, e]))
  have HAt3 := Lib.hid At3
  have HM3 := Lib.hid M3
  have HRow3 := Lib.hid Row3
  have hcl3 := At3.1.lt
  have d10 : w3.cell? ⟨c, 10, none⟩ = some S.promises := At3.hd 10 (by omega)
  have m6 : w3.cell? ⟨q, 6, none⟩ = some (.int .i64 fl) := M3.cell 6
  have m7 : w3.cell? ⟨q, 7, none⟩ = some (.int .i64 tp) := M3.cell 7
  have m13 : w3.cell? ⟨q, 13, none⟩ = some (.slice la es.length lc) := M3.cell 13
  have hTT : Touch (InPrep c t S) w w3 := (Touch.of_below hb2).trans (T3.mono (fun k _ e => Or.inr (Or.inl e)))
  clear Tl3 At3 M3 Row3 T3 HAt2 HM2 HRow2 HTl2
  go_wp2
  have hown3 := HRow3.out
  have hnc : S.promises.ownBlock ≠ some c := row_ne hown3 HAt3.out.1 (by decide)
  have hnq : S.promises.ownBlock ≠ some q := row_ne hown3 HM3.out (by decide)
  have hcq : c ≠ q := by omega
  have hql := HM3.out.lt
  have f10 := HAt3.out.1.free 10
  have hfa : ∀ o : Obj, (w3.alloc o).drew.frozen? ⟨c, 10, none⟩ = false := fun o => (HAt3.out.1.alloc o).drew.free 10
  have hfb : ∀ o : Obj, (w3.alloc o).frozen? ⟨c, 10, none⟩ = false := fun o => (HAt3.out.1.alloc o).free 10
  obtain ⟨i0, hi0, hz0, hz1, hz2⟩ := info_parts info_promise
  have hbase3 : w0.heap.size ≤ w3.heap.size := Nat.le_trans hbel.size hTT.size
  have hnt : S.promises.ownBlock ≠ some t := row_ne hown3 HT3.out.1 (by decide)
  go_cut [] (fun wx => ∃ v', Hid (CoordAt wx c { S with promises := v' }) ∧ Hid (TallyAt wx t n (addTo m v n)) ∧ Hid (Blk wx q [.int .i64 kind, .int .i64 (v : Int), .int .i64 to', .int .i64 bal, .int .i64 gen, .int .i64 basis, .int .i64 fl, .int .i64 tp, .int .i64 rd, .string mk, .int .i64 pa, .int .i64 po, .string pt, .slice la es.length lc] 30) ∧
    Hid (wx.ownsRow w0.heap.size 171 3 v' (ps.length + 1) (cs ++ [.int .i64 fl, .int .i64 tp, .slice la es.length lc])) ∧ (∀ g, v'.ownBlock = some g → S.promises.ownBlock = some g ∨ w.heap.size ≤ g) ∧ Touch (InPrep c t S) w wx)
  case first =>
    go_region_law
        ((refine step_append_lies _ (by rfl) _ _ _ (by rfl) w0.heap.size 171 i0 _ 3 40 Tryz.underlying68 hi0 hz0 hz1 hz2 rfl (by omega) S.promises ps.length cs (by rfl) ((hown3.alloc _).drew) ⟨w3.heap.size, 0, none⟩ 1 1 [.int .i64 fl, .int .i64 tp, .slice la es.length lc] (by rfl) (by rfl) (World.news_of_block (cs := #[.int .i64 fl, .int .i64 tp, .slice la es.length lc]) (t := 171) (fr := (0, 0)) (heap_alloc_new w3 _)) (by simp [Value.oneCell']) (by omega) (by unfold maxLen; omega) (by omega) (by simp; omega) (w3.heap.size + 1) (by simp) ?_; intro gg cap w4 hown4 hgrow hat hlt; have hc4 := hgrow.cell_far ⟨c, 10, none⟩ (by simp; omega) (Ne.symm hnc); have hf4 := hgrow.frozen_far ⟨c, 10, none⟩ (by simp; omega) (Ne.symm hnc)))
    all_goals go_wp2_with fail
    all_goals go_meet
    all_goals
      have hgc : gg ≠ c := by
        rcases hat with e | e
        · intro e2; exact hnc (by rw [e, e2])
        · omega
      have q1 := (((HAt3.out.alloc (.cells #[.int .i64 fl, .int .i64 tp, .slice la es.length lc] 171)).drew).grown hgrow hnc).setPromises (.slice (some ⟨gg, 0, none⟩) (ps.length + 1) cap)
      have q2 : TallyAt (w4.setCell ⟨c, 10, none⟩ (.slice (some ⟨gg, 0, none⟩) (ps.length + 1) cap)) t n (addTo m v n) := ⟨(blk_grown ((HT3.out.1.alloc (.cells #[.int .i64 fl, .int .i64 tp, .slice la es.length lc] 171)).drew) hgrow hnt).set_other (Ne.symm hne) _, HT3.out.2⟩
      have q3 := (blk_grown ((HM3.out.alloc (.cells #[.int .i64 fl, .int .i64 tp, .slice la es.length lc] 171)).drew) hgrow hnq).set_other (a := ⟨c, 10, none⟩) (Ne.symm hcq) (.slice (some ⟨gg, 0, none⟩) (ps.length + 1) cap)
      refine ⟨_, q1, q2, q3, ?_, ?_, ?_⟩
      · exact row_touch hown4 ((Touch.refl (fun k => k = c) w4).set (p := ⟨c, 10, none⟩) (Or.inl rfl) _) (fun g hg e => hgc (by simp [Value.ownBlock] at hg; omega))
      · intro g hg
        have hgg : gg = g := by simpa [Value.ownBlock] using hg
        subst hgg
        have := hTT.size
        rcases hat with e | e
        · exact Or.inl e
        · exact Or.inr (by omega)
      · exact (touch_grown ((hTT.alloc (.cells #[.int .i64 fl, .int .i64 tp, .slice la es.length lc] 171)).drew) hgrow (fun g hg => Or.inl (Or.inr (Or.inr hg)))).set (p := ⟨c, 10, none⟩) (Or.inl (Or.inl rfl)) _
  case rest =>
    obtain ⟨v', HAt5, HT5, HM5, HRow5, hv5, hTT5⟩ := hcut
    clear d10 m6 m7 m13 hown3 hnc hnq hnt f10 hfa hfb HAt3 HT3 HM3 HRow3 hTT hcl3 hbase3 hql
    have m0 : wc.cell? ⟨q, 0, none⟩ = some (.int .i64 kind) := HM5.out.cell 0
    have m1 : wc.cell? ⟨q, 1, none⟩ = some (.int .i64 (v : Int)) := HM5.out.cell 1
    have m2 : wc.cell? ⟨q, 2, none⟩ = some (.int .i64 to') := HM5.out.cell 2
    have m3 : wc.cell? ⟨q, 3, none⟩ = some (.int .i64 bal) := HM5.out.cell 3
    have m4 : wc.cell? ⟨q, 4, none⟩ = some (.int .i64 gen) := HM5.out.cell 4
    have m5 : wc.cell? ⟨q, 5, none⟩ = some (.int .i64 basis) := HM5.out.cell 5
    have m6 : wc.cell? ⟨q, 6, none⟩ = some (.int .i64 fl) := HM5.out.cell 6
    have m7 : wc.cell? ⟨q, 7, none⟩ = some (.int .i64 tp) := HM5.out.cell 7
    have m8 : wc.cell? ⟨q, 8, none⟩ = some (.int .i64 rd) := HM5.out.cell 8
    have m9 : wc.cell? ⟨q, 9, none⟩ = some (.string mk) := HM5.out.cell 9
    have m10 : wc.cell? ⟨q, 10, none⟩ = some (.int .i64 pa) := HM5.out.cell 10
    have m11 : wc.cell? ⟨q, 11, none⟩ = some (.int .i64 po) := HM5.out.cell 11
    have m12 : wc.cell? ⟨q, 12, none⟩ = some (.string pt) := HM5.out.cell 12
    have m13 : wc.cell? ⟨q, 13, none⟩ = some (.slice la es.length lc) := HM5.out.cell 13
    go_wp2_with fail
    refine (far_any c _ qs v kind to' bal gen basis fl tp rd pa po mk pt (.slice la es.length lc) _ HAt5.out Hqs.out hq9 (by omega)).mono ?_
    rintro e w6 ⟨rfl, At6, T6⟩
    simp only at At6
    have HAt6 := Lib.hid At6
    have HT6 := Lib.hid (show TallyAt w6 t n (addTo m v n) from ⟨HT5.out.1.touch T6 (Ne.symm hne), HT5.out.2⟩)
    have HRow6 := Lib.hid (row_touch HRow5.out T6 (fun g hg e => row_ne HRow5.out HAt5.out.1 (by decide) (by rw [hg, e])))
    have hTT6 := hTT5.trans (T6.mono (fun k _ e => Or.inl e))
    have e9 : w6.cell? ⟨c, 9, none⟩ = some (.pointer (some ⟨t, 0, none⟩)) := by rw [← Hpr.out]; exact At6.hd 9 (by omega)
    clear m0 m1 m2 m3 m4 m5 m6 m7 m8 m9 m10 m11 m12 m13 HAt5 HT5 HM5 HRow5 hTT5 At6 T6
    go_wp2_with fail
    refine (won_any t n (addTo m v n) _ HT6.out).mono ?_
    rintro e wx ⟨rfl, nw, rfl⟩
    have HAt7 := Lib.hid (HAt6.out.drewN nw)
    have HT7 := Lib.hid (HT6.out.drewN nw)
    have HRow7 := Lib.hid (ownsRow_below HRow6.out (below_drewN (Below.refl _ _) nw))
    have hTT7 := hTT6.drewN nw
    generalize w6.drewN nw = w7 at HAt7 HT7 HRow7 hTT7 ⊢
    clear HAt6 HT6 HRow6 hTT6 e9
    have hbel7 := Lib.hid (hbel.trans (hTT7.below hbel.size Hbase.out))
    have Hpw7 := Lib.hid (PRow_snoc Hpw.out (q := (⟨fl, tp, es⟩ : Prom)) (la := la) (lc := lc) Hes.out)
    have hpl : (ps ++ [(⟨fl, tp, es⟩ : Prom)]).length = ps.length + 1 := by simp
    cases hw : wonT (addTo m v n) n with
    | false =>
      have Hw := Lib.hid hw
      clear hw hpl
      go_wp2_with fail
      refine bodyPost_ret (results_none rfl _ _ _) rfl ?_
      refine ⟨rfl, hTT7, fun _ => ⟨v', ⟨?_, Hn.out, hn1, hn9, Hpr.out, HT7.out, ⟨_, ?_, Hpw7.out⟩, rfl, by rw [List.length_set]; exact hq9, hbel7.out, hc0, ht0⟩, hv5⟩, fun h => by rw [Hw.out] at h; cases h⟩
      · rw [Hqv.out]; exact HAt7.out
      · rw [List.length_append]; exact HRow7.out
    | true =>
      have Hw := Lib.hid hw
      have hrow8 := HRow7.out
      rw [← hpl] at hrow8
      have hpw8 := Hpw7.out
      have hll8 := Hll.out
      have htp8 := Htops.out
      obtain ⟨P, hP⟩ : ∃ P : List Prom, P = ps ++ [(⟨fl, tp, es⟩ : Prom)] := ⟨_, rfl⟩
      rw [← hP] at hrow8 hpw8 hpl hll8 htp8
      have HP := Lib.hid hP
      have Hll8 := Lib.hid hll8
      have Htp8 := Lib.hid htp8
      clear hP hll8 htp8
      obtain ⟨ad, cap, rfl, hpa⟩ := promsAt_own hrow8 hpw8 hbel7.out
      have Hpa := Lib.hid hpa
      have e10 : w7.cell? ⟨c, 10, none⟩ = some (.slice ad P.length cap) := HAt7.out.hd 10 (by omega)
      have hpl2 : P.length ≤ 1000000 := by omega
      clear hw hpa hrow8 hpl hpw8
      go_wp2_with fail
      refine (merge_any ad cap P _ hpl2 Hll8.out Htp8.out Hpa.out).mono ?_
      rintro e w8 ⟨v1, v2, rfl, hv1, hv2, hb8⟩
      obtain ⟨ad1, cp1, rfl⟩ := row_shape hv1
      obtain ⟨ad2, cp2, rfl⟩ := row_shape hv2
      have HAt8 := Lib.hid (HAt7.out.below hb8)
      have HT8 := Lib.hid (show TallyAt w8 t n (addTo m v n) from ⟨HT7.out.1.below hb8, HT7.out.2⟩)
      have hTT8 := hTT7.trans (Touch.of_below (S := InPrep c t S) hb8)
      have hcl8 := HAt8.out.1.lt
      have g5 : w8.cell? ⟨c, 5, none⟩ = some (.int .i64 S.floor) := HAt8.out.hd 5 (by omega)
      have g6 : w8.cell? ⟨c, 6, none⟩ = some (.int .i64 S.top) := HAt8.out.hd 6 (by omega)
      have g7 : w8.cell? ⟨c, 7, none⟩ = some S.chosen := HAt8.out.hd 7 (by omega)
      have g11 : w8.cell? ⟨c, 11, none⟩ = some S.again := HAt8.out.hd 11 (by omega)
      have g10 : w8.cell? ⟨c, 10, none⟩ = some (.slice ad P.length cap) := HAt8.out.hd 10 (by omega)
      have g4 : w8.cell? ⟨c, 4, none⟩ = some (.int .i64 S.phase) := HAt8.out.hd 4 (by omega)
      have f4 := HAt8.out.1.free 4
      have f5 := HAt8.out.1.free 5
      have f6 := HAt8.out.1.free 6
      have f7 := HAt8.out.1.free 7
      have f10 := HAt8.out.1.free 10
      have f11 := HAt8.out.1.free 11
      have Hv1 := Lib.hid hv1
      have Hv2 := Lib.hid hv2
      have hsz7 := hTT7.size
      clear hv1 hv2 hb8 e10 HAt7 HT7 HRow7 hTT7
      go_wp2_with fail
      have r1 := HAt8.out.setFloor (floorOf P)
      have r2 := r1.setTop (topOf P)
      have r3 := r2.setChosen (.slice ad1 (chosenOf P).length cp1)
      have r4 := r3.setAgain (.slice ad2 (againOf P).length cp2)
      have r5 := r4.setPromises (.slice none 0 0)
      have r6 := r5.setPhase 2
      have tc : Touch (fun k => k = c) w8 ((((((w8.setCell ⟨c, 5, none⟩ (.int .i64 (floorOf P))).setCell ⟨c, 6, none⟩ (.int .i64 (topOf P))).setCell ⟨c, 7, none⟩ (.slice ad1 (chosenOf P).length cp1)).setCell ⟨c, 11, none⟩ (.slice ad2 (againOf P).length cp2)).setCell ⟨c, 10, none⟩ (.slice none 0 0)).setCell ⟨c, 4, none⟩ (.int .i64 2)) :=
        touchOne_set (touchOne_set (touchOne_set (touchOne_set (touchOne_set (touchOne_set (Touch.refl _ _) _) _) _) _) _) _
      have x1 := row_base (row_touch Hv1.out tc (fun g hg e => row_ne Hv1.out HAt8.out.1 (by decide) (by rw [hg, e]))) hsz7
      have x2 := row_base (row_touch Hv2.out tc (fun g hg e => row_ne Hv2.out HAt8.out.1 (by decide) (by rw [hg, e]))) hsz7
      have x3 : TallyAt _ t n (addTo m v n) := ⟨HT8.out.1.touch tc (Ne.symm hne), HT8.out.2⟩
      have x4 := hTT8.trans (tc.mono (fun k _ e => Or.inl e))
      have X1 := Lib.hid x1
      have X2 := Lib.hid x2
      have X3 := Lib.hid x3
      have X4 := Lib.hid x4
      have R6 := Lib.hid r6
      clear x1 x2 x3 x4 tc r1 r2 r3 r4 r5 r6
      go_end0
      refine ⟨rfl, X4.out, (fun h => by rw [Hw.out] at h; cases h), fun _ => ⟨.slice ad1 (chosenOf P).length cp1, .slice ad2 (againOf P).length cp2, ?_, ?_, ?_, X3.out⟩⟩
      · rw [Hqv.out, ← HP.out]; exact R6.out
      · rw [← HP.out]; exact X1.out
      · rw [← HP.out]; exact X2.out
end Go.Proofs.YtaemlplcjjbamaaGreatDoor
namespace Go.Proofs.YtaemlplcjjbamaaGreatDoor
open Go Go.RowKit
set_option linter.unusedVariables false
attribute [local go_sem ↓] Go.wp_at_zero Go.wp_at_succ
theorem info_kn : (Tryz.prog.info? 151).map (fun i => (i.zero, i.size, i.bytes)) = some (some (.agg #[.int .i64 0, .string ByteArray.empty]), 2, 24) := by kernel_rfl
theorem know1_any (x g : Int) (t : ByteArray) (q : Nat) (w : World) (hq : w.cell? ⟨q, 0, none⟩ = some (.int .i64 g)) (hl : q < w.heap.size) :
    Calls Tryz.prog 110 #[.agg #[.int .i64 x, .string t], .pointer (some ⟨q, 0, none⟩)] w fun e w' => e = .returned (.bool (x == g)) ∧ Below w.heap.size w w' := by
  go_enter Tryz.func110, Tryz.ntmps110
  go_wp2_with fail
  go_ret
  exact ⟨rfl, (Below.refl _ _).alloc (Nat.le_refl _) _⟩
def NewGen (I : List (Int × List UInt8)) (g : Int) : Prop := ∀ i, i < I.length → ∀ y, I[i]? = some y → y.1 ≠ g
set_option maxRecDepth 100000 in
set_option maxHeartbeats 2000000 in
theorem indexKn_none (v : Value) (B q : Nat) (I : List (Int × List UInt8)) (g : Int) (w : World) (hr : w.ownsRow B 151 2 v I.length (knV I)) (hl : I.length ≤ 1000000) (hq : w.cell? ⟨q, 0, none⟩ = some (.int .i64 g)) (hql : q < w.heap.size) (hn : NewGen I g) :
    Calls Tryz.prog 124 #[v, .func (.func 110) #[] #[.pointer (some ⟨q, 0, none⟩)]] w fun e w' => e = .returned (.int .i64 (-1)) ∧ Below w.heap.size w w' := by
  obtain ⟨ia, ic, rfl⟩ := row_shape hr
  have HG := Lib.hid (fun (x : Int) (t : ByteArray) (w' : World) (hb : Below w.heap.size w w') => know1_any x g t q w' ((hb.cell (p := ⟨q, 0, none⟩) hql).trans hq) (Nat.lt_of_lt_of_le hql hb.size))
  obtain ⟨m, hm⟩ : ∃ m, m = I.length := ⟨_, rfl⟩
  rw [← hm] at hr hl ⊢
  have HR := Lib.hid hr
  have Hm := Lib.hid hm
  have HN := Lib.hid hn
  clear hr hm hn hq hql
  go_enter Tryz.func124, Tryz.ntmps124
  go_wp2_with fail
  go_loopw [8] (fun i wr => ∃ k : Nat, k ≤ m ∧ i = .int .i64 k ∧ Hid (Below w.heap.size w wr)) (fun i _ => m - (intOf i).toNat)
  case atStart => exact ⟨0, Nat.zero_le _, rfl, Lib.hid (Below.refl _ _)⟩
  case round =>
    obtain ⟨k, hk, rfl, HB⟩ := hrel
    by_cases hlt : k < m
    · have HRr := Lib.hid (ownsRow_below HR.out HB.out)
      obtain ⟨gg, cap, hv0, hg2, hg3, hg4, hg6, hg5⟩ := row_some HRr.out (by omega)
      simp only [Value.slice.injEq] at hv0
      obtain ⟨rfl, _, rfl⟩ := hv0
      obtain ⟨x, hx⟩ : ∃ x, I[k]? = some x := ⟨_, List.getElem?_eq_getElem (by have := Hm.out; omega)⟩
      obtain ⟨v1, v2⟩ := knV_at hx
      have e1 := (hg5 (k * 2) (by omega)).trans v1
      have e2 := (hg5 (k * 2 + 1) (by omega)).trans v2
      have hne := HN.out k (by have := Hm.out; omega) x hx
      have hb1 : (x.1 == g) = false := by rw [beq_eq_false_iff_ne]; exact hne
      have HG1 := Lib.hid (show Calls Tryz.prog 110 #[.agg #[.int .i64 x.1, .string (ba x.2)], .pointer (some ⟨q, 0, none⟩)] wr fun e w' => e = .returned (.bool false) ∧ Below wr.heap.size wr w' from (HG.out x.1 (ba x.2) wr HB.out).mono (fun e w' hx => ⟨by rw [hx.1, hb1], hx.2⟩))
      clear hg5 v1 v2 hx hne hb1
      go_wp2_with fail
      refine HG1.out.mono ?_
      rintro e w1 ⟨rfl, hb1⟩
      have HB1 := Lib.hid (HB.out.trans (hb1.mono HB.out.size))
      clear hb1 e1 e2 HG1
      go_wp2_with fail
      go_roundw
      case rel => exact ⟨k + 1, hlt, by go_num, HB1⟩
      case measure => simp [intOf]; omega
    · go_wp2_with fail
      go_ret
      exact ⟨rfl, HB.out⟩
theorem delKn_none (v : Value) (B q : Nat) (I : List (Int × List UInt8)) (g : Int) (w : World) (hr : w.ownsRow B 151 2 v I.length (knV I)) (hl : I.length ≤ 1000000) (hq : w.cell? ⟨q, 0, none⟩ = some (.int .i64 g)) (hql : q < w.heap.size) (hn : NewGen I g) :
    Calls Tryz.prog 109 #[v, .func (.func 110) #[] #[.pointer (some ⟨q, 0, none⟩)]] w fun e w' => e = .returned v ∧ Below w.heap.size w w' := by
  have HI := Lib.hid (indexKn_none v B q I g w hr hl hq hql hn)
  obtain ⟨ia, ic, rfl⟩ := row_shape hr
  clear hr hq hql hn
  go_enter Tryz.func109, Tryz.ntmps109
  go_wp2_with fail
  refine HI.out.mono ?_
  rintro e w1 ⟨rfl, hb1⟩
  go_wp2_with fail
  go_ret
  exact ⟨rfl, hb1⟩
theorem CoordAt.setImages {w : World} {b : Nat} {c : CSt} (h : CoordAt w b c) (v : Value) : CoordAt (w.setCell ⟨b, 8, none⟩ v) b { c with images := v } := ⟨h.1.set 8 v, h.2⟩
def KnowSays (iv : Value) (b B : Nat) (c : CSt) (I : List (Int × List UInt8)) (g : Int) (T : List UInt8) (w : World) (e : Ending) (w' : World) : Prop :=
  ∃ v', e = .returned (.tuple #[]) ∧ CoordAt w' b { c with images := v' } ∧ w'.ownsRow B 151 2 v' (I.length + 1) (knV (I ++ [(g, T)])) ∧ Touch (fun k => k = b ∨ iv.ownBlock = some k) w w'
set_option maxRecDepth 100000 in
set_option maxHeartbeats 4000000 in
theorem know_new (b B : Nat) (c : CSt) (I : List (Int × List UInt8)) (g : Int) (T : List UInt8) (w : World) (h : CoordAt w b c) (hr : w.ownsRow B 151 2 c.images I.length (knV I)) (hB : B ≤ w.heap.size) (hl : I.length + 1 ≤ 32) (hn : NewGen I g) :
    Calls Tryz.prog 88 #[.pointer (some ⟨b, 0, none⟩), .int .i64 g, .string (ba T)] w (KnowSays c.images b B c I g T w) := by
  have hbl := h.1.lt
  obtain ⟨ia, ic, hi⟩ := row_shape hr
  have Hi := Lib.hid hi
  rw [hi] at hr
  rw [hi]
  have hmf : ∀ (fn : Fn) (first cap : Array Value) (w : World), (Instr.makeFunc fn first cap).run Tryz.prog w = .ok (.func fn first cap) w := fun _ _ _ _ => rfl
  have HB0 := Lib.hid ((Below.refl w.heap.size w).alloc (Nat.le_refl _) (.cells #[.int .i64 g] 3))
  have HQ0 := Lib.hid (Blk.new w [.int .i64 g] 3)
  have HC0 := Lib.hid (h.alloc (.cells #[.int .i64 g] 3))
  have HR0 := Lib.hid (hr.alloc (.cells #[.int .i64 g] 3))
  have hsn := knV_snoc I (g, T)
  have Hsn := Lib.hid hsn
  obtain ⟨m, hm⟩ : ∃ m, m = I.length := ⟨_, rfl⟩
  rw [← hm] at Hi HR0 ⊢
  have HN := Lib.hid hn
  have Hm := Lib.hid hm
  clear h hr hn hsn hi
  go_enter Tryz.func88, Tryz.ntmps88
  go_upto_region 1 with fail
  have B0 := HB0.out
  have Q0 := HQ0.out
  have C0 := HC0.out
  have R0 := HR0.out
  clear HB0 HQ0 HC0 HR0
  generalize w.alloc (.cells #[.int .i64 g] 3) = w0 at B0 Q0 C0 R0 ⊢
  obtain ⟨q, hq⟩ : ∃ q, q = w.heap.size := ⟨_, rfl⟩
  rw [← hq] at Q0 ⊢
  have hqb : b < q := by omega
  have HQ := Lib.hid hq
  have hql := Q0.lt
  have HD := Lib.hid (delKn_none (.slice ia m ic) B q I g w0 (by rw [← Hm.out]; exact R0) (by omega) (Q0.cell 0) hql HN.out)
  have c8 : w0.cell? ⟨b, 8, none⟩ = some (.slice ia m ic) := by rw [← Hi.out]; exact C0.hd 8 (by omega)
  have HB0 := Lib.hid B0
  have HQ0 := Lib.hid Q0
  have HC0 := Lib.hid C0
  have HR0 := Lib.hid R0
  clear B0 Q0 C0 R0 hq hm HN
  go_wp2_with fail
  refine HD.out.mono ?_
  rintro e w1 ⟨rfl, hb1⟩
  have C1 := HC0.out.below hb1
  have Q1 := HQ0.out.below hb1
  have R1 := ownsRow_below HR0.out hb1
  have B1 := HB0.out.trans (hb1.mono HB0.out.size)
  have hl1 := C1.1.lt
  have f8 := C1.1.free 8
  have hne : (Value.slice ia m ic).ownBlock ≠ some b := row_ne R1 C1.1 (by decide)
  have C2 := C1.setImages (.slice ia m ic)
  have hT2 : Touch (fun k => k = b) w1 (w1.setCell ⟨b, 8, none⟩ (.slice ia m ic)) := touchOne_set (Touch.refl _ _) _
  have R2 := row_touch R1 hT2 (fun g hg e => hne (by rw [hg, e]))
  have Q2 := Q1.set_other (a := ⟨b, 8, none⟩) (by show q ≠ b; omega) (.slice ia m ic)
  have T2 := (Touch.of_below (S := fun k => k = b) B1).trans hT2
  have c81 : w1.cell? ⟨b, 8, none⟩ = some (.slice ia m ic) := by rw [← Hi.out]; exact C1.hd 8 (by omega)
  have HC2 := Lib.hid C2
  have HR2 := Lib.hid R2
  have HQ2 := Lib.hid Q2
  have HT2 := Lib.hid T2
  clear hb1 C1 Q1 R1 B1 hT2 C2 R2 Q2 T2 HD HB0 HQ0 HC0 HR0 c8 hql
  go_wp2_with fail
  generalize w1.setCell ⟨b, 8, none⟩ (.slice ia m ic) = w3 at HC2 HR2 HQ2 HT2 ⊢
  clear c81 f8 hl1
  have hown3 := HR2.out
  have HAt3 := HC2
  have d8 : w3.cell? ⟨b, 8, none⟩ = some (.slice ia m ic) := HAt3.out.hd 8 (by omega)
  have q0 : w3.cell? ⟨q, 0, none⟩ = some (.int .i64 g) := HQ2.out.cell 0
  have hnc : (Value.slice ia m ic).ownBlock ≠ some b := row_ne hown3 HAt3.out.1 (by decide)
  have f8 := HAt3.out.1.free 8
  have hfa : ∀ o : Obj, (w3.alloc o).drew.frozen? ⟨b, 8, none⟩ = false := fun o => (HAt3.out.1.alloc o).drew.free 8
  have hfb : ∀ o : Obj, (w3.alloc o).frozen? ⟨b, 8, none⟩ = false := fun o => (HAt3.out.1.alloc o).free 8
  have hbl3 := HAt3.out.1.lt
  have hql3 := HQ2.out.lt
  obtain ⟨i0, hi0, hz0, hz1, hz2⟩ := info_parts info_kn
  have hbase3 : B ≤ w3.heap.size := Nat.le_trans hB HT2.out.size
  have hm32 : m + 1 ≤ 32 := by have := Hm.out; omega
  go_cut [] (fun wx => ∃ v', Hid (CoordAt wx b { c with images := v' }) ∧ Hid (wx.ownsRow B 151 2 v' (m + 1) (knV I ++ [.int .i64 g, .string (ba T)])) ∧ Hid (Touch (fun k => k = b ∨ (Value.slice ia m ic).ownBlock = some k) w wx))
  case first =>
    go_region_law
        ((refine step_append_lies _ (by rfl) _ _ _ (by rfl) B 151 i0 _ 2 24 Tryz.underlying66 hi0 hz0 hz1 hz2 rfl (by omega) (.slice ia m ic) m (knV I) (by rfl) ((hown3.alloc _).drew) ⟨w3.heap.size, 0, none⟩ 1 1 [.int .i64 g, .string (ba T)] (by rfl) (by rfl) (World.news_of_block (cs := #[.int .i64 g, .string (ba T)]) (t := 151) (fr := (0, 0)) (heap_alloc_new w3 _)) (by simp [Value.oneCell']) (by omega) (by unfold maxLen; omega) (by omega) (by simp; omega) (w3.heap.size + 1) (by simp) ?_; intro gg cap w4 hown4 hgrow hat hlt; have hc4 := hgrow.cell_far ⟨b, 8, none⟩ (by simp; omega) (Ne.symm hnc); have hf4 := hgrow.frozen_far ⟨b, 8, none⟩ (by simp; omega) (Ne.symm hnc)))
    all_goals go_wp2_with fail
    all_goals go_meet
    all_goals
      have hgc : gg ≠ b := by
        rcases hat with e | e
        · intro e2; exact hnc (by rw [e, e2])
        · omega
      have q1 := (((HAt3.out.alloc (.cells #[.int .i64 g, .string (ba T)] 151)).drew).grown hgrow hnc).setImages (.slice (some ⟨gg, 0, none⟩) (m + 1) cap)
      refine ⟨_, Lib.hid q1, Lib.hid ?_, Lib.hid ?_⟩
      · exact row_touch hown4 ((Touch.refl (fun k => k = b) w4).set (p := ⟨b, 8, none⟩) (Or.inl rfl) _) (fun g hg e => hgc (by simp [Value.ownBlock] at hg; omega))
      · exact (touch_grown (((HT2.out.mono (fun k _ e => Or.inl e)).alloc (.cells #[.int .i64 g, .string (ba T)] 151)).drew) hgrow (fun g hg => Or.inl (Or.inr hg))).set (p := ⟨b, 8, none⟩) (Or.inl (Or.inl rfl)) _
  case rest =>
    obtain ⟨v', HC5, HR5, HT5⟩ := hcut
    clear d8 q0 hown3 hnc f8 hfa hfb HAt3 HC2 HR2 HQ2 HT2
    obtain ⟨va, vc, rfl⟩ := row_shape HR5.out
    have e8 : wc.cell? ⟨b, 8, none⟩ = some (.slice va (m + 1) vc) := HC5.out.hd 8 (by omega)
    have hle : ¬ (32 : Int) < ((m + 1 : Nat) : Int) := by omega
    have hle2 : ¬ (32 : Int) < (m : Int) + 1 := by omega
    go_wp2_with fail
    go_end0
    refine ⟨_, rfl, HC5.out, ?_, HT5.out⟩
    rw [← Hm.out, Hsn.out]
    exact HR5.out
end Go.Proofs.YtaemlplcjjbamaaGreatDoor
namespace Go.Proofs.YtaemlplcjjbamaaGreatDoor
open Go.RowKit
def BasisIs (floor top gen best g : Int) : Prop := floor ≤ g ∧ g < top ∧ g < gen ∧ (best = gen ∨ best < g)
instance (floor top gen best g : Int) : Decidable (BasisIs floor top gen best g) := by unfold BasisIs; exact inferInstance
def basisStep (floor top gen best g : Int) : Int := if BasisIs floor top gen best g then g else best
def basis (floor top gen : Int) (l : List Int) : Int := l.foldl (basisStep floor top gen) gen
theorem basis_snoc (floor top gen : Int) (l : List Int) (g : Int) : basis floor top gen (l ++ [g]) = basisStep floor top gen (basis floor top gen l) g := by unfold basis; rw [List.foldl_append]; rfl
theorem basis_yes {floor top gen b g : Int} {l : List Int} {k : Nat} {hk : k < l.length} (hb : b = basis floor top gen (l.take k)) (hg : g = l[k]) (h : BasisIs floor top gen b g) : g = basis floor top gen (l.take (k + 1)) := by
  rw [List.take_succ_eq_append_getElem hk, basis_snoc, ← hb, ← hg, basisStep, if_pos h]
theorem basis_no {floor top gen b g : Int} {l : List Int} {k : Nat} {hk : k < l.length} (hb : b = basis floor top gen (l.take k)) (hg : g = l[k]) (h : ¬ BasisIs floor top gen b g) : b = basis floor top gen (l.take (k + 1)) := by
  rw [List.take_succ_eq_append_getElem hk, basis_snoc, ← hb, ← hg, basisStep, if_neg h]
theorem intsAt_cell {w : World} {ad : Option Addr} {l : List Int} (h : IntsAt .i64 w ad l) (k : Nat) (hk : k < l.length) : ∃ b off, ad = some ⟨b, off, none⟩ ∧ w.cell? ⟨b, off + k, none⟩ = some (.int .i64 l[k]) := by
  rcases h with rfl | ⟨b, off, h1, _, h3⟩
  · simp at hk
  · exact ⟨b, off, h1, h3 k hk⟩
set_option maxHeartbeats 1000000 in
theorem basis_any (w : World) (ad : Option Addr) (cap : Nat) (l : List Int) (floor top gen : Int) (h : IntsAt .i64 w ad l) (hl : l.length ≤ 1000000) :
    Calls Tryz.prog 113 #[.slice ad l.length cap, .int .i64 floor, .int .i64 top, .int .i64 gen] w fun e w' => e = .returned (.int .i64 (basis floor top gen l)) ∧ w = w' := by
  have H := Lib.hid h
  clear h
  go_enter Tryz.func113, Tryz.ntmps113
  go_wp2
  go_loop [9, 15] (fun b i => ∃ (k : Nat) (x : Int), k ≤ l.length ∧ i = .int .i64 k ∧ b = .int .i64 x ∧ Hid (x = basis floor top gen (l.take k))) (fun _ i => l.length - (intOf i).toNat)
  case atStart => exact ⟨0, gen, Nat.zero_le _, rfl, rfl, Lib.hid rfl⟩
  case round =>
    obtain ⟨k, x, hk, rfl, rfl, Hx⟩ := hrel
    by_cases hlt : k < l.length
    · obtain ⟨b, off, rfl, hc⟩ := intsAt_cell H.out k hlt
      obtain ⟨g, hg⟩ : ∃ g, g = l[k] := ⟨_, rfl⟩
      rw [← hg] at hc
      have Hg := Lib.hid hg
      clear hg
      by_cases hP : BasisIs floor top gen x g
      · have HP := Lib.hid hP
        clear hP
        go_wp2
        all_goals first
          | (exfalso; have hx := HP.out; unfold BasisIs at hx; simp at *; omega)
          | (go_round
             case rel => exact ⟨k + 1, g, by omega, by go_num, rfl, Lib.hid (basis_yes Hx.out Hg.out HP.out)⟩
             case measure => simp [intOf]; omega)
      · have HP := Lib.hid hP
        clear hP
        go_wp2
        all_goals first
          | (exfalso; apply HP.out; unfold BasisIs; simp at *; omega)
          | (go_round
             case rel => exact ⟨k + 1, x, by omega, by go_num, rfl, Lib.hid (basis_no Hx.out Hg.out HP.out)⟩
             case measure => simp [intOf]; omega)
    · have hk' : k = l.length := by omega
      subst hk'
      go_wp2
      go_ret
      exact ⟨ret_int (by rw [Hx.out, List.take_length]), rfl⟩
theorem basis_in (floor top gen : Int) (l : List Int) : basis floor top gen l = gen ∨ (floor ≤ basis floor top gen l ∧ basis floor top gen l < top ∧ basis floor top gen l < gen) := by
  unfold basis
  have key : ∀ (l : List Int) (b : Int), (b = gen ∨ (floor ≤ b ∧ b < top ∧ b < gen)) → (l.foldl (basisStep floor top gen) b = gen ∨ (floor ≤ l.foldl (basisStep floor top gen) b ∧ l.foldl (basisStep floor top gen) b < top ∧ l.foldl (basisStep floor top gen) b < gen)) := by
    intro l
    induction l with
    | nil => intro b h; exact h
    | cons x l ih =>
      intro b h
      rw [List.foldl_cons]
      apply ih
      unfold basisStep
      by_cases hx : BasisIs floor top gen b x
      · rw [if_pos hx]
        exact Or.inr ⟨hx.1, hx.2.1, hx.2.2.1⟩
      · rw [if_neg hx]; exact h
  exact key l gen (Or.inl rfl)
end Go.Proofs.YtaemlplcjjbamaaGreatDoor
