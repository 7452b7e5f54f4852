/- The statement's world over a coordinator in whatever state,  -/
import Derived.Test.YtaemlplcjjbamaaGreatDoorBLTold
import Derived.Test.YtaemlplcjjbamaaGreatDoorBGAsk
import Derived.Test.YtaemlplcjjbamaaGreatDoorBGTick
namespace Go.Proofs.YtaemlplcjjbamaaGreatDoor
set_option maxRecDepth 100000
set_option maxHeartbeats 8000000
open Go Go.RowKit
set_option linter.unusedVariables false
variable {Z bb bb' c kb mb n wb : Nat} {ad : Option Addr} {bal gk id : Int} {gb : Prop} {gm : ByteArray} {sv : Value} {w w' w0 : World}
def zCt (gb : Prop) (T : List Tl) (gk : Int) (gm : ByteArray) (bb : Nat) : Gh where
 VA := fun g m v => ¬ gb ∨ ∃ x ∈ T, told8 v g m x = true
 VY := fun r v => ∃ x ∈ T, zAE v r x = true
 gk := gk
 gm := gm
 gb := gb
 bb := bb
theorem Gf.ghost {G G' : Gh} {D : Dt} {S : CSt} (h : Gf w0 c kb mb n id bal G Z D S w) (hk : G'.gk = G.gk) (hm : G'.gm = G.gm) (hg : G'.gb → G.gb) (hb : G.bb ≤ G'.bb)
  (hA : ∀ g m v, G.VA g m v → G'.VA g m v) (hY : ∀ r v, G.VY r v → G'.VY r v) : Gf w0 c kb mb n id bal G' Z D S w :=
 { h with
  jobB := fun J hJ => by
   obtain ⟨a1, a2, a3, a4, a5, a6⟩ := h.jobB J hJ
   exact ⟨a1, a2, a3, a4, a5, fun i hi hv => hA _ _ _ (a6 i hi hv)⟩
  cli := fun J hJ hc => by
   obtain ⟨a1, a2, a3⟩ := h.cli J hJ hc
   exact ⟨a1, by rw [hk]; exact a2, fun e => by rw [hm]; exact a3 (hg e)⟩
  calB := fun C hC => by
   obtain ⟨a1, a2, a3, a4, a5⟩ := h.calB C hC
   exact ⟨a1, a2, a3, a4, by rw [hk]; exact a5⟩
  yesB := fun t ht => by
   obtain ⟨a1, a2, a3⟩ := h.yesB t ht
   exact ⟨a1, fun i hi hv => hY _ _ (a2 i hi hv), a3⟩
  prnB := fun t ht => by
   obtain ⟨a1, a2, a3, r, a4⟩ := h.prnB t ht
   exact ⟨a1, a2, by rw [hk]; exact a3, r, a4.imp (fun i => hY _ _)⟩
  ansB := fun A hA' => by
   obtain ⟨a1, a2⟩ := h.ansB A hA'
   refine ⟨a1, fun e => ⟨fun e1 e2 => ?_, fun e1 => ?_⟩⟩
   ·rw [hm]
    exact ((a2 e).1 (by rw [← hk]; exact e1) (hg e2)).imp (fun i => hA _ _ _)
   ·obtain ⟨r, hr⟩ := (a2 e).2 (by rw [← hk]; exact e1)
    exact ⟨r, hr.imp (fun i => hY _ _)⟩
  bokL := Nat.le_trans h.bokL hb
  mk1 := fun C hC h1 h2 h3 => by
   rw [hm]
   exact h.mk1 C hC h1 h2 (hg h3) }
theorem Gs.told {T T' : List Tl} (h : Gs w0 c kb mb n id bal (zCt gb T gk gm bb) Z w) (hT : ∀ x ∈ T, x ∈ T') (hb : bb ≤ bb') : Gs w0 c kb mb n id bal (zCt gb T' gk gm bb') Z w := by
 obtain ⟨D, S, hG⟩ := h
 refine ⟨D, S, hG.at_, hG.gf.ghost rfl rfl (fun e => e) hb (fun g m v e => ?_) (fun r v e => ?_)⟩
 ·rcases e with e | ⟨x, hx, hp⟩
  ·exact Or.inl e
  ·exact Or.inr ⟨x, hT x hx, hp⟩
 ·obtain ⟨x, hx, hp⟩ := e
  exact ⟨x, hT x hx, hp⟩
def tyW : List TypeId := 43 :: 57 :: tyC
def FrW (w0 w w' : World) : Prop := KeepT tyW w w' ∧ Abw w0 w w'
theorem FrW.trans {w0 a b c : World} (h : FrW w0 a b) (k : FrW w0 b c) : FrW w0 a c := ⟨h.1.trans k.1, Touch.trans h.2 k.2⟩
theorem FrW.of_below (h : Below w.heap.size w w') : FrW w0 w w' := ⟨KeepT.of_below h, Touch.of_below h⟩
theorem FrW.of_fr (h : Fr w0 w w') : FrW w0 w w' := ⟨h.1.mono (fun t ht => List.mem_cons_of_mem _ (List.mem_cons_of_mem _ ht)), h.2⟩
structure Lw (w0 : World) (c wb kb mb n : Nat) (id bal : Int) (gb : Prop) (gk : Int) (gm : ByteArray) (bb Z : Nat) (T : List Tl) (L : List MG) (sv : Value) (w : World) : Prop where
 gs : Gs w0 c kb mb n id bal (zCt gb T gk gm bb) Z w
 world : ∃ av, Blk w wb (zCY c kb id (n : Int) sv av) 43 ∧ w.ownsRow w0.heap.size 57 5 av T.length (toldV T) ∧ w.ownsRow w0.heap.size 30 14 sv L.length (msgsV L)
 sent : ∀ m ∈ L, SentM m
 sentL : L.length ≤ 585
 wb0 : w0.heap.size ≤ wb
theorem Gs.quiet {G : Gh} (h : Gs w0 c kb mb n id bal G Z w) (hb : Below w.heap.size w w') : Gs w0 c kb mb n id bal G Z w' := by
 obtain ⟨D, S, hG⟩ := h
 exact ⟨D, S, hG.quiet hb⟩
theorem Lw.quiet {T : List Tl} {L : List MG} (h : Lw w0 c wb kb mb n id bal gb gk gm bb Z T L sv w) (hb : Below w.heap.size w w') : Lw w0 c wb kb mb n id bal gb gk gm bb Z T L sv w' := by
 obtain ⟨av, a1, a2, a3⟩ := h.world
 exact ⟨h.gs.quiet hb, ⟨av, a1.below hb, zAc a2 hb, zAc a3 hb⟩, h.sent, h.sentL, h.wb0⟩
theorem zFf {l : List Ent} (h : zBf w ad l) (k : Nat) : zBf w ad (l.take k) := by
 rcases h with h | ⟨b, off, h1, h2, h3⟩
 ·exact Or.inl (by rw [h]; simp)
 ·refine Or.inr ⟨b, off, h1, h2, fun i hi => ?_⟩
  have hl : i < l.length := by rw [List.length_take] at hi; omega
  have := h3 i hl
  simp only [List.getElem_take]
  exact this
def LwGo (w0 : World) (c wb kb mb n : Nat) (id bal : Int) (gb : Prop) (gk : Int) (gm : ByteArray) (bb Z : Nat) (T : List Tl) (K : Nat) (L : List MG) (sv : Value) (w w' : World) : Prop :=
 ∃ T', (∀ x ∈ T, x ∈ T') ∧ T'.length ≤ T.length + K ∧ Lw w0 c wb kb mb n id bal gb gk gm bb Z T' L sv w' ∧ FrW w0 w w'
theorem zDn {T : List Tl} {L : List MG} (h : Lw w0 c wb kb mb n id bal gb gk gm bb Z T L sv w) (hZ : Z ≤ 100000) (hbb : bb ≤ 900000000) (hTl : T.length ≤ 900000) (hb0 : bal ≠ 0)
  (m : MG) (es : List Ent) (hes : zBf w0 m.la es) (hel : es.length = m.ll) (hlc : m.ll ≤ m.lc) (hpt : m.pt.size ≤ 9223372036854775807) :
  Calls Tryz.prog 29 #[.pointer (some ⟨wb, 0, none⟩), .agg #[.int .i64 m.k, .int .i64 m.fr, .int .i64 m.to_, .int .i64 m.bal, .int .i64 m.gen, .int .i64 m.bas, .int .i64 m.fl, .int .i64 m.tp, .int .i64 m.rd, .string m.mrk, .int .i64 m.pa, .int .i64 m.po, .string m.pt, .slice m.la m.ll m.lc]] w
   (fun e w' => e = .returned (.tuple #[]) ∧ LwGo w0 c wb kb mb n id bal gb gk gm bb (Z + 1) T 1 L sv w w') := by
 obtain ⟨D, S, hG⟩ := h.gs
 obtain ⟨av, hW, hA, hSv⟩ := h.world
 have hn1 := hG.gf.n1
 have hnS : 1 ≤ S.n := by rw [hG.gf.n_]; omega
 have hsz := hG.gf.below.size
 have hl6 : (es.take 64).length = min m.ll 64 := by rw [List.length_take, hel]; omega
 have hwb0 := h.wb0
 by_cases hown : m.to_ = id ∧ 0 ≤ m.fr ∧ m.fr < (n : Int) ∧ m.bal = bal
 ·obtain ⟨e1, e2, e3, e4⟩ := hown
  obtain ⟨v, hv⟩ : ∃ v : Nat, m.fr = (v : Int) := ⟨m.fr.toNat, by omega⟩
  rw [e1, hv, e4]
  have hvn : v < n := by omega
  refine zIi wb c kb v T.length w0.heap.size n id bal m.k m.gen m.bas m.fl m.tp m.rd m.pa m.po m.mrk m.pt m.la m.ll m.lc (es.take 64).length sv av (toldV T) S w hW hG.at_ hnS hG.gf.bal_ hA hsz (by omega) hvn hl6 hlc (fun w1 av' hT hW1 hA1 hav => ?_)
  have hty : ∀ q, q < w.heap.size → zGH wb av q → Tyd [43, 57] w q := fun q _ hq => by
   rcases hq with e | e
   ·subst e; exact Tyd.blk hW (by simp)
   ·exact Tyd.row hA (by simp) e
  have hab : Abw w0 w w1 := hT.mono (fun q _ hq => by
   rcases hq with e | e
   ·subst e; exact hwb0
   ·exact (zCe hA e).1)
  have hkp : Keep [43, 57] w w1 := Keep.of_touch hT hty (by decide)
  have hG1 := hG.keep hkp (hab.below hG.gf.below) (by decide)
  have hin : ∀ x ∈ T, x ∈ T ++ [(⟨m.k, (v : Int), m.gen, m.rd, m.mrk⟩ : Tl)] := fun x hx => List.mem_append_left _ hx
  have hnew : (⟨m.k, (v : Int), m.gen, m.rd, m.mrk⟩ : Tl) ∈ T ++ [(⟨m.k, (v : Int), m.gen, m.rd, m.mrk⟩ : Tl)] := List.mem_append_right _ (List.mem_singleton.2 rfl)
  obtain ⟨D2, S2, hG2⟩ := (show Gs w0 c kb mb n id bal (zCt gb T gk gm bb) Z w1 from ⟨D, S, hG1⟩).told hin (Nat.le_refl bb)
  refine (zHx hG2 hZ hbb hb0 m.k (v : Int) id bal m.gen m.bas m.fl m.tp m.rd m.pa m.po m.mrk m.pt m.la m.lc (es.take 64) (zFf hes 64) (by rw [hl6]; omega) hpt (fun k8 _ _ v' hv' _ => ?_) (fun k12 _ _ v' hv' _ => ?_)).mono (fun e w' hd => ?_)
  ·have : v = v' := by omega
   subst this
   exact Or.inr ⟨_, hnew, by unfold told8; exact decide_eq_true ⟨k8, rfl, rfl, rfl⟩⟩
  ·have : v = v' := by omega
   subst this
   exact ⟨_, hnew, by unfold zAE; exact decide_eq_true ⟨k12, rfl, rfl⟩⟩
  ·obtain ⟨rfl, hgs, hfr⟩ := hd
   have hfw : FrW w0 w w1 := ⟨hkp.1.mono (fun t ht => by
    rcases List.mem_cons.1 ht with e | ht
    ·rw [e]; exact List.mem_cons_self
    ·rw [List.mem_singleton.1 ht]; exact List.mem_cons_of_mem _ List.mem_cons_self), hab⟩
   refine ⟨rfl, _, hin, by rw [List.length_append]; exact Nat.le_refl _, ⟨hgs, ⟨av', hfr.1.1 _ _ _ (by decide) hW1, ?_, hfr.1.2 _ _ _ _ _ _ (by decide) (hkp.1.2 _ _ _ _ _ _ (by decide) hSv)⟩, h.sent, h.sentL, h.wb0⟩, hfw.trans (FrW.of_fr hfr)⟩
   rw [zIc, List.length_append]
   exact hfr.1.2 _ _ _ _ _ _ (by decide) hA1
 ·refine zIQ wb c kb T.length w0.heap.size n id bal m.k m.fr m.to_ m.bal m.gen m.bas m.fl m.tp m.rd m.pa m.po m.mrk m.pt m.la m.ll m.lc (es.take 64).length sv av (toldV T) S w hW hG.at_ hnS hG.gf.bal_ hA hl6 hlc (by
   by_cases h1 : m.to_ = id
   ·by_cases h2 : m.fr < 0
    ·exact Or.inr (Or.inl h2)
    ·by_cases h3 : (n : Int) ≤ m.fr
     ·exact Or.inr (Or.inr (Or.inl h3))
     ·exact Or.inr (Or.inr (Or.inr (fun h4 => hown ⟨h1, by omega, by omega, h4⟩)))
   ·exact Or.inl h1) (fun w1 hb1 => ?_)
  refine (zHx (hG.quiet hb1) hZ hbb hb0 m.k m.fr m.to_ m.bal m.gen m.bas m.fl m.tp m.rd m.pa m.po m.mrk m.pt m.la m.lc (es.take 64) (zFf hes 64) (by rw [hl6]; omega) hpt (fun _ h1 h2 v' hv' hvn => absurd ⟨h1, by omega, by omega, h2⟩ hown) (fun _ h1 h2 v' hv' hvn => absurd ⟨h1, by omega, by omega, h2⟩ hown)).mono (fun e w' hd => ?_)
  obtain ⟨rfl, hgs, hfr⟩ := hd
  have hfw := (Fr.of_below (w0 := w0) hb1).trans hfr
  exact ⟨rfl, T, fun x hx => hx, Nat.le_succ _, ⟨hgs, ⟨av, hfw.1.1 _ _ _ (by decide) hW, hfw.1.2 _ _ _ _ _ _ (by decide) hA, hfw.1.2 _ _ _ _ _ _ (by decide) hSv⟩, h.sent, h.sentL, h.wb0⟩, FrW.of_fr hfw⟩
theorem six_num : ∀ k, ∀ h : k < 6, NumL ((((⟨#[66, 71, 83, 70, 84, 82]⟩ : ByteArray)[k]'(show k < 6 from h)).toNat : Int)) := by
 unfold NumL
 decide
end Go.Proofs.YtaemlplcjjbamaaGreatDoor
