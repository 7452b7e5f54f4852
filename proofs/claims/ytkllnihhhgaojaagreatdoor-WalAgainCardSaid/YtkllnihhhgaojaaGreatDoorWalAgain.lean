/- The walk of WalAgain. Conditions: sizes. -/
import Derived.Test.YtkllnihhhgaojaaGreatDoorWalSure
import Derived.Test.YtkllnihhhgaojaaGreatDoorRows
import Derived.ChangeSame
import Derived.Deep.Slices
import Derived.Deep.Fields
import Derived.ProofKit
import Derived.SliceStrings
namespace Go.Proofs.YtkllnihhhgaojaaGreatDoor
open Go Go.RowKit Go.ChangeShapes Go.WideShapes Go.Deep
set_option linter.unusedVariables false

theorem list_of_all {α : Type} (p : Nat → α → Prop) (n : Nat) (h : ∀ i, i < n → ∃ x, p i x) : ∃ L : List α, L.length = n ∧ ∀ i (hi : i < L.length), p i L[i] := by
  induction n with
  | zero => exact ⟨[], rfl, fun i hi => absurd hi (by simp)⟩
  | succ n ih =>
    obtain ⟨L, hl, hL⟩ := ih (fun i hi => h i (by omega))
    obtain ⟨x, hx⟩ := h n (by omega)
    refine ⟨L ++ [x], by simp [hl], fun i hi => ?_⟩
    by_cases hin : i < L.length
    · rw [List.getElem_append_left hin]; exact hL i hin
    · have : i = L.length := by simp at hi; omega
      subst this
      rw [List.getElem_append_right (Nat.le_refl _)]
      simp
      rw [hl]; exact hx

section
variable {H : Type} {enc : TypeId × Value → H} {P : Program} {w : World} {base : Nat} {spare : Nat → Bool} {held : Bool}
theorem open_slice_fields {t e : TypeId} {fs : Array Field} {fuel : Nat} {cs : List Value} {x : DataW H × List MemPlace} (ht : P.underlying t = some (.slice e)) (he : P.underlying e = some (.struct fs))
    (hone : oneCellFields P fs = true) (hC : P.cellsOf e = fs.size) (h : DataW.trod enc P w base spare held fuel t cs = some x) :
    ∃ (ad : Option Addr) (len cap : Nat), cs = [.slice ad len cap] ∧ len ≤ cap ∧ cap ≤ maxLen ∧ (ad = none → len = 0) ∧
      ∀ i, i < len → ∃ a, ad = some a ∧ ∀ (j : Nat) (f : Field), fs[j]? = some f → ∃ (v : Value) (y : DataW H × List MemPlace) (n : Nat), w.cell? (a.add (i * fs.size + j)) = some v ∧ DataW.trod enc P w base spare held n f.type [v] = some y := by
  rcases open_slice ht h with ⟨h0, _⟩ | ⟨a, len, cap, m, n, D, Pl, hcs, hb, hl, hm, hmm, hx, hi⟩
  · exact ⟨none, 0, 0, h0, Nat.le_refl _, Nat.zero_le _, fun _ => rfl, fun i hi => absurd hi (by omega)⟩
  · refine ⟨some a, len, cap, hcs, hl, hm, fun h => by (cases h), fun i hil => ⟨a, rfl, fun j f hj => ?_⟩⟩
    have him : i < m := by rw [hmm]; split <;> omega
    obtain ⟨cs', hc, ht'⟩ := hi i him
    rw [hC] at hc
    obtain ⟨ys, n', hn', hy, hlen, hyl, hf⟩ := DataW.trod_struct he ht'
    obtain ⟨_, hcl, hat⟩ := World.cells?_some hc
    obtain ⟨ho, hk⟩ := hone_of hone j f hj
    have hjl : j < fs.size := (Array.getElem?_eq_some_iff.1 hj).1
    have hcell := hat j hjl
    have hv : cs'[j]? = some (cs'[j]'(by omega)) := List.getElem?_eq_getElem (by omega)
    have h1 := hf j f hj
    rw [ho, hk] at h1
    have hone' : (cs'.drop j).take 1 = [cs'[j]'(by omega)] := by
      rw [List.drop_eq_getElem_cons (by omega)]
      rfl
    rw [hone'] at h1
    have hys : ys[j]? = some (ys[j]'(by omega)) := List.getElem?_eq_getElem (by omega)
    refine ⟨_, _, n', ?_, h1.trans hys⟩
    rw [← Go.Deep.add_add, hcell, hv]
end
theorem addr_none {w : World} {a : Addr} {v : Value} (h : w.cell? a = some v) : ∃ b off, a = ⟨b, off, none⟩ ∧ b < w.heap.size ∧ ∀ j, a.add j = ⟨b, off + j, none⟩ := by
  have hlt := World.block_lt_of_cell? w _ h
  obtain ⟨b, off, spot⟩ := a
  have hspot : spot = none := by simpa using World.cell?_spot h
  subst hspot
  refine ⟨b, off, rfl, hlt, fun j => ?_⟩
  unfold Addr.add
  split
  · subst j; rfl
  · rfl
/-- the fields of each element, the slice's place told by block and offset -/
theorem open_fields_at {H : Type} {enc : TypeId × Value → H} {P : Program} {w : World} {base : Nat} {spare : Nat → Bool} {held : Bool}
    {t e : TypeId} {fs : Array Field} {fuel : Nat} {cs : List Value} {x : DataW H × List MemPlace} (ht : P.underlying t = some (.slice e)) (he : P.underlying e = some (.struct fs))
    (hone : oneCellFields P fs = true) (hC : P.cellsOf e = fs.size) (hpos : 0 < fs.size) (h : DataW.trod enc P w base spare held fuel t cs = some x) :
    ∃ (ad : Option Addr) (len cap : Nat), cs = [.slice ad len cap] ∧ len ≤ cap ∧ cap ≤ maxLen ∧ (ad = none → len = 0) ∧
      (0 < len → ∃ b off, ad = some ⟨b, off, none⟩ ∧ b < w.heap.size ∧ ∀ i, i < len → ∀ (j : Nat) (f : Field), fs[j]? = some f → ∃ (v : Value) (y : DataW H × List MemPlace) (n : Nat), w.cell? ⟨b, off + (i * fs.size + j), none⟩ = some v ∧ DataW.trod enc P w base spare held n f.type [v] = some y) := by
  obtain ⟨ad, len, cap, rfl, hl, hm, hnil, hall⟩ := open_slice_fields ht he hone hC h
  refine ⟨ad, len, cap, rfl, hl, hm, hnil, fun h0 => ?_⟩
  obtain ⟨a, rfl, hf⟩ := hall 0 h0
  obtain ⟨v0, y0, n0, c0, t0⟩ := hf 0 (fs[0]'hpos) (Array.getElem?_eq_getElem hpos)
  have c0' : w.cell? a = some v0 := by
    have e : a.add (0 * fs.size + 0) = a := by simp [Addr.add]
    rw [← e]; exact c0
  obtain ⟨b, off, rfl, hb, hadd⟩ := addr_none c0'
  refine ⟨b, off, rfl, hb, fun i hi j f hj => ?_⟩
  obtain ⟨a', ha', hf'⟩ := hall i hi
  cases ha'
  obtain ⟨v, y, n, c, t⟩ := hf' j f hj
  rw [hadd] at c
  exact ⟨v, y, n, c, t⟩


structure OpR where
  kind : Int
  n : Int
  text : ByteArray
  snap : List ByteArray
  fates : List Int
/-- the i-th call lies at o -/
def OpAt (w : World) (b o : Nat) (x : OpR) : Prop :=
  w.cell? ⟨b, o, none⟩ = some (.int .i64 x.kind) ∧ w.cell? ⟨b, o + 1, none⟩ = some (.int .i64 x.n) ∧ w.cell? ⟨b, o + 2, none⟩ = some (.string x.text) ∧
  (∃ sa sc, w.cell? ⟨b, o + 3, none⟩ = some (.slice sa x.snap.length sc) ∧ StrsAt w sa x.snap ∧ x.snap.length ≤ maxLen) ∧
  (∃ fa fc, w.cell? ⟨b, o + 4, none⟩ = some (.slice fa x.fates.length fc) ∧ IntsAt .i64 w fa x.fates ∧ x.fates.length ≤ maxLen) ∧
  (Lit.int .i64 x.kind).wf = true ∧ (Lit.int .i64 x.n).wf = true
def OpsAt (w : World) (ad : Option Addr) (L : List OpR) : Prop := L = [] ∨ ∃ b off, ad = some ⟨b, off, none⟩ ∧ b < w.heap.size ∧ ∀ i (hi : i < L.length), OpAt w b (off + i * 5) L[i]
theorem open_ops {H : Type} {enc : TypeId × Value → H} {w : World} {base : Nat} {held : Bool} {fuel : Nat} {cs : List Value} {x : DataW H × List MemPlace} (h : DataW.trod enc Tryz.prog w base (fun _ => true) held fuel 48 cs = some x) :
    ∃ (ad : Option Addr) (cap : Nat) (L : List OpR), cs = [.slice ad L.length cap] ∧ L.length ≤ cap ∧ cap ≤ maxLen ∧ OpsAt w ad L := by
  obtain ⟨ad, len, cap, rfl, hl, hm, hnil, hall⟩ := open_fields_at Tryz.underlying48 Tryz.underlying52 (by kernel_rfl) (by kernel_rfl) (by decide) h
  by_cases h0 : len = 0
  · subst h0; exact ⟨ad, cap, [], rfl, Nat.zero_le _, hm, Or.inl rfl⟩
  · obtain ⟨b, off, rfl, hb, hf⟩ := hall (by omega)
    obtain ⟨L, hL, hp⟩ := list_of_all (fun i (x : OpR) => OpAt w b (off + i * 5) x) len (by
      intro i hi
      obtain ⟨v0, y0, n0, c0, t0⟩ := hf i hi 0 _ rfl
      obtain ⟨v1, y1, n1, c1, t1⟩ := hf i hi 1 _ rfl
      obtain ⟨v2, y2, n2, c2, t2⟩ := hf i hi 2 _ rfl
      obtain ⟨v3, y3, n3, c3, t3⟩ := hf i hi 3 _ rfl
      obtain ⟨v4, y4, n4, c4, t4⟩ := hf i hi 4 _ rfl
      obtain ⟨z0, e0, _, w0⟩ := DataW.trod_int Tryz.underlying3 t0
      obtain ⟨z1, e1, _, w1⟩ := DataW.trod_int Tryz.underlying3 t1
      obtain ⟨z2, e2, _, w2⟩ := DataW.trod_string Tryz.underlying9 t2
      obtain ⟨sa, sl, sc, st, e3, i3, l3, m3⟩ : ∃ sa sl sc, ∃ st : List ByteArray, v3 = .slice sa sl sc ∧ StrsAt w sa st ∧ st.length = sl ∧ sl ≤ maxLen := by
        rcases open_strings Tryz.underlying22 Tryz.underlying9 (by kernel_rfl) t3 with ⟨hcs, _⟩ | ⟨x, l, c, zs, hcs, _, hl, hm, hz, _, hcell, hwz⟩
        · simp at hcs
          exact ⟨none, 0, 0, [], hcs, Or.inl rfl, rfl, Nat.zero_le _⟩
        · simp at hcs
          have hq := isStrs_at (w := w) (a := some x) (len := l) (cap := c) (zs := zs) (Or.inr ⟨x, rfl, hl, hm, by simpa using hz, hcell, hwz⟩)
          exact ⟨some x, l, c, zs.take l, hcs, hq.1, hq.2.1, hq.2.2.2.1⟩
      obtain ⟨fa, fl, fc, ft, e4, i4, l4, m4⟩ : ∃ fa fl fc, ∃ ft : List Int, v4 = .slice fa fl fc ∧ IntsAt .i64 w fa ft ∧ ft.length = fl ∧ fl ≤ maxLen := by
        rcases open_ints Tryz.underlying50 Tryz.underlying3 (by kernel_rfl) t4 with ⟨hcs, _⟩ | ⟨x, l, c, zs, hcs, _, hl, hm, hz, _, hcell, hwz⟩
        · simp at hcs
          exact ⟨none, 0, 0, [], hcs, Or.inl rfl, rfl, Nat.zero_le _⟩
        · simp at hcs
          have hq := isInts_at (k := .i64) (w := w) (a := some x) (len := l) (cap := c) (zs := zs) (Or.inr ⟨x, rfl, hl, hm, by simpa using hz, hcell, hwz⟩)
          exact ⟨some x, l, c, zs.take l, hcs, hq.1, hq.2.1, hq.2.2.2.1⟩
      simp at e0 e1 e2
      subst e0 e1 e2 e3 e4
      subst l3
      subst l4
      exact ⟨⟨z0, z1, z2, st, ft⟩, c0, c1, c2, ⟨sa, sc, c3, i3, m3⟩, ⟨fa, fc, c4, i4, m4⟩, w0, w1⟩)
    exact ⟨_, cap, L, by rw [hL], by omega, hm, Or.inr ⟨b, off, rfl, hb, hp⟩⟩
theorem step_any {w0 w : World} {b k mb wa j : Nat} (h : Sd w0 b k mb wa j w) (hj : j ≤ 99) (kind nn : Int) (text : ByteArray) (sa : Option Addr) (ss : List ByteArray) (sc : Nat) (fa : Option Addr) (l : List Int) (fc : Nat) (hss : StrsAt w0 sa ss) (hsm : ss.length ≤ maxLen) (hfa : IntsAt .i64 w0 fa l) (hll : l.length ≤ maxLen) (hnn : (Lit.int .i64 nn).wf = true) :
    Calls Tryz.prog 25 #[.pointer (some ⟨wa, 0, none⟩), .agg #[.int .i64 kind, .int .i64 nn, .string text, .slice sa ss.length sc, .slice fa l.length fc]] w fun e w' => ∃ r, e = .returned (.bool r) ∧ Sd w0 b k mb wa (j + 1) w' := by
  have hb := int_bounds hnn
  by_cases h0 : kind = 0
  · subst h0; exact step_zero h hj nn text sa _ sc fa _ fc
  by_cases h1 : kind = 1
  · subst h1; exact step_one h hj nn text sa _ sc fa _ fc
  by_cases h2 : kind = 2
  · subst h2; exact step_two h hj nn text sa ss sc fa _ fc hss hsm
  by_cases h3 : kind = 3
  · subst h3
    exact step_three h hj nn text sa _ sc fa l fc hfa (fun g off hl e => by
      rcases hfa with h | ⟨b', off', e2, hlt, _⟩
      · exact absurd h hl
      · rw [e] at e2
        injection e2 with e2
        injection e2 with e2 _ _
        rw [e2]
        exact hlt) hll
  exact step_else h hj kind nn text sa _ sc fa _ fc h0 h1 h2 h3 (by omega)
theorem opAt_below {w w' : World} {b o : Nat} {x : OpR} (h : OpAt w b o x) (hb : b < w.heap.size) (hB : Below w.heap.size w w') : OpAt w' b o x := by
  obtain ⟨h0, h1, h2, ⟨sa, sc, h3, h4, h5⟩, ⟨fa, fc, h6, h7, h8⟩, h9⟩ := h
  have e : ∀ j, w'.cell? ⟨b, j, none⟩ = w.cell? ⟨b, j, none⟩ := fun j => hB.cell (p := ⟨b, j, none⟩) hb
  exact ⟨by rw [e]; exact h0, by rw [e]; exact h1, by rw [e]; exact h2, ⟨sa, sc, by rw [e]; exact h3, strsAt_below h4 hB, h5⟩, ⟨fa, fc, by rw [e]; exact h6, intsAt_below h7 hB, h8⟩, h9⟩
end Go.Proofs.YtkllnihhhgaojaaGreatDoor
namespace Go.Proofs.YtkllnihhhgaojaaGreatDoor
open Go Go.RowKit
set_option linter.unusedVariables false

theorem gd_new : Gd (newP 300) := ⟨Snd.newP 300, rfl, fun s hs => by cases hs⟩
theorem laid_sd (w : World) : Calls Tryz.prog 10 #[.int .i64 300] w fun e w' => ∃ wa b k mb, e = .returned (.pointer (some ⟨wa, 0, none⟩)) ∧ Sd w b k mb wa 0 w' := by
  obtain ⟨P, B, mk, s, he, hone, hchn, hlen, hBl, hw0, hls⟩ := laid_one 300 (by decide)
  have hok := wformat_L (newP 300) []
  have hgd : Gd (wformat (newP 300) []).P := by
    have hf : wformat (newP 300) [] = wbegin (newP 300) [] 1 [] := rfl
    rw [hf]
    exact gd_new.begin [] (m := 1) (by decide) []
  have hag := Ag.one hone (by decide) hw0 hls hchn
  refine (laid_any 300 w (by decide)).mono ?_
  rintro e w' ⟨wa, b, k, mb, lg, rfl, ho, hl, hw, h1, h2⟩
  rw [he] at ho hl hok hgd
  exact ⟨wa, b, k, mb, rfl, lg, P, B, _, _, _, _, [], [], _, _, ⟨ho, hl, hok, hw, h1, h2, World.ownsRow_nil _ _ _ _, World.ownsRow_nil _ _ _ _, hgd⟩, by omega, by omega, by decide, by decide, hag⟩
theorem Wd.opened {w0 w : World} {b k mb wa lg n : Nat} {P P2 : PS} {Bk al sl out : List ByteArray} {L L2 : LG} {av sv : Value} {safe : Int} {turned : Bool} (h : Wd w0 b k mb wa lg P Bk L n av sv al sl safe turned w) (hn : n ≤ 880000000) (hB : Bk.length ≤ 1000000000) (he : wopen P Bk = ⟨0, P2, L2, out⟩) :
    Calls Tryz.prog 15 #[.pointer (some ⟨b, 0, none⟩), .pointer (some ⟨k, 0, none⟩)] w fun e w' => ∃ lg2 va vc, e = .returned (.tuple #[.pointer (some ⟨lg2, 0, none⟩), .slice va out.length vc, .int .i64 0]) ∧ (w'.cell? ⟨wa, 0, none⟩ = some (.pointer (some ⟨b, 0, none⟩)) ∧ w'.cell? ⟨wa, 1, none⟩ = some (.pointer (some ⟨k, 0, none⟩))) ∧ Hid (Wd w0 b k mb wa lg P2 Bk L (n + 2097152) av sv al sl safe turned w' ∧ RowIs va vc out w' ∧ RK w w') := by
  have hg := h.gd.open Bk
  have hO := own_open h.own (by omega) hB (h.own.ok.open Bk)
  rw [he] at hg hO
  refine hO.mono ?_
  rintro e w' ⟨ho, hk, ⟨h0, _⟩ | ⟨_, lg2, v, hlg, rfl, hl, hr⟩⟩
  · exact absurd rfl h0
  · obtain ⟨h9, hrk⟩ := h.same ho hg hk
    obtain ⟨ra, rc, rfl⟩ := row_shape hr
    exact ⟨lg2, ra, rc, rfl, ⟨h9.wat.cell 0, h9.wat.cell 1⟩, Lib.hid ⟨h9, ⟨_, hr⟩, hrk⟩⟩
theorem Wd.crashed {w0 w : World} {b k mb wa lg n : Nat} {P : PS} {Bk al sl : List ByteArray} {L : LG} {av sv : Value} {safe : Int} {turned : Bool} (h : Wd w0 b k mb wa lg P Bk L n av sv al sl safe turned w) (hn : n ≤ 890000000) :
    Calls Tryz.prog 20 #[.pointer (some ⟨b, 0, none⟩), .slice none 0 0] w fun e w' => e = .returned (.tuple #[]) ∧ Hid (Wd w0 b k mb wa lg (P.crash []) Bk L n av sv al sl safe turned w' ∧ RK w w') := by
  refine (own_crash h.own (by omega) none 0 [] (Or.inl rfl) (fun g off h1 h2 => absurd rfl h1) (by decide)).mono ?_
  rintro e w' ⟨rfl, ho, hk⟩
  exact ⟨rfl, Lib.hid (h.same ho (h.gd.crash []) hk)⟩
theorem Wd.writes {w0 w : World} {b k mb wa lg n : Nat} {P : PS} {Bk al sl : List ByteArray} {L : LG} {av sv : Value} {safe : Int} {turned : Bool} (h : Wd w0 b k mb wa lg P Bk L n av sv al sl safe turned w) :
    Calls Tryz.prog 31 #[.pointer (some ⟨b, 0, none⟩)] w fun e w' => e = .returned (.int .i64 P.count) ∧ w = w' := by
  obtain ⟨S, hp, hR, hf⟩ := h.own.dev
  subst hp
  exact writes_any b S w hR.dev
set_option maxRecDepth 100000 in
set_option maxHeartbeats 4000000 in
theorem walAgain_walk (ad : Option Addr) (cap : Nat) (l : List OpR) (w : World) (hll : l.length ≤ maxLen) (hl : OpsAt w ad l) :
    Calls Tryz.prog 9 #[.slice ad l.length cap] w fun e w' => e = .returned (.bool true) ∧ Below w.heap.size w w' := by
  have HL := Lib.hid hl
  have hmx2 : l.length ≤ 9223372036854775807 := hll
  clear hl hll
  have HLd := Lib.hid (laid_sd w)
  go_enter Tryz.func9, Tryz.ntmps9
  go_wp2_with fail
  refine HLd.out.mono ?_
  rintro e w1 ⟨wa, b, kk, mb, rfl, h1⟩
  have H1 := Lib.hid h1
  clear h1 HLd
  go_wp2_with fail
  go_loopw [4] (fun i wr => ∃ k : Nat, k ≤ 40 ∧ k ≤ l.length ∧ i = .int .i64 k ∧ Hid (Sd w b kk mb wa k wr)) (fun i _ => 40 - (intOf i).toNat)
  case atStart => exact ⟨0, by omega, by omega, rfl, H1⟩
  case round =>
    obtain ⟨k, hk20, hkl, rfl, HR⟩ := hrel
    by_cases hlt : k < l.length ∧ k < 40
    · obtain ⟨g1, g2⟩ := hlt
      have g1i : (k : Int) < (l.length : Int) := by omega
      have g2i : (k : Int) < 40 := by omega
      have hbel : Below w.heap.size w wr := by
        obtain ⟨lg, P, Bk, L, n, av, sv, al, sl, safe, turned, h, _⟩ := HR.out
        exact h.own.bel
      rcases HL.out with h0 | ⟨gb, off, rfl, hgl, hc⟩
      · rw [h0] at g1; simp at g1
      · obtain ⟨c0, c1, c2, ⟨sa, sc, c3, s4, s5⟩, ⟨fa, fc, c4, s7, s8⟩, s9, s10⟩ := hc k g1
        have HSt := Lib.hid (step_any HR.out (by omega) l[k].kind l[k].n l[k].text sa l[k].snap sc fa l[k].fates fc s4 s5 s7 s8 s10)
        generalize l[k] = x at c0 c1 c2 c3 c4 HSt
        have e : ∀ i, wr.cell? ⟨gb, i, none⟩ = w.cell? ⟨gb, i, none⟩ := fun i => hbel.cell (p := ⟨gb, i, none⟩) hgl
        rw [← e] at c0 c1 c2 c3 c4
        clear e s4 s5 s7 s8 s9 s10 hc hbel
        go_wp2_with fail
        refine HSt.out.mono ?_
        rintro e w3 ⟨r, rfl, h3⟩
        have H3 := Lib.hid h3
        clear h3 HSt c0 c1 c2 c3 c4
        go_wp2_with fail
        go_roundw
        case rel => exact ⟨k + 1, by omega, by omega, by go_num, H3⟩
        case measure => simp [intOf]; omega
    · have hcs : ¬ k < l.length ∨ (k < l.length ∧ ¬ k < 40) := by omega
      clear hlt
      go_upto_region 5 with (fail)
      go_cut [26] (fun v wx => v = .bool false ∧ wr = wx)
      case first =>
        rcases hcs with h | ⟨h, h'⟩
        · have hi : ¬ ((k : Int) < (l.length : Int)) := by omega
          go_wp2_with fail
          go_meet
          exact ⟨rfl, rfl⟩
        · have hi : (k : Int) < (l.length : Int) := by omega
          have hi2 : ¬ ((k : Int) < 40) := by omega
          go_wp2_with fail
          go_meet
          exact ⟨rfl, rfl⟩
      case rest =>
        obtain ⟨rfl, rfl⟩ := hcut
        clear hcs
        obtain ⟨lg, P, Bk, L, n, av, sv, al, sl, safe, turned, h1, h2, h3, h4, h5, hag⟩ := HR.out
        have hnb : n ≤ 200000000 := by omega
        have hbb : Bk.length ≤ 1000 := by omega
        obtain ⟨P', L', out, e1, e2, e3⟩ := again_pl hag h1.gd h1.own.ok
        have hol : out.length ≤ 2097152 := by
          have := (wopen_out (h1.own.ok.crash []) Bk).1
          rw [e1] at this
          exact this
        have HCr := Lib.hid (h1.crashed (by omega))
        have d0 : wr.cell? ⟨wa, 0, none⟩ = some (.pointer (some ⟨b, 0, none⟩)) := h1.wat.cell 0
        have HE := Lib.hid (And.intro e1 (And.intro e2 e3))
        generalize hP1 : P.crash [] = P1 at HCr HE
        clear hP1 e1 e2 e3 h1 h2 h3 h4 h5 hag HR
        -- the first crash
        go_wp2_with fail
        refine HCr.out.mono ?_
        rintro e w5 ⟨rfl, h5⟩
        clear d0 HCr
        have d0 : w5.cell? ⟨wa, 0, none⟩ = some (.pointer (some ⟨b, 0, none⟩)) := h5.out.1.wat.cell 0
        have d1 : w5.cell? ⟨wa, 1, none⟩ = some (.pointer (some ⟨kk, 0, none⟩)) := h5.out.1.wat.cell 1
        have hA : Hid (Below w5.heap.size w5 w5.drew) := Lib.hid (Below.refl _ w5).drew
        have HOp := Lib.hid (fun (W : World) (hb : Hid (Below w5.heap.size w5 W)) => (h5.out.1.below hb.out).opened (by omega) (by omega) HE.out.1)
        clear h5
        go_upto_region 9 with (fail)
        go_region_held3 (fun w' => w'.cell? ⟨wa, 0, none⟩ = some (.pointer (some ⟨b, 0, none⟩)) ∧ w'.cell? ⟨wa, 1, none⟩ = some (.pointer (some ⟨kk, 0, none⟩)))
          (first | exact hc7 | go_keep)
          ((go_at_call 15; refine (HOp.out _ (by assumption)).mono ?_; rintro e w7 ⟨lg2, va, vc, rfl, hc7, h7⟩))
        clear HOp hA d0 d1 hc7
        have d0 : w7.cell? ⟨wa, 0, none⟩ = some (.pointer (some ⟨b, 0, none⟩)) := h7.out.1.wat.cell 0
        have d1 : w7.cell? ⟨wa, 1, none⟩ = some (.pointer (some ⟨kk, 0, none⟩)) := h7.out.1.wat.cell 1
        have HWr := Lib.hid h7.out.1.writes
        have hA : Hid (Below w7.heap.size w7 w7.drew) := Lib.hid (Below.refl _ w7).drew
        have HOp := Lib.hid (fun (W : World) (hb : Hid (Below w7.heap.size w7 W)) => (show Calls Tryz.prog 15 #[.pointer (some ⟨b, 0, none⟩), .pointer (some ⟨kk, 0, none⟩)] W fun e w' => ∃ lg2 vb vd, e = .returned (.tuple #[.pointer (some ⟨lg2, 0, none⟩), .slice vb out.length vd, .int .i64 0]) ∧ (w'.cell? ⟨wa, 0, none⟩ = some (.pointer (some ⟨b, 0, none⟩)) ∧ w'.cell? ⟨wa, 1, none⟩ = some (.pointer (some ⟨kk, 0, none⟩))) ∧ Hid (Wd w b kk mb wa lg P' Bk L (n + 2097152 + 2097152) av sv al sl safe turned w' ∧ RowIs vb vd out w' ∧ RowIs va vc out w') from by
          refine ((h7.out.1.below hb.out).opened (by omega) (by omega) HE.out.2.1).mono ?_
          rintro e w' ⟨lg2, vb, vd, rfl, hc, hh⟩
          exact ⟨lg2, vb, vd, rfl, hc, Lib.hid ⟨hh.out.1, hh.out.2.1, (h7.out.2.1.below hb.out).keep hh.out.2.2⟩⟩))
        clear h7
        go_wp2_with fail
        refine HWr.out.mono ?_
        rintro e w8 ⟨rfl, rfl⟩
        go_upto_region 11 with (fail)
        go_region_held3 (fun w' => w'.cell? ⟨wa, 0, none⟩ = some (.pointer (some ⟨b, 0, none⟩)) ∧ w'.cell? ⟨wa, 1, none⟩ = some (.pointer (some ⟨kk, 0, none⟩)))
          (first | exact hc8 | go_keep)
          ((go_at_call 15; refine (HOp.out _ (by assumption)).mono ?_; rintro e w8 ⟨lg3, vb, vd, rfl, hc8, h8⟩))
        clear HOp hA d0 d1 hc8 HWr
        have d0 : w8.cell? ⟨wa, 0, none⟩ = some (.pointer (some ⟨b, 0, none⟩)) := h8.out.1.wat.cell 0
        have HWr := Lib.hid h8.out.1.writes
        have HCr := Lib.hid ((h8.out.1.crashed (by omega)).mono (fun e w' hh => (show e = .returned (.tuple #[]) ∧ Hid (Wd w b kk mb wa lg (P'.crash []) Bk L (n + 2097152 + 2097152) av sv al sl safe turned w' ∧ RowIs vb vd out w' ∧ RowIs va vc out w') from ⟨hh.1, Lib.hid ⟨hh.2.out.1, h8.out.2.1.keep hh.2.out.2, h8.out.2.2.keep hh.2.out.2⟩⟩)))
        clear h8
        go_wp2_with fail
        refine HWr.out.mono ?_
        rintro e w9 ⟨rfl, rfl⟩
        go_wp2_with fail
        refine HCr.out.mono ?_
        rintro e w9 ⟨rfl, h9⟩
        clear d0 HCr HWr
        have d0 : w9.cell? ⟨wa, 0, none⟩ = some (.pointer (some ⟨b, 0, none⟩)) := h9.out.1.wat.cell 0
        have d1 : w9.cell? ⟨wa, 1, none⟩ = some (.pointer (some ⟨kk, 0, none⟩)) := h9.out.1.wat.cell 1
        have hA : Hid (Below w9.heap.size w9 w9.drew) := Lib.hid (Below.refl _ w9).drew
        have HOp := Lib.hid (fun (W : World) (hb : Hid (Below w9.heap.size w9 W)) => (show Calls Tryz.prog 15 #[.pointer (some ⟨b, 0, none⟩), .pointer (some ⟨kk, 0, none⟩)] W fun e w' => ∃ lg2 vf vg, e = .returned (.tuple #[.pointer (some ⟨lg2, 0, none⟩), .slice vf out.length vg, .int .i64 0]) ∧ (w'.cell? ⟨wa, 0, none⟩ = some (.pointer (some ⟨b, 0, none⟩)) ∧ w'.cell? ⟨wa, 1, none⟩ = some (.pointer (some ⟨kk, 0, none⟩))) ∧ Hid (Below w.heap.size w w' ∧ RowIs vf vg out w' ∧ RowIs vb vd out w' ∧ RowIs va vc out w') from by
          refine ((h9.out.1.below hb.out).opened (by omega) (by omega) HE.out.2.2).mono ?_
          rintro e w' ⟨lg2, vf, vg, rfl, hc, hh⟩
          exact ⟨lg2, vf, vg, rfl, hc, Lib.hid ⟨hh.out.1.own.bel, hh.out.2.1, (h9.out.2.1.below hb.out).keep hh.out.2.2, (h9.out.2.2.below hb.out).keep hh.out.2.2⟩⟩))
        clear h9
        go_upto_region 14 with (fail)
        go_region_held3 (fun w' => w'.cell? ⟨wa, 0, none⟩ = some (.pointer (some ⟨b, 0, none⟩)) ∧ w'.cell? ⟨wa, 1, none⟩ = some (.pointer (some ⟨kk, 0, none⟩)))
          (first | exact hc10 | go_keep)
          ((go_at_call 15; refine (HOp.out _ (by assumption)).mono ?_; rintro e w10 ⟨lg4, vf, vg, rfl, hc10, h10⟩))
        clear HOp hA d0 d1 hc10 HE
        have hsm : sameB out out = true := by
          unfold sameB
          exact decide_eq_true rfl
        have HS1 := Lib.hid (show ∀ q, Calls Tryz.prog 22 #[.slice va out.length vc, .slice vb out.length vd] (w10.drewN q) fun e w' => e = .returned (.bool true) ∧ ∃ q, w' = w10.drewN q from fun q => by
          have hb := below_drewN (Below.refl w10.heap.size w10) q
          refine (same_q va vc out vb vd out _ (h10.out.2.2.2.below hb).strs (h10.out.2.2.1.below hb).strs (by omega)).mono ?_
          rintro e w' ⟨rfl, m, rfl⟩
          exact ⟨by rw [hsm], more_q ⟨q, rfl⟩ m⟩)
        have HS2 := Lib.hid (show ∀ q, Calls Tryz.prog 22 #[.slice va out.length vc, .slice vf out.length vg] (w10.drewN q) fun e w' => e = .returned (.bool true) ∧ ∃ q, w' = w10.drewN q from fun q => by
          have hb := below_drewN (Below.refl w10.heap.size w10) q
          refine (same_q va vc out vf vg out _ (h10.out.2.2.2.below hb).strs (h10.out.2.1.below hb).strs (by omega)).mono ?_
          rintro e w' ⟨rfl, m, rfl⟩
          exact ⟨by rw [hsm], more_q ⟨q, rfl⟩ m⟩)
        have HAw := Lib.hid (fun q => (wawake_any (w10.drewN q)).mono (fun e w' (h : e = .returned (.bool true) ∧ Below (w10.drewN q).heap.size (w10.drewN q) w') => (show e = .returned (.bool true) ∧ Below w.heap.size w w' from ⟨h.1, below_step h10.out.1 (below_step (below_drewN (Below.refl w10.heap.size w10) q) h.2)⟩)))
        clear h10 hsm
        generalize P'.count = N
        generalize out.length = M at HS1 HS2
        go_wp2_with fail
        refine (HS1.out 0).mono ?_
        rintro e w11 ⟨rfl, q, rfl⟩
        go_wp2_with fail
        refine (HS2.out q).mono ?_
        rintro e w11 ⟨rfl, q2, rfl⟩
        go_wp2_with fail
        refine (HAw.out q2).mono ?_
        rintro e w11 ⟨rfl, hb⟩
        go_wp2_with fail
        go_ret
        exact ⟨rfl, hb⟩
end Go.Proofs.YtkllnihhhgaojaaGreatDoor
