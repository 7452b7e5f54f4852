/- The walk of WalFormats. Conditions: sizes. -/
import Derived.Test.YtkllnihhhgaojaaGreatDoorWalStep
import Derived.Test.YtkllnihhhgaojaaGreatDoorRows
import Derived.ChangeSame
import Derived.Deep.Slices
import Derived.Deep.Fields
import Derived.ProofKit
import Derived.SliceStrings
namespace Go.Proofs.YtkllnihhhgaojaaGreatDoor
open Go Go.RowKit Go.ChangeShapes Go.WideShapes Go.Deep
set_option linter.unusedVariables false

theorem list_of_all {α : Type} (p : Nat → α → Prop) (n : Nat) (h : ∀ i, i < n → ∃ x, p i x) : ∃ L : List α, L.length = n ∧ ∀ i (hi : i < L.length), p i L[i] := by
  induction n with
  | zero => exact ⟨[], rfl, fun i hi => absurd hi (by simp)⟩
  | succ n ih =>
    obtain ⟨L, hl, hL⟩ := ih (fun i hi => h i (by omega))
    obtain ⟨x, hx⟩ := h n (by omega)
    refine ⟨L ++ [x], by simp [hl], fun i hi => ?_⟩
    by_cases hin : i < L.length
    · rw [List.getElem_append_left hin]; exact hL i hin
    · have : i = L.length := by simp at hi; omega
      subst this
      rw [List.getElem_append_right (Nat.le_refl _)]
      simp
      rw [hl]; exact hx

section
variable {H : Type} {enc : TypeId × Value → H} {P : Program} {w : World} {base : Nat} {spare : Nat → Bool} {held : Bool}
theorem open_slice_fields {t e : TypeId} {fs : Array Field} {fuel : Nat} {cs : List Value} {x : DataW H × List MemPlace} (ht : P.underlying t = some (.slice e)) (he : P.underlying e = some (.struct fs))
    (hone : oneCellFields P fs = true) (hC : P.cellsOf e = fs.size) (h : DataW.trod enc P w base spare held fuel t cs = some x) :
    ∃ (ad : Option Addr) (len cap : Nat), cs = [.slice ad len cap] ∧ len ≤ cap ∧ cap ≤ maxLen ∧ (ad = none → len = 0) ∧
      ∀ i, i < len → ∃ a, ad = some a ∧ ∀ (j : Nat) (f : Field), fs[j]? = some f → ∃ (v : Value) (y : DataW H × List MemPlace) (n : Nat), w.cell? (a.add (i * fs.size + j)) = some v ∧ DataW.trod enc P w base spare held n f.type [v] = some y := by
  rcases open_slice ht h with ⟨h0, _⟩ | ⟨a, len, cap, m, n, D, Pl, hcs, hb, hl, hm, hmm, hx, hi⟩
  · exact ⟨none, 0, 0, h0, Nat.le_refl _, Nat.zero_le _, fun _ => rfl, fun i hi => absurd hi (by omega)⟩
  · refine ⟨some a, len, cap, hcs, hl, hm, fun h => by (cases h), fun i hil => ⟨a, rfl, fun j f hj => ?_⟩⟩
    have him : i < m := by rw [hmm]; split <;> omega
    obtain ⟨cs', hc, ht'⟩ := hi i him
    rw [hC] at hc
    obtain ⟨ys, n', hn', hy, hlen, hyl, hf⟩ := DataW.trod_struct he ht'
    obtain ⟨_, hcl, hat⟩ := World.cells?_some hc
    obtain ⟨ho, hk⟩ := hone_of hone j f hj
    have hjl : j < fs.size := (Array.getElem?_eq_some_iff.1 hj).1
    have hcell := hat j hjl
    have hv : cs'[j]? = some (cs'[j]'(by omega)) := List.getElem?_eq_getElem (by omega)
    have h1 := hf j f hj
    rw [ho, hk] at h1
    have hone' : (cs'.drop j).take 1 = [cs'[j]'(by omega)] := by
      rw [List.drop_eq_getElem_cons (by omega)]
      rfl
    rw [hone'] at h1
    have hys : ys[j]? = some (ys[j]'(by omega)) := List.getElem?_eq_getElem (by omega)
    refine ⟨_, _, n', ?_, h1.trans hys⟩
    rw [← Go.Deep.add_add, hcell, hv]
end
theorem addr_none {w : World} {a : Addr} {v : Value} (h : w.cell? a = some v) : ∃ b off, a = ⟨b, off, none⟩ ∧ b < w.heap.size ∧ ∀ j, a.add j = ⟨b, off + j, none⟩ := by
  have hlt := World.block_lt_of_cell? w _ h
  obtain ⟨b, off, spot⟩ := a
  have hspot : spot = none := by simpa using World.cell?_spot h
  subst hspot
  refine ⟨b, off, rfl, hlt, fun j => ?_⟩
  unfold Addr.add
  split
  · subst j; rfl
  · rfl
/-- the fields of each element, the slice's place told by block and offset -/
theorem open_fields_at {H : Type} {enc : TypeId × Value → H} {P : Program} {w : World} {base : Nat} {spare : Nat → Bool} {held : Bool}
    {t e : TypeId} {fs : Array Field} {fuel : Nat} {cs : List Value} {x : DataW H × List MemPlace} (ht : P.underlying t = some (.slice e)) (he : P.underlying e = some (.struct fs))
    (hone : oneCellFields P fs = true) (hC : P.cellsOf e = fs.size) (hpos : 0 < fs.size) (h : DataW.trod enc P w base spare held fuel t cs = some x) :
    ∃ (ad : Option Addr) (len cap : Nat), cs = [.slice ad len cap] ∧ len ≤ cap ∧ cap ≤ maxLen ∧ (ad = none → len = 0) ∧
      (0 < len → ∃ b off, ad = some ⟨b, off, none⟩ ∧ b < w.heap.size ∧ ∀ i, i < len → ∀ (j : Nat) (f : Field), fs[j]? = some f → ∃ (v : Value) (y : DataW H × List MemPlace) (n : Nat), w.cell? ⟨b, off + (i * fs.size + j), none⟩ = some v ∧ DataW.trod enc P w base spare held n f.type [v] = some y) := by
  obtain ⟨ad, len, cap, rfl, hl, hm, hnil, hall⟩ := open_slice_fields ht he hone hC h
  refine ⟨ad, len, cap, rfl, hl, hm, hnil, fun h0 => ?_⟩
  obtain ⟨a, rfl, hf⟩ := hall 0 h0
  obtain ⟨v0, y0, n0, c0, t0⟩ := hf 0 (fs[0]'hpos) (Array.getElem?_eq_getElem hpos)
  have c0' : w.cell? a = some v0 := by
    have e : a.add (0 * fs.size + 0) = a := by simp [Addr.add]
    rw [← e]; exact c0
  obtain ⟨b, off, rfl, hb, hadd⟩ := addr_none c0'
  refine ⟨b, off, rfl, hb, fun i hi j f hj => ?_⟩
  obtain ⟨a', ha', hf'⟩ := hall i hi
  cases ha'
  obtain ⟨v, y, n, c, t⟩ := hf' j f hj
  rw [hadd] at c
  exact ⟨v, y, n, c, t⟩


structure OpR where
  kind : Int
  n : Int
  text : ByteArray
  snap : List ByteArray
  fates : List Int
/-- the i-th call lies at o -/
def OpAt (w : World) (b o : Nat) (x : OpR) : Prop :=
  w.cell? ⟨b, o, none⟩ = some (.int .i64 x.kind) ∧ w.cell? ⟨b, o + 1, none⟩ = some (.int .i64 x.n) ∧ w.cell? ⟨b, o + 2, none⟩ = some (.string x.text) ∧
  (∃ sa sc, w.cell? ⟨b, o + 3, none⟩ = some (.slice sa x.snap.length sc) ∧ StrsAt w sa x.snap ∧ x.snap.length ≤ maxLen) ∧
  (∃ fa fc, w.cell? ⟨b, o + 4, none⟩ = some (.slice fa x.fates.length fc) ∧ IntsAt .i64 w fa x.fates ∧ x.fates.length ≤ maxLen) ∧
  (Lit.int .i64 x.kind).wf = true ∧ (Lit.int .i64 x.n).wf = true
def OpsAt (w : World) (ad : Option Addr) (L : List OpR) : Prop := L = [] ∨ ∃ b off, ad = some ⟨b, off, none⟩ ∧ b < w.heap.size ∧ ∀ i (hi : i < L.length), OpAt w b (off + i * 5) L[i]
theorem open_ops {H : Type} {enc : TypeId × Value → H} {w : World} {base : Nat} {held : Bool} {fuel : Nat} {cs : List Value} {x : DataW H × List MemPlace} (h : DataW.trod enc Tryz.prog w base (fun _ => true) held fuel 48 cs = some x) :
    ∃ (ad : Option Addr) (cap : Nat) (L : List OpR), cs = [.slice ad L.length cap] ∧ L.length ≤ cap ∧ cap ≤ maxLen ∧ OpsAt w ad L := by
  obtain ⟨ad, len, cap, rfl, hl, hm, hnil, hall⟩ := open_fields_at Tryz.underlying48 Tryz.underlying52 (by kernel_rfl) (by kernel_rfl) (by decide) h
  by_cases h0 : len = 0
  · subst h0; exact ⟨ad, cap, [], rfl, Nat.zero_le _, hm, Or.inl rfl⟩
  · obtain ⟨b, off, rfl, hb, hf⟩ := hall (by omega)
    obtain ⟨L, hL, hp⟩ := list_of_all (fun i (x : OpR) => OpAt w b (off + i * 5) x) len (by
      intro i hi
      obtain ⟨v0, y0, n0, c0, t0⟩ := hf i hi 0 _ rfl
      obtain ⟨v1, y1, n1, c1, t1⟩ := hf i hi 1 _ rfl
      obtain ⟨v2, y2, n2, c2, t2⟩ := hf i hi 2 _ rfl
      obtain ⟨v3, y3, n3, c3, t3⟩ := hf i hi 3 _ rfl
      obtain ⟨v4, y4, n4, c4, t4⟩ := hf i hi 4 _ rfl
      obtain ⟨z0, e0, _, w0⟩ := DataW.trod_int Tryz.underlying3 t0
      obtain ⟨z1, e1, _, w1⟩ := DataW.trod_int Tryz.underlying3 t1
      obtain ⟨z2, e2, _, w2⟩ := DataW.trod_string Tryz.underlying9 t2
      obtain ⟨sa, sl, sc, st, e3, i3, l3, m3⟩ : ∃ sa sl sc, ∃ st : List ByteArray, v3 = .slice sa sl sc ∧ StrsAt w sa st ∧ st.length = sl ∧ sl ≤ maxLen := by
        rcases open_strings Tryz.underlying22 Tryz.underlying9 (by kernel_rfl) t3 with ⟨hcs, _⟩ | ⟨x, l, c, zs, hcs, _, hl, hm, hz, _, hcell, hwz⟩
        · simp at hcs
          exact ⟨none, 0, 0, [], hcs, Or.inl rfl, rfl, Nat.zero_le _⟩
        · simp at hcs
          have hq := isStrs_at (w := w) (a := some x) (len := l) (cap := c) (zs := zs) (Or.inr ⟨x, rfl, hl, hm, by simpa using hz, hcell, hwz⟩)
          exact ⟨some x, l, c, zs.take l, hcs, hq.1, hq.2.1, hq.2.2.2.1⟩
      obtain ⟨fa, fl, fc, ft, e4, i4, l4, m4⟩ : ∃ fa fl fc, ∃ ft : List Int, v4 = .slice fa fl fc ∧ IntsAt .i64 w fa ft ∧ ft.length = fl ∧ fl ≤ maxLen := by
        rcases open_ints Tryz.underlying50 Tryz.underlying3 (by kernel_rfl) t4 with ⟨hcs, _⟩ | ⟨x, l, c, zs, hcs, _, hl, hm, hz, _, hcell, hwz⟩
        · simp at hcs
          exact ⟨none, 0, 0, [], hcs, Or.inl rfl, rfl, Nat.zero_le _⟩
        · simp at hcs
          have hq := isInts_at (k := .i64) (w := w) (a := some x) (len := l) (cap := c) (zs := zs) (Or.inr ⟨x, rfl, hl, hm, by simpa using hz, hcell, hwz⟩)
          exact ⟨some x, l, c, zs.take l, hcs, hq.1, hq.2.1, hq.2.2.2.1⟩
      simp at e0 e1 e2
      subst e0 e1 e2 e3 e4
      subst l3
      subst l4
      exact ⟨⟨z0, z1, z2, st, ft⟩, c0, c1, c2, ⟨sa, sc, c3, i3, m3⟩, ⟨fa, fc, c4, i4, m4⟩, w0, w1⟩)
    exact ⟨_, cap, L, by rw [hL], by omega, hm, Or.inr ⟨b, off, rfl, hb, hp⟩⟩
theorem step_any {w0 w : World} {b k mb wa j : Nat} (h : Sd w0 b k mb wa j w) (hj : j ≤ 99) (kind nn : Int) (text : ByteArray) (sa : Option Addr) (ss : List ByteArray) (sc : Nat) (fa : Option Addr) (l : List Int) (fc : Nat) (hss : StrsAt w0 sa ss) (hsm : ss.length ≤ maxLen) (hfa : IntsAt .i64 w0 fa l) (hll : l.length ≤ maxLen) (hnn : (Lit.int .i64 nn).wf = true) :
    Calls Tryz.prog 25 #[.pointer (some ⟨wa, 0, none⟩), .agg #[.int .i64 kind, .int .i64 nn, .string text, .slice sa ss.length sc, .slice fa l.length fc]] w fun e w' => ∃ r, e = .returned (.bool r) ∧ Sd w0 b k mb wa (j + 1) w' := by
  have hb := int_bounds hnn
  by_cases h0 : kind = 0
  · subst h0; exact step_zero h hj nn text sa _ sc fa _ fc
  by_cases h1 : kind = 1
  · subst h1; exact step_one h hj nn text sa _ sc fa _ fc
  by_cases h2 : kind = 2
  · subst h2; exact step_two h hj nn text sa ss sc fa _ fc hss hsm
  by_cases h3 : kind = 3
  · subst h3
    exact step_three h hj nn text sa _ sc fa l fc hfa (fun g off hl e => by
      rcases hfa with h | ⟨b', off', e2, hlt, _⟩
      · exact absurd h hl
      · rw [e] at e2
        injection e2 with e2
        injection e2 with e2 _ _
        rw [e2]
        exact hlt) hll
  exact step_else h hj kind nn text sa _ sc fa _ fc h0 h1 h2 h3 (by omega)
theorem opAt_below {w w' : World} {b o : Nat} {x : OpR} (h : OpAt w b o x) (hb : b < w.heap.size) (hB : Below w.heap.size w w') : OpAt w' b o x := by
  obtain ⟨h0, h1, h2, ⟨sa, sc, h3, h4, h5⟩, ⟨fa, fc, h6, h7, h8⟩, h9⟩ := h
  have e : ∀ j, w'.cell? ⟨b, j, none⟩ = w.cell? ⟨b, j, none⟩ := fun j => hB.cell (p := ⟨b, j, none⟩) hb
  exact ⟨by rw [e]; exact h0, by rw [e]; exact h1, by rw [e]; exact h2, ⟨sa, sc, by rw [e]; exact h3, strsAt_below h4 hB, h5⟩, ⟨fa, fc, by rw [e]; exact h6, intsAt_below h7 hB, h8⟩, h9⟩
end Go.Proofs.YtkllnihhhgaojaaGreatDoor
namespace Go.Proofs.YtkllnihhhgaojaaGreatDoor
open Go Go.RowKit
set_option linter.unusedVariables false

theorem wgo_inv {n m : Nat} {c : UInt8} {r : List UInt8} (h : wgo n (c :: r) = some m) : ∃ d, d ≤ 9 ∧ c = UInt8.ofNat (48 + d) ∧ wgo (10 * n + d) r = some m := by
  have h1 : (if c.toNat < 48 ∨ 57 < c.toNat then none else wgo (10 * n + (c.toNat - 48)) r) = some m := h
  by_cases hc : c.toNat < 48 ∨ 57 < c.toNat
  · rw [if_pos hc] at h1; cases h1
  · rw [if_neg hc] at h1
    refine ⟨c.toNat - 48, by omega, ?_, h1⟩
    have e : 48 + (c.toNat - 48) = c.toNat := by omega
    rw [e, UInt8.ofNat_toNat]
theorem wnum_inv {s : ByteArray} {n : Nat} (h : wnum s = some n) : s = wname n := by
  unfold wnum at h
  by_cases hc : s.data.toList.length = 12 ∧ s.data.toList.take 4 = segL
  · rw [if_pos hc] at h
    obtain ⟨h1, h2⟩ := hc
    have hl : s.data.toList = segL ++ s.data.toList.drop 4 := by rw [← h2, List.take_append_drop]
    have h8 : (s.data.toList.drop 4).length = 8 := by rw [List.length_drop, h1]
    generalize s.data.toList.drop 4 = r at hl h8 h
    match r, h8 with
    | [b0, b1, b2, b3, b4, b5, b6, b7], _ =>
      obtain ⟨d0, q0, t0, g0⟩ := wgo_inv h
      obtain ⟨d1, q1, t1, g1⟩ := wgo_inv g0
      obtain ⟨d2, q2, t2, g2⟩ := wgo_inv g1
      obtain ⟨d3, q3, t3, g3⟩ := wgo_inv g2
      obtain ⟨d4, q4, t4, g4⟩ := wgo_inv g3
      obtain ⟨d5, q5, t5, g5⟩ := wgo_inv g4
      obtain ⟨d6, q6, t6, g6⟩ := wgo_inv g5
      obtain ⟨d7, q7, t7, g7⟩ := wgo_inv g6
      have hn : 10 * (10 * (10 * (10 * (10 * (10 * (10 * (10 * 0 + d0) + d1) + d2) + d3) + d4) + d5) + d6) + d7 = n := by injection g7
      have e : digL n = [UInt8.ofNat (48 + d0), UInt8.ofNat (48 + d1), UInt8.ofNat (48 + d2), UInt8.ofNat (48 + d3), UInt8.ofNat (48 + d4), UInt8.ofNat (48 + d5), UInt8.ofNat (48 + d6), UInt8.ofNat (48 + d7)] := by
        unfold digL
        rw [show n / 10000000 % 10 = d0 by omega, show n / 1000000 % 10 = d1 by omega, show n / 100000 % 10 = d2 by omega, show n / 10000 % 10 = d3 by omega, show n / 1000 % 10 = d4 by omega, show n / 100 % 10 = d5 by omega, show n / 10 % 10 = d6 by omega, show n % 10 = d7 by omega]
      have e2 : s = textOf s.data.toList := by
        show s = ByteArray.mk s.data.toList.toArray
        rw [Array.toArray_toList]
      rw [e2, hl, t0, t1, t2, t3, t4, t5, t6, t7]
      show textOf _ = textOf (segL ++ digL n)
      rw [e]
  · rw [if_neg hc] at h; cases h
theorem erase_vw (s : ByteArray) : ∀ (fs : List PF), (fs.map PF.name).Nodup → (match findI fs s with | none => fs | some i => fs.eraseIdx i) = fs.filter fun f => decide (f.name ≠ s)
  | [], _ => rfl
  | f :: fs, h => by
    rw [List.map_cons, List.nodup_cons] at h
    have ih := erase_vw s fs h.2
    unfold findI at ih ⊢
    rw [List.findIdx?_cons]
    by_cases hf : f.name = s
    · rw [decide_eq_true hf]
      have hfil : (f :: fs).filter (fun f => decide (f.name ≠ s)) = fs := by
        rw [List.filter_cons, if_neg (by simp [hf])]
        rw [List.filter_eq_self]
        intro g hg
        refine decide_eq_true (fun e => h.1 ?_)
        rw [hf, ← e]
        exact List.mem_map.2 ⟨g, hg, rfl⟩
      rw [hfil]
      rfl
    · rw [decide_eq_false hf]
      have hfil : (f :: fs).filter (fun f => decide (f.name ≠ s)) = f :: fs.filter (fun f => decide (f.name ≠ s)) := by
        rw [List.filter_cons, if_pos (by simp [hf])]
      rw [hfil, ← ih]
      show (match Option.map (fun i => i + 1) (List.findIdx? (fun f => decide (f.name = s)) fs) with | none => f :: fs | some i => (f :: fs).eraseIdx i) = _
      cases List.findIdx? (fun f => decide (f.name = s)) fs <;> rfl
theorem remove_vw {P : PS} (ho : P.off = false) (hn : (P.files.map PF.name).Nodup) (s : ByteArray) : (P.remove s).2.files = P.files.filter (fun f => decide (f.name ≠ s)) ∧ (P.remove s).2.off = false := by
  have h := erase_vw s P.files hn
  unfold PS.remove
  rw [if_neg (by rw [ho]; decide)]
  cases hf : findI P.files s with
  | none => rw [hf] at h; exact ⟨h, ho⟩
  | some i => rw [hf] at h; exact ⟨h, ho⟩
theorem removeAll_files : ∀ (ns : List Nat) {P : PS}, P.off = false → (P.files.map PF.name).Nodup → (removeAll ns P).files = P.files.filter (fun f => decide (∀ n ∈ ns, f.name ≠ wname n)) ∧ (removeAll ns P).off = false
  | [], P, ho, hn => ⟨by
      show P.files = _
      rw [List.filter_eq_self.2]
      intro f hf
      simp, ho⟩
  | n :: ns, P, ho, hn => by
    obtain ⟨h1, h2⟩ := remove_vw ho hn (wname n)
    have hn2 : ((P.remove (wname n)).2.files.map PF.name).Nodup := by
      rw [h1]
      exact hn.sublist ((List.filter_sublist).map _)
    obtain ⟨h3, h4⟩ := removeAll_files ns h2 hn2
    refine ⟨?_, h4⟩
    show (removeAll ns (P.remove (wname n)).2).files = _
    rw [h3, h1, List.filter_filter]
    apply List.filter_congr
    intro f hf
    rw [Bool.eq_iff_iff]
    simp only [Bool.and_eq_true, decide_eq_true_eq, List.mem_cons, forall_eq_or_imp]
    exact ⟨fun h => ⟨h.2, h.1⟩, fun h => ⟨h.2, h.1⟩⟩
theorem remove_keep (P : PS) (s : ByteArray) : (P.remove s).2.fuse = P.fuse ∧ (P.remove s).2.most = P.most := by
  unfold PS.remove
  split
  · exact ⟨rfl, rfl⟩
  · split <;> exact ⟨rfl, rfl⟩
theorem removeAll_keep : ∀ (ns : List Nat) {P : PS}, Snd P → Snd (removeAll ns P) ∧ (removeAll ns P).fuse = P.fuse ∧ (removeAll ns P).most = P.most
  | [], P, h => ⟨h, rfl, rfl⟩
  | n :: ns, P, h => by
    obtain ⟨h1, h2⟩ := remove_keep P (wname n)
    obtain ⟨k1, k2, k3⟩ := removeAll_keep ns (h.remove (wname n))
    exact ⟨k1, k2.trans h1, k3.trans h2⟩
theorem mem_segsP {P : PS} {f : PF} (hf : f ∈ P.files) {n : Nat} (h : wnum f.name = some n) : n ∈ segsP P := by
  unfold segsP segsL
  rw [List.mem_filterMap]
  exact ⟨f.name, List.mem_reverse.2 (List.mem_map.2 ⟨f, hf, rfl⟩), h⟩
theorem vsum_zero : ∀ (l : List (ByteArray × List UInt8)), (∀ x ∈ l, x.2 = []) → vsum l = 0
  | [], _ => rfl
  | x :: l, h => by
    have e := h x (List.mem_cons.2 (Or.inl rfl))
    rw [vsum_cons, vsum_zero l (fun y hy => h y (List.mem_cons.2 (Or.inr hy))), e]
    rfl
theorem anew {P : PS} {Bk : List ByteArray} (hnd : (P.files.map PF.name).Nodup) (hs : Snd P) (hmost : P.most = 300) (ho : P.off = false) (hf : P.fuse < 0) (hnm : ∀ f ∈ P.files, (∃ n, n < 100000000 ∧ f.name = wname n) ∨ f.seen = []) :
    ∃ P4 B' s m A C, wformat P Bk = ⟨0, P4, B', ⟨1, s.length, m⟩⟩ ∧ At P4 A C 1 s 300 ∧ Chn B' 1 (logRecs [] []) s m ∧ s.length = 37 ∧ B'.length ≤ Bk.length + 1 ∧ (∀ x ∈ A ++ C, wnum x.1 = none) ∧ (∀ f ∈ P.files, wnum f.name = none → ∃ x ∈ A ++ C, x.1 = f.name) := by
  obtain ⟨h1, h2⟩ := removeAll_files (segsP P) ho hnd
  obtain ⟨k1, k2, k3⟩ := removeAll_keep (segsP P) hs
  have hno : ∀ f ∈ (removeAll (segsP P) P).files, f ∈ P.files ∧ wnum f.name = none := by
    intro f hf2
    rw [h1] at hf2
    obtain ⟨hm, hp⟩ := List.mem_filter.1 hf2
    have hp2 := of_decide_eq_true hp
    refine ⟨hm, ?_⟩
    cases hw : wnum f.name with
    | none => rfl
    | some n => exact absurd (wnum_inv hw) (hp2 n (mem_segsP hm hw))
  have hyes : ∀ f ∈ P.files, wnum f.name = none → f ∈ (removeAll (segsP P) P).files := by
    intro f hm hw
    rw [h1]
    refine List.mem_filter.2 ⟨hm, decide_eq_true (fun n hn e => ?_)⟩
    rw [e, wnum_name n (segsL_lt n hn)] at hw
    cases hw
  have hz : vsum (vw (removeAll (segsP P) P)) = 0 := by
    refine vsum_zero _ (fun x hx => ?_)
    unfold vw at hx
    obtain ⟨f, hfm, rfl⟩ := List.mem_map.1 hx
    obtain ⟨q1, q2⟩ := hno f hfm
    rcases hnm f q1 with ⟨n, hn, e⟩ | e
    · rw [e, wnum_name n hn] at q2; cases q2
    · exact e
  have hca : Calm (removeAll (segsP P) P) 300 := ⟨k1, h2, by rw [k2]; exact hf, k3.trans hmost, by rw [hz]; decide⟩
  have hfr : ∀ x ∈ vw (removeAll (segsP P) P), x.1 ≠ wname 1 := by
    intro x hx e
    unfold vw at hx
    obtain ⟨f, hfm, rfl⟩ := List.mem_map.1 hx
    obtain ⟨q1, q2⟩ := hno f hfm
    have e2 : f.name = wname 1 := e
    rw [e2, wnum_name 1 (by omega)] at q2
    cases q2
  have hwf : wformat P Bk = wbegin (removeAll (segsP P) P) Bk 1 [] := by
    unfold wformat
    rw [if_neg (by rw [ho]; decide)]
  obtain ⟨B', hg, hl, ⟨r, P4, s, m, A, C, e, hac, ha, hch, hlen, hw, hls⟩ | ⟨r, _⟩⟩ := hca.begin (n := 1) hfr Bk [] (fun t ht => by cases ht) (by decide)
  · refine ⟨P4, B', s, m, A, C, by rw [hwf, e], ha, hch, hlen, by simpa using hl, ?_, ?_⟩
    · intro x hx
      rw [hac] at hx
      unfold vw at hx
      obtain ⟨f, hfm, rfl⟩ := List.mem_map.1 hx
      exact (hno f hfm).2
    · intro f hm hw2
      rw [hac]
      exact ⟨(f.name, f.seen), List.mem_map.2 ⟨f, hyes f hm hw2, rfl⟩, rfl⟩
  · rw [hz] at r
    have e : secs (recsLen [] + 37) = 1 := rfl
    rw [e] at r
    omega
theorem At.size {P : PS} {A C : List (ByteArray × List UInt8)} {n : Nat} {s : List UInt8} {most : Int} (h : At P A C n s most) : P.size (wname n) = (((s.length : Nat) : Int), 0) := by
  obtain ⟨h1, h2⟩ := h.find
  rw [size_some h.calm.off h1]
  have e : seenI P A.length = (seenAt P A.length).length := by
    unfold seenI seenAt
    cases P.files[A.length]? <;> rfl
  rw [e, h2]
theorem At.read {P : PS} {A C : List (ByteArray × List UInt8)} {n : Nat} {s : List UInt8} {most : Int} (h : At P A C n s most) {p k : Nat} : P.read (wname n) (p : Int) (k : Int) = (textOf ((s.drop p).take k), 0) := by
  obtain ⟨h1, h2⟩ := h.find
  unfold PS.read
  rw [if_neg (by rw [h.calm.off]; decide), h1]
  show (if _ then _ else _) = _
  rw [if_neg (by omega), h2]
  rfl
theorem fm_none : ∀ (l : List (ByteArray × List UInt8)), (∀ x ∈ l, wnum x.1 = none) → (l.map Prod.fst).reverse.filterMap wnum = []
  | [], _ => rfl
  | x :: l, h => by
    rw [List.map_cons, List.reverse_cons, List.filterMap_append, fm_none l (fun y hy => h y (List.mem_cons.2 (Or.inr hy)))]
    show [] ++ List.filterMap wnum [x.1] = []
    have e := h x (List.mem_cons.2 (Or.inl rfl))
    simp [e]
theorem At.segs {P : PS} {A C : List (ByteArray × List UInt8)} {n : Nat} {s : List UInt8} {most : Int} (h : At P A C n s most) (hn : n < 100000000) (hx : ∀ x ∈ A ++ C, wnum x.1 = none) : segsP P = [n] := by
  have e : P.files.map PF.name = (vw P).map Prod.fst := by unfold vw; rw [List.map_map]; rfl
  unfold segsP segsL
  rw [e, h.view, List.map_append, List.map_cons, List.reverse_append, List.reverse_cons, List.filterMap_append, List.filterMap_append, fm_none A (fun x hx2 => hx x (List.mem_append.2 (Or.inl hx2))), fm_none C (fun x hx2 => hx x (List.mem_append.2 (Or.inr hx2)))]
  show [] ++ List.filterMap wnum [wname n] ++ [] = [n]
  simp [wnum_name n hn]
theorem At.open {P : PS} {A C : List (ByteArray × List UInt8)} {n : Nat} {s : List UInt8} {most : Int} (h : At P A C n s most) (hn : n < 100000000) (hx : ∀ x ∈ A ++ C, wnum x.1 = none) {B snap more : List ByteArray} {m : ByteArray} (hc : Chn B n (logRecs snap more) s m) :
    wopen P B = ⟨0, P, ⟨n, s.length, m⟩, snap ++ more⟩ := by
  have hno : ¬ (P.off = true) := by rw [h.calm.off]; decide
  have hld : loadP P B n = some ⟨s.length, m, true, snap ++ more⟩ := by
    unfold loadP
    have hr := h.read (p := 0) (k := s.length)
    have e0 : P.read (wname n) 0 (P.size (wname n)).1 = (textOf s, 0) := by
      rw [h.size]
      show P.read (wname n) ((0 : Nat) : Int) (s.length : Nat) = _
      rw [hr, List.drop_zero, List.take_length]
    rw [e0, h.size, if_neg (fun h => h rfl), if_neg (fun h => h rfl)]
    show some (loadGo B ((textOf s).size + 1) ⟨0, firstM n, false, []⟩ (textOf s).data.toList) = _
    rw [textOf_list, textOf_size]
    have hlen : (logRecs snap more).length < s.length + 1 := by
      have key : ∀ (recs : List ByteArray) (m : ByteArray), recs.length ≤ (chainL B m recs).length := by
        intro recs
        induction recs with
        | nil => exact fun m => Nat.zero_le _
        | cons r rs ih =>
          intro m
          have := ih (markOf B (joinT m r))
          have e1 : (chainL B m (r :: rs)).length = (recL B m r).length + (chainL B (markOf B (joinT m r)) rs).length := List.length_append
          rw [e1, recL_length, List.length_cons]
          omega
      have := key (logRecs snap more) (firstM n)
      rw [← hc.bytes] at this
      omega
    have hg := loadGo_all (B := B) (logRecs snap more) (s.length + 1) 0 (firstM n) false [] [] hc.inB (takes_log snap more) hlen (next_nil B _)
    rw [List.append_nil, ← hc.bytes, ← hc.mark, dec_log] at hg
    rw [hg, Nat.zero_add]
    rfl
  have hwp : wwipe P ⟨n, s.length, m⟩ = (0, P) := by
    unfold wwipe
    have e0 : P.read (wname n) ((s.length : Nat) : Int) ((P.size (wname n)).1 - ((s.length : Nat) : Int)) = (textOf [], 0) := by
      rw [h.size]
      have := h.read (p := s.length) (k := 0)
      rw [List.take_zero] at this
      show P.read (wname n) ((s.length : Nat) : Int) (((s.length : Nat) : Int) - ((s.length : Nat) : Int)) = _
      rw [Int.sub_self]
      exact this
    show (if (P.size (wname n)).2 ≠ 0 then _ else _) = _
    rw [e0, h.size, if_neg (fun h => h rfl), if_neg (fun h => h rfl)]
    exact if_pos rfl
  have hrb : removeBut [n] n P = P := by
    show (if n ≠ n then _ else P) = P
    rw [if_neg (fun h => h rfl)]
  unfold wopen
  rw [if_neg hno, h.segs hn hx, openGo_take hld rfl]
  unfold wtake
  rw [hrb]
  show (if (wwipe P ⟨n, s.length, m⟩).1 ≠ 0 then _ else _) = _
  rw [hwp, if_neg (fun h => h rfl)]
end Go.Proofs.YtkllnihhhgaojaaGreatDoor
namespace Go.Proofs.YtkllnihhhgaojaaGreatDoor
open Go Go.RowKit
set_option linter.unusedVariables false

theorem names_nodup {n : Nat} {P : PS} (h : OkP n P) : (P.files.map PF.name).Nodup := by
  unfold List.Nodup
  rw [List.pairwise_map]
  refine h.names.imp (fun {a b} hab e => ?_)
  rw [e, cmp_self] at hab
  omega
theorem made_pl {P : PS} (h : Gd P) (ho : P.off = false) (s : ByteArray) : Snd (P.create s).2 ∧ (P.create s).2.most = 300 ∧ (P.create s).2.off = false ∧ (P.create s).2.fuse = P.fuse ∧ (∀ f ∈ (P.create s).2.files, (∃ n, n < 100000000 ∧ f.name = wname n) ∨ f.seen = []) ∧ ((P.create s).1 = 0 → ∃ f ∈ (P.create s).2.files, f.name = s) := by
  have hs := h.snd.create s
  have hold : ∀ f ∈ P.files, (∃ n, n < 100000000 ∧ f.name = wname n) ∨ f.seen = [] := fun f hf => Or.inl (h.nms f.name (List.mem_map.2 ⟨f, hf, rfl⟩))
  unfold PS.create at hs ⊢
  rw [if_neg (by rw [ho]; decide)] at hs ⊢
  by_cases h1 : okName s = false
  · rw [if_pos h1]
    exact ⟨h.snd, h.most, ho, rfl, hold, fun e => by cases e⟩
  · rw [if_neg h1] at hs ⊢
    by_cases h2 : (findI P.files s).isSome = true
    · rw [if_pos h2]
      exact ⟨h.snd, h.most, ho, rfl, hold, fun e => by cases e⟩
    · rw [if_neg h2] at hs ⊢
      refine ⟨hs, h.most, ho, rfl, ?_, fun _ => ⟨⟨P.made, s, [], []⟩, List.mem_append.2 (Or.inr (List.mem_cons.2 (Or.inl rfl))), rfl⟩⟩
      intro f hf
      rcases List.mem_append.1 hf with q | q
      · exact hold f (List.mem_of_mem_take q)
      · rcases List.mem_cons.1 q with rfl | q
        · exact Or.inr rfl
        · exact hold f (List.mem_of_mem_drop q)
theorem size_there {P : PS} {A C : List (ByteArray × List UInt8)} {n : Nat} {s : List UInt8} {most : Int} (h : At P A C n s most) {x : ByteArray × List UInt8} (hx : x ∈ A ++ C) : (P.size x.1).2 = 0 := by
  have hm : x ∈ vw P := by
    rw [h.view]
    rcases List.mem_append.1 hx with q | q
    · exact List.mem_append.2 (Or.inl q)
    · exact List.mem_append.2 (Or.inr (List.mem_cons.2 (Or.inr q)))
  unfold vw at hm
  obtain ⟨f, hf, rfl⟩ := List.mem_map.1 hm
  cases hi : findI P.files f.name with
  | none =>
    unfold findI at hi
    rw [List.findIdx?_eq_none_iff] at hi
    have := hi f hf
    simp at this
  | some i => rw [size_some h.calm.off hi]
theorem wname_take (m : Nat) : (wname m).extract 0 4 = ⟨#[115, 101, 103, 45]⟩ := by
  have e : ((wname m).extract 0 4).data.toList = [115, 101, 103, 45] := by
    rw [extract_take]
    have e2 : (wname m).data.toList = segL ++ digL m := by
      show (segL ++ digL m).toArray.toList = _
      simp
    rw [e2]
    rfl
  have : ((wname m).extract 0 4).data = #[115, 101, 103, 45] := Array.ext' e
  exact ByteArray.ext this
/-- what is left of a device made by a log, formatted anew beside a file -/
theorem formats_pl {P : PS} {q : Nat} (h : Gd P) (ho : P.off = false) (hf : P.fuse < 0) (s : ByteArray) (hok : OkP q (P.create s).2) (Bk : List ByteArray) :
    ∃ P4 B' m, wformat (P.create s).2 Bk = ⟨0, P4, B', ⟨1, 37, m⟩⟩ ∧ B'.length ≤ Bk.length + 1 ∧ wopen P4 B' = ⟨0, P4, ⟨1, 37, m⟩, []⟩ ∧ ((P.create s).1 = 0 → (∃ k, s = wname k) ∨ (P4.size s).2 = 0) := by
  obtain ⟨k1, k2, k3, k4, k5, k6⟩ := made_pl h ho s
  obtain ⟨P4, B', t, m, A, C, e, ha, hc, hl, hb, hx, hy⟩ := anew (Bk := Bk) (names_nodup hok) k1 k2 k3 (by rw [k4]; exact hf) k5
  have hop := ha.open (by decide) hx hc
  rw [hl] at e hop
  refine ⟨P4, B', m, e, hb, hop, fun h0 => ?_⟩
  obtain ⟨f, hf2, hfn⟩ := k6 h0
  cases hw : wnum s with
  | some k => exact Or.inl ⟨k, wnum_inv hw⟩
  | none =>
    right
    obtain ⟨x, hxm, hxe⟩ := hy f hf2 (by rw [hfn]; exact hw)
    have := size_there ha hxm
    rw [hxe, hfn] at this
    exact this
theorem gd_new : Gd (newP 300) := ⟨Snd.newP 300, rfl, fun s hs => by cases hs⟩
theorem laid_sd (w : World) : Calls Tryz.prog 10 #[.int .i64 300] w fun e w' => ∃ wa b k mb, e = .returned (.pointer (some ⟨wa, 0, none⟩)) ∧ Sd w b k mb wa 0 w' := by
  obtain ⟨P, B, mk, s, he, hone, hchn, hlen, hBl, _⟩ := laid_one 300 (by decide)
  have hok := wformat_L (newP 300) []
  have hgd : Gd (wformat (newP 300) []).P := by
    have hf : wformat (newP 300) [] = wbegin (newP 300) [] 1 [] := rfl
    rw [hf]
    exact gd_new.begin [] (m := 1) (by decide) []
  refine (laid_any 300 w (by decide)).mono ?_
  rintro e w' ⟨wa, b, k, mb, lg, rfl, ho, hl, hw, h1, h2⟩
  rw [he] at ho hl hok hgd
  exact ⟨wa, b, k, mb, rfl, lg, P, B, _, _, _, _, [], [], _, _, ⟨ho, hl, hok, hw, h1, h2, World.ownsRow_nil _ _ _ _, World.ownsRow_nil _ _ _ _, hgd⟩, by omega, by omega, by decide, by decide⟩
set_option maxRecDepth 100000 in
set_option maxHeartbeats 4000000 in
theorem walFormats_walk (ad : Option Addr) (cap : Nat) (l : List OpR) (name : ByteArray) (w : World) (hll : l.length ≤ maxLen) (hl : OpsAt w ad l) (hns : name.size ≤ maxLen) :
    Calls Tryz.prog 7 #[.slice ad l.length cap, .string name] w fun e w' => e = .returned (.bool true) ∧ Below w.heap.size w w' := by
  have HL := Lib.hid hl
  have hmx2 : l.length ≤ 9223372036854775807 := hll
  have hns2 : name.size ≤ 9223372036854775807 := hns
  clear hl hll hns
  have HLd := Lib.hid (laid_sd w)
  go_enter Tryz.func7, Tryz.ntmps7
  go_wp2_with fail
  refine HLd.out.mono ?_
  rintro e w1 ⟨wa, b, kk, mb, rfl, h1⟩
  have H1 := Lib.hid h1
  clear h1 HLd
  go_wp2_with fail
  go_loopw [6] (fun i wr => ∃ k : Nat, k ≤ 20 ∧ k ≤ l.length ∧ i = .int .i64 k ∧ Hid (Sd w b kk mb wa k wr)) (fun i _ => 20 - (intOf i).toNat)
  case atStart => exact ⟨0, by omega, by omega, rfl, H1⟩
  case round =>
    obtain ⟨k, hk20, hkl, rfl, HR⟩ := hrel
    by_cases hlt : k < l.length ∧ k < 20
    · obtain ⟨g1, g2⟩ := hlt
      have g1i : (k : Int) < (l.length : Int) := by omega
      have g2i : (k : Int) < 20 := by omega
      have hbel : Below w.heap.size w wr := by
        obtain ⟨lg, P, Bk, L, n, av, sv, al, sl, safe, turned, h, _⟩ := HR.out
        exact h.own.bel
      rcases HL.out with h0 | ⟨gb, off, rfl, hgl, hc⟩
      · rw [h0] at g1; simp at g1
      · obtain ⟨c0, c1, c2, ⟨sa, sc, c3, s4, s5⟩, ⟨fa, fc, c4, s7, s8⟩, s9, s10⟩ := hc k g1
        have HSt := Lib.hid (step_any HR.out (by omega) l[k].kind l[k].n l[k].text sa l[k].snap sc fa l[k].fates fc s4 s5 s7 s8 s10)
        generalize l[k] = x at c0 c1 c2 c3 c4 HSt
        have e : ∀ i, wr.cell? ⟨gb, i, none⟩ = w.cell? ⟨gb, i, none⟩ := fun i => hbel.cell (p := ⟨gb, i, none⟩) hgl
        rw [← e] at c0 c1 c2 c3 c4
        clear e s4 s5 s7 s8 s9 s10 hc hbel
        go_wp2_with fail
        refine HSt.out.mono ?_
        rintro e w3 ⟨r, rfl, h3⟩
        have H3 := Lib.hid h3
        clear h3 HSt c0 c1 c2 c3 c4
        go_wp2_with fail
        go_roundw
        case rel => exact ⟨k + 1, by omega, by omega, by go_num, H3⟩
        case measure => simp [intOf]; omega
    · have hcs : ¬ k < l.length ∨ (k < l.length ∧ ¬ k < 20) := by omega
      clear hlt
      go_upto_region 5 with (fail)
      go_cut [26] (fun v wx => v = .bool false ∧ wr = wx)
      case first =>
        rcases hcs with h | ⟨h, h'⟩
        · have hi : ¬ ((k : Int) < (l.length : Int)) := by omega
          go_wp2_with fail
          go_meet
          exact ⟨rfl, rfl⟩
        · have hi : (k : Int) < (l.length : Int) := by omega
          have hi2 : ¬ ((k : Int) < 20) := by omega
          go_wp2_with fail
          go_meet
          exact ⟨rfl, rfl⟩
      case rest =>
        obtain ⟨rfl, rfl⟩ := hcut
        clear hcs
        obtain ⟨lg, P, Bk, L, n, av, sv, al, sl, safe, turned, h1, h2, h3, h4, h5⟩ := HR.out
        have hnb : n ≤ 200000000 := by omega
        have hbb : Bk.length ≤ 1000 := by omega
        have HCr := Lib.hid (show Calls Tryz.prog 20 #[.pointer (some ⟨b, 0, none⟩), .slice none 0 0] wr fun e w' => e = .returned (.tuple #[]) ∧ Hid (Wd w b kk mb wa lg (P.crash []) Bk L n av sv al sl safe turned w') from by
          refine (h1.crash (by omega) none 0 [] (Or.inl rfl) (fun g off h0 _ => absurd rfl h0) (by decide)).mono ?_
          rintro e w' ⟨rfl, h9⟩
          exact ⟨rfl, Lib.hid h9⟩)
        have hok1 := (h1.own.ok.crash []).create name
        have hg1 := h1.gd.crash []
        obtain ⟨P4, B', mk, eF, bF, eO, hsz⟩ := formats_pl hg1 rfl (show (-1 : Int) < 0 by decide) name hok1 Bk
        have d0 : wr.cell? ⟨wa, 0, none⟩ = some (.pointer (some ⟨b, 0, none⟩)) := h1.wat.cell 0
        generalize P.crash [] = P1 at HCr hok1 hg1 eF hsz
        have HCe := Lib.hid (fun (w5 : World) (h : Hid (Wd w b kk mb wa lg P1 Bk L n av sv al sl safe turned w5)) => (show Calls Tryz.prog 28 #[.pointer (some ⟨b, 0, none⟩), .string name] w5 fun e w' => e = .returned (.int .i64 (P1.create name).1) ∧ Hid (Own w.heap.size w b kk mb (P1.create name).2 Bk (n + 1) w' ∧ WAt w' wa b kk lg av safe turned sv) from by
          refine (own_dev (Q := fun e => e = .returned (.int .i64 (P1.create name).1)) h.out.own (fun S hp hR => by
            subst hp
            exact create_any b n S name w5 hR.dev h.out.own.ok (by omega)) hok1).mono ?_
          rintro e w' ⟨rfl, ho, hk⟩
          exact ⟨rfl, Lib.hid ⟨ho, hk.blk h.out.wat (by unfold FarT; decide) (fun h => h)⟩⟩))
        generalize (P1.create name).1 = CE at HCe hsz
        generalize (P1.create name).2 = P2 at HCe hok1 eF
        have HFo := Lib.hid (fun (w6 W : World) (h : Hid (Own w.heap.size w b kk mb P2 Bk (n + 1) w6 ∧ WAt w6 wa b kk lg av safe turned sv)) (hb : Hid (Below w6.heap.size w6 W)) => (show Calls Tryz.prog 29 #[.pointer (some ⟨b, 0, none⟩), .pointer (some ⟨kk, 0, none⟩)] W fun e w' => ∃ lg2, e = .returned (.tuple #[.pointer (some ⟨lg2, 0, none⟩), .int .i64 0]) ∧ (w'.cell? ⟨wa, 0, none⟩ = some (.pointer (some ⟨b, 0, none⟩)) ∧ w'.cell? ⟨wa, 1, none⟩ = some (.pointer (some ⟨kk, 0, none⟩))) ∧ Hid (Own w.heap.size w b kk mb P4 B' (n + 1 + 4194305) w' ∧ WAt w' wa b kk lg av safe turned sv ∧ LogAt w' lg2 b kk ⟨1, 37, mk⟩) from by
          refine (own_format (h.out.1.below hb.out) (by omega) (by omega)).mono ?_
          rw [eF]
          rintro e w' ⟨ho, hk, ⟨h0, _⟩ | ⟨_, lg2, _, rfl, hlg⟩⟩
          · exact absurd rfl h0
          · have hw := hk.blk (Blk.below h.out.2 hb.out) (by unfold FarT; decide) (fun h => h)
            exact ⟨lg2, rfl, ⟨Blk.cell hw 0, Blk.cell hw 1⟩, Lib.hid ⟨ho, hw, hlg⟩⟩))
        have HOp := Lib.hid (fun (lg2 : Nat) (w6 W : World) (h : Hid (Own w.heap.size w b kk mb P4 B' (n + 1 + 4194305) w6 ∧ WAt w6 wa b kk lg av safe turned sv ∧ LogAt w6 lg2 b kk ⟨1, 37, mk⟩)) (hb : Hid (Below w6.heap.size w6 W)) => (show Calls Tryz.prog 15 #[.pointer (some ⟨b, 0, none⟩), .pointer (some ⟨kk, 0, none⟩)] W fun e w' => ∃ lg3 va vc, e = .returned (.tuple #[.pointer (some ⟨lg3, 0, none⟩), .slice va 0 vc, .int .i64 0]) ∧ (w'.cell? ⟨wa, 0, none⟩ = some (.pointer (some ⟨b, 0, none⟩)) ∧ w'.cell? ⟨wa, 1, none⟩ = some (.pointer (some ⟨kk, 0, none⟩))) ∧ Hid ((∃ S, S.pl = P4 ∧ DiskAt w' b S) ∧ OkP (n + 1 + 4194305 + 2097152) P4 ∧ Below w.heap.size w w' ∧ LogAt w' lg2 b kk ⟨1, 37, mk⟩) from by
          have hW := h.out.1.below hb.out
          refine (own_open hW (by omega) (by omega) (hW.ok.open B')).mono ?_
          rw [eO]
          rintro e w' ⟨ho, hk, ⟨h0, _⟩ | ⟨_, lg3, v, _, rfl, _, hr⟩⟩
          · exact absurd rfl h0
          · obtain ⟨va, vc, rfl⟩ := row_shape hr
            have hw := hk.blk (Blk.below h.out.2.1 hb.out) (by unfold FarT; decide) (fun h => h)
            have hl := hk.blk (Blk.below h.out.2.2 hb.out) (by unfold FarT; decide) (fun h => h)
            obtain ⟨S, hp, hR, _⟩ := ho.dev
            exact ⟨lg3, va, vc, rfl, ⟨Blk.cell hw 0, Blk.cell hw 1⟩, Lib.hid ⟨⟨S, hp, hR.dev⟩, ho.ok, ho.bel, hl⟩⟩))
        clear h1 h2 h3 h4 h5 hok1 hg1 eF eO HR
        go_wp2_with fail
        refine HCr.out.mono ?_
        rintro e w5 ⟨rfl, h5⟩
        have d5 : w5.cell? ⟨wa, 0, none⟩ = some (.pointer (some ⟨b, 0, none⟩)) := h5.out.wat.cell 0
        clear d0 HCr
        go_wp2_with fail
        refine (HCe.out _ h5).mono ?_
        rintro e w6 ⟨rfl, h6⟩
        clear d5 HCe h5
        have d0 : w6.cell? ⟨wa, 0, none⟩ = some (.pointer (some ⟨b, 0, none⟩)) := Blk.cell h6.out.2 0
        have d1 : w6.cell? ⟨wa, 1, none⟩ = some (.pointer (some ⟨kk, 0, none⟩)) := Blk.cell h6.out.2 1
        have hA6 : Hid (Below w6.heap.size w6 w6.drew) := Lib.hid (Below.refl _ w6).drew
        have HFo6 := Lib.hid (fun W hb => HFo.out w6 W h6 hb)
        go_upto_region 10 with (fail)
        go_region_held3 (fun w' => w'.cell? ⟨wa, 0, none⟩ = some (.pointer (some ⟨b, 0, none⟩)) ∧ w'.cell? ⟨wa, 1, none⟩ = some (.pointer (some ⟨kk, 0, none⟩)))
          (first | exact hc7 | go_keep)
          ((go_at_call 29; refine (HFo6.out _ (by assumption)).mono ?_; rintro e w7 ⟨lg2, rfl, hc7, h7⟩))
        clear HFo HFo6 hA6 d0 d1 h6
        obtain ⟨d0, d1⟩ := hc7
        have hA7 : Hid (Below w7.heap.size w7 w7.drew) := Lib.hid (Below.refl _ w7).drew
        have HOp7 := Lib.hid (fun W hb => HOp.out lg2 w7 W h7 hb)
        go_upto_region 11 with (fail)
        go_region_held3 (fun w' => w'.cell? ⟨wa, 0, none⟩ = some (.pointer (some ⟨b, 0, none⟩)) ∧ w'.cell? ⟨wa, 1, none⟩ = some (.pointer (some ⟨kk, 0, none⟩)))
          (first | exact hc8 | go_keep)
          ((go_at_call 15; refine (HOp7.out _ (by assumption)).mono ?_; rintro e w8 ⟨lg3, va, vc, rfl, hc8, h8⟩))
        clear HOp HOp7 hA7 d0 d1 h7
        obtain ⟨d0, d1⟩ := hc8
        have HSz := Lib.hid (show Calls Tryz.prog 30 #[.pointer (some ⟨b, 0, none⟩), .string name] w8 fun e w' => e = .returned (.tuple #[.int .i64 (P4.size name).1, .int .i64 (P4.size name).2]) ∧ w8 = w' from by
          obtain ⟨⟨S, hp, hD⟩, hok, _⟩ := h8.out
          subst hp
          obtain ⟨hor, hfl, _⟩ := hok.ready (by omega)
          exact size_any2 b S name w8 hD hor hfl)
        have HSg := Lib.hid (show Calls Tryz.prog 23 #[.pointer (some ⟨lg2, 0, none⟩)] w8 fun e w' => e = .returned (.int .i64 1) ∧ w8 = w' from logSegment_any lg2 b kk _ w8 h8.out.2.2.2)
        have HAw := Lib.hid ((wawake_any w8).mono (fun e w' (h : e = .returned (.bool true) ∧ Below w8.heap.size w8 w') => (show e = .returned (.bool true) ∧ Below w.heap.size w w' from ⟨h.1, below_step h8.out.2.2.1 h.2⟩)))
        generalize (P4.size name).1 = G1 at HSz
        generalize (P4.size name).2 = G at HSz hsz
        have HSZ := Lib.hid hsz
        clear hsz h8
        go_wp2_with fail
        refine HSz.out.mono ?_
        rintro e w9 ⟨rfl, rfl⟩
        clear HSz d0 d1
        go_upto_region 13 with (fail)
        go_cut [15] (fun v wx => ∃ sg, v = .bool sg ∧ Hid ((∃ k, name = wname k) → sg = true) ∧ w8 = wx)
        case first =>
          by_cases hn12 : name.size = 12
          · have hb12 : ((name.size : Int) == 12) = true := by rw [beq_iff_eq]; omega
            have hi4 : (4 : Int) ≤ (name.size : Int) := by omega
            go_wp2_with fail
            go_meet
            exact ⟨_, rfl, Lib.hid (fun ⟨k, e⟩ => by rw [e, wname_take]; simp), rfl⟩
          · have hb12 : ((name.size : Int) == 12) = false := by rw [beq_eq_false_iff_ne]; omega
            go_wp2_with fail
            go_meet
            exact ⟨_, rfl, Lib.hid (fun ⟨k, e⟩ => by rw [e] at hn12; exact absurd (wname_size k) hn12), rfl⟩
        case rest =>
          obtain ⟨sg, rfl, HSG, rfl⟩ := hcut
          have hfin : CE ≠ 0 ∨ (CE = 0 ∧ (sg = true ∨ (sg = false ∧ G = 0))) := by
            by_cases h0 : CE = 0
            · rcases HSZ.out h0 with h | h
              · exact Or.inr ⟨h0, Or.inl (HSG.out h)⟩
              · cases sg
                · exact Or.inr ⟨h0, Or.inr ⟨rfl, h⟩⟩
                · exact Or.inr ⟨h0, Or.inl rfl⟩
            · exact Or.inl h0
          clear HSZ HSG
          rcases hfin with h0 | ⟨rfl, rfl | ⟨rfl, rfl⟩⟩
          · have hb0 : (CE == 0) = false := by simpa using h0
            go_wp2_with fail
            refine HSg.out.mono ?_
            rintro e w9 ⟨rfl, rfl⟩
            go_wp2_with fail
            refine HAw.out.mono ?_
            rintro e w9 ⟨rfl, hb⟩
            go_wp2_with fail
            go_ret
            exact ⟨rfl, hb⟩
          · go_wp2_with fail
            refine HSg.out.mono ?_
            rintro e w9 ⟨rfl, rfl⟩
            go_wp2_with fail
            refine HAw.out.mono ?_
            rintro e w9 ⟨rfl, hb⟩
            go_wp2_with fail
            go_ret
            exact ⟨rfl, hb⟩
          · go_wp2_with fail
            refine HSg.out.mono ?_
            rintro e w9 ⟨rfl, rfl⟩
            go_wp2_with fail
            refine HAw.out.mono ?_
            rintro e w9 ⟨rfl, hb⟩
            go_wp2_with fail
            go_ret
            exact ⟨rfl, hb⟩
end Go.Proofs.YtkllnihhhgaojaaGreatDoor
