/- Arguments that are slices of calls (Op), opened: what the row's frame tells. No condition. -/
import Derived.Test.YtlmodbaeoheiiaaKit
import Derived.Test.YtlmodbaeoheiiaaRows
import Derived.ChangeSame
import Derived.Deep.Slices
import Derived.Deep.Fields
import Derived.ProofKit
namespace Go.Proofs.Ytlmodbaeoheiiaa
open Go.RowKit Go.ChangeShapes Go.WideShapes Go.Deep

theorem list_of_all {α : Type} (p : Nat → α → Prop) (n : Nat) (h : ∀ i, i < n → ∃ x, p i x) : ∃ L : List α, L.length = n ∧ ∀ i (hi : i < L.length), p i L[i] := by
  induction n with
  | zero => exact ⟨[], rfl, fun i hi => absurd hi (by simp)⟩
  | succ n ih =>
    obtain ⟨L, hl, hL⟩ := ih (fun i hi => h i (by omega))
    obtain ⟨x, hx⟩ := h n (by omega)
    refine ⟨L ++ [x], by simp [hl], fun i hi => ?_⟩
    by_cases hin : i < L.length
    · rw [List.getElem_append_left hin]; exact hL i hin
    · have : i = L.length := by simp at hi; omega
      subst this
      rw [List.getElem_append_right (Nat.le_refl _)]
      simp
      rw [hl]; exact hx

section
variable {H : Type} {enc : TypeId × Value → H} {P : Program} {w : World} {base : Nat} {spare : Nat → Bool} {held : Bool}
theorem open_slice_fields {t e : TypeId} {fs : Array Field} {fuel : Nat} {cs : List Value} {x : DataW H × List MemPlace} (ht : P.underlying t = some (.slice e)) (he : P.underlying e = some (.struct fs))
    (hone : oneCellFields P fs = true) (hC : P.cellsOf e = fs.size) (h : DataW.trod enc P w base spare held fuel t cs = some x) :
    ∃ (ad : Option Addr) (len cap : Nat), cs = [.slice ad len cap] ∧ len ≤ cap ∧ cap ≤ maxLen ∧ (ad = none → len = 0) ∧
      ∀ i, i < len → ∃ a, ad = some a ∧ ∀ (j : Nat) (f : Field), fs[j]? = some f → ∃ (v : Value) (y : DataW H × List MemPlace) (n : Nat), w.cell? (a.add (i * fs.size + j)) = some v ∧ DataW.trod enc P w base spare held n f.type [v] = some y := by
  rcases open_slice ht h with ⟨h0, _⟩ | ⟨a, len, cap, m, n, D, Pl, hcs, hb, hl, hm, hmm, hx, hi⟩
  · exact ⟨none, 0, 0, h0, Nat.le_refl _, Nat.zero_le _, fun _ => rfl, fun i hi => absurd hi (by omega)⟩
  · refine ⟨some a, len, cap, hcs, hl, hm, fun h => by (cases h), fun i hil => ⟨a, rfl, fun j f hj => ?_⟩⟩
    have him : i < m := by rw [hmm]; split <;> omega
    obtain ⟨cs', hc, ht'⟩ := hi i him
    rw [hC] at hc
    obtain ⟨ys, n', hn', hy, hlen, hyl, hf⟩ := DataW.trod_struct he ht'
    obtain ⟨_, hcl, hat⟩ := World.cells?_some hc
    obtain ⟨ho, hk⟩ := hone_of hone j f hj
    have hjl : j < fs.size := (Array.getElem?_eq_some_iff.1 hj).1
    have hcell := hat j hjl
    have hv : cs'[j]? = some (cs'[j]'(by omega)) := List.getElem?_eq_getElem (by omega)
    have h1 := hf j f hj
    rw [ho, hk] at h1
    have hone' : (cs'.drop j).take 1 = [cs'[j]'(by omega)] := by
      rw [List.drop_eq_getElem_cons (by omega)]
      rfl
    rw [hone'] at h1
    have hys : ys[j]? = some (ys[j]'(by omega)) := List.getElem?_eq_getElem (by omega)
    refine ⟨_, _, n', ?_, h1.trans hys⟩
    rw [← Go.Deep.add_add, hcell, hv]
end
theorem addr_none {w : World} {a : Addr} {v : Value} (h : w.cell? a = some v) : ∃ b off, a = ⟨b, off, none⟩ ∧ b < w.heap.size ∧ ∀ j, a.add j = ⟨b, off + j, none⟩ := by
  have hlt := World.block_lt_of_cell? w _ h
  obtain ⟨b, off, spot⟩ := a
  have hspot : spot = none := by simpa using World.cell?_spot h
  subst hspot
  refine ⟨b, off, rfl, hlt, fun j => ?_⟩
  unfold Addr.add
  split
  · subst j; rfl
  · rfl
/-- the fields of each element, the slice's place told by block and offset -/
theorem open_fields_at {H : Type} {enc : TypeId × Value → H} {P : Program} {w : World} {base : Nat} {spare : Nat → Bool} {held : Bool}
    {t e : TypeId} {fs : Array Field} {fuel : Nat} {cs : List Value} {x : DataW H × List MemPlace} (ht : P.underlying t = some (.slice e)) (he : P.underlying e = some (.struct fs))
    (hone : oneCellFields P fs = true) (hC : P.cellsOf e = fs.size) (hpos : 0 < fs.size) (h : DataW.trod enc P w base spare held fuel t cs = some x) :
    ∃ (ad : Option Addr) (len cap : Nat), cs = [.slice ad len cap] ∧ len ≤ cap ∧ cap ≤ maxLen ∧ (ad = none → len = 0) ∧
      (0 < len → ∃ b off, ad = some ⟨b, off, none⟩ ∧ b < w.heap.size ∧ ∀ i, i < len → ∀ (j : Nat) (f : Field), fs[j]? = some f → ∃ (v : Value) (y : DataW H × List MemPlace) (n : Nat), w.cell? ⟨b, off + (i * fs.size + j), none⟩ = some v ∧ DataW.trod enc P w base spare held n f.type [v] = some y) := by
  obtain ⟨ad, len, cap, rfl, hl, hm, hnil, hall⟩ := open_slice_fields ht he hone hC h
  refine ⟨ad, len, cap, rfl, hl, hm, hnil, fun h0 => ?_⟩
  obtain ⟨a, rfl, hf⟩ := hall 0 h0
  obtain ⟨v0, y0, n0, c0, t0⟩ := hf 0 (fs[0]'hpos) (Array.getElem?_eq_getElem hpos)
  have c0' : w.cell? a = some v0 := by
    have e : a.add (0 * fs.size + 0) = a := by simp [Addr.add]
    rw [← e]; exact c0
  obtain ⟨b, off, rfl, hb, hadd⟩ := addr_none c0'
  refine ⟨b, off, rfl, hb, fun i hi j f hj => ?_⟩
  obtain ⟨a', ha', hf'⟩ := hall i hi
  cases ha'
  obtain ⟨v, y, n, c, t⟩ := hf' j f hj
  rw [hadd] at c
  exact ⟨v, y, n, c, t⟩


structure OpR where
  kind : Int
  at_ : Int
  n : Int
  name : ByteArray
  to_ : ByteArray
  text : ByteArray
  fates : List Int
/-- the i-th call lies at o -/
def OpAt (w : World) (b o : Nat) (x : OpR) : Prop :=
  w.cell? ⟨b, o, none⟩ = some (.int .i64 x.kind) ∧ w.cell? ⟨b, o + 1, none⟩ = some (.int .i64 x.at_) ∧ w.cell? ⟨b, o + 2, none⟩ = some (.int .i64 x.n) ∧ w.cell? ⟨b, o + 3, none⟩ = some (.string x.name) ∧ w.cell? ⟨b, o + 4, none⟩ = some (.string x.to_) ∧ w.cell? ⟨b, o + 5, none⟩ = some (.string x.text) ∧
  (∃ fa fc, w.cell? ⟨b, o + 6, none⟩ = some (.slice fa x.fates.length fc) ∧ IntsAt .i64 w fa x.fates ∧ x.fates.length ≤ maxLen) ∧
  (Lit.int .i64 x.kind).wf = true ∧ (Lit.int .i64 x.at_).wf = true ∧ (Lit.int .i64 x.n).wf = true ∧ x.name.size ≤ maxLen ∧ x.to_.size ≤ maxLen ∧ x.text.size ≤ maxLen
def OpsAt (w : World) (ad : Option Addr) (L : List OpR) : Prop := L = [] ∨ ∃ b off, ad = some ⟨b, off, none⟩ ∧ b < w.heap.size ∧ ∀ i (hi : i < L.length), OpAt w b (off + i * 7) L[i]
theorem opAt_below {w w' : World} {b o : Nat} {x : OpR} (h : OpAt w b o x) (hb : b < w.heap.size) (hB : Below w.heap.size w w') : OpAt w' b o x := by
  obtain ⟨h0, h1, h2, h3, h4, h5, ⟨fa, fc, h6, h7, h8⟩, h9⟩ := h
  have e : ∀ j, w'.cell? ⟨b, j, none⟩ = w.cell? ⟨b, j, none⟩ := fun j => hB.cell (p := ⟨b, j, none⟩) hb
  exact ⟨by rw [e]; exact h0, by rw [e]; exact h1, by rw [e]; exact h2, by rw [e]; exact h3, by rw [e]; exact h4, by rw [e]; exact h5, ⟨fa, fc, by rw [e]; exact h6, intsAt_below h7 hB, h8⟩, h9⟩
theorem open_ops {H : Type} {enc : TypeId × Value → H} {w : World} {base : Nat} {held : Bool} {fuel : Nat} {cs : List Value} {x : DataW H × List MemPlace} (h : DataW.trod enc Try.prog w base (fun _ => true) held fuel 43 cs = some x) :
    ∃ (ad : Option Addr) (cap : Nat) (L : List OpR), cs = [.slice ad L.length cap] ∧ L.length ≤ cap ∧ cap ≤ maxLen ∧ OpsAt w ad L := by
  obtain ⟨ad, len, cap, rfl, hl, hm, hnil, hall⟩ := open_fields_at Try.underlying43 Try.underlying46 (by kernel_rfl) (by kernel_rfl) (by decide) h
  by_cases h0 : len = 0
  · subst h0; exact ⟨ad, cap, [], rfl, Nat.zero_le _, hm, Or.inl rfl⟩
  · obtain ⟨b, off, rfl, hb, hf⟩ := hall (by omega)
    obtain ⟨L, hL, hp⟩ := list_of_all (fun i (x : OpR) => OpAt w b (off + i * 7) x) len (by
      intro i hi
      obtain ⟨v0, y0, n0, c0, t0⟩ := hf i hi 0 _ rfl
      obtain ⟨v1, y1, n1, c1, t1⟩ := hf i hi 1 _ rfl
      obtain ⟨v2, y2, n2, c2, t2⟩ := hf i hi 2 _ rfl
      obtain ⟨v3, y3, n3, c3, t3⟩ := hf i hi 3 _ rfl
      obtain ⟨v4, y4, n4, c4, t4⟩ := hf i hi 4 _ rfl
      obtain ⟨v5, y5, n5, c5, t5⟩ := hf i hi 5 _ rfl
      obtain ⟨v6, y6, n6, c6, t6⟩ := hf i hi 6 _ rfl
      obtain ⟨z0, e0, _, w0⟩ := DataW.trod_int Try.underlying3 t0
      obtain ⟨z1, e1, _, w1⟩ := DataW.trod_int Try.underlying3 t1
      obtain ⟨z2, e2, _, w2⟩ := DataW.trod_int Try.underlying3 t2
      obtain ⟨z3, e3, _, w3⟩ := DataW.trod_string Try.underlying9 t3
      obtain ⟨z4, e4, _, w4⟩ := DataW.trod_string Try.underlying9 t4
      obtain ⟨z5, e5, _, w5⟩ := DataW.trod_string Try.underlying9 t5
      obtain ⟨fa, fl, fc, ft, e6, i6, l6, m6⟩ : ∃ fa fl fc, ∃ ft : List Int, v6 = .slice fa fl fc ∧ IntsAt .i64 w fa ft ∧ ft.length = fl ∧ fl ≤ maxLen := by
        rcases open_ints Try.underlying22 Try.underlying3 (by kernel_rfl) t6 with ⟨hcs, _⟩ | ⟨x, l, c, zs, hcs, _, hl, hm, hz, _, hcell, hwz⟩
        · simp at hcs
          exact ⟨none, 0, 0, [], hcs, Or.inl rfl, rfl, Nat.zero_le _⟩
        · simp at hcs
          have hq := isInts_at (k := .i64) (w := w) (a := some x) (len := l) (cap := c) (zs := zs) (Or.inr ⟨x, rfl, hl, hm, by simpa using hz, hcell, hwz⟩)
          exact ⟨some x, l, c, zs.take l, hcs, hq.1, hq.2.1, hq.2.2.2.1⟩
      simp at e0 e1 e2 e3 e4 e5
      subst e0 e1 e2 e3 e4 e5 e6
      subst l6
      exact ⟨⟨z0, z1, z2, z3, z4, z5, ft⟩, c0, c1, c2, c3, c4, c5, ⟨fa, fc, c6, i6, m6⟩, w0, w1, w2, w3, w4, w5⟩)
    exact ⟨_, cap, L, by rw [hL], by omega, hm, Or.inr ⟨b, off, rfl, hb, hp⟩⟩
end Go.Proofs.Ytlmodbaeoheiiaa
