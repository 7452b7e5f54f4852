/- Arguments that are slices of a coordinator's calls (Op), opened. No condition. -/
import Derived.Test.YtmmnaieikfekfaaGreatDoorOpenFiles
namespace Go.Proofs.YtmmnaieikfekfaaGreatDoor
open Go.RowKit Go.ChangeShapes Go.WideShapes Go.Deep

/-- a call lies at o: its kind and its vault are numbers, the rest is whatever it is -/
def MOpAt (w : World) (b o : Nat) (kd fr : Int) (m0 m1 m2 m3 m4 m5 m6 m7 m8 m9 m10 m11 m12 m13 tx k0 k1 k2 : Value) : Prop :=
  w.cell? ⟨b, o, none⟩ = some (.int .i64 kd) ∧ w.cell? ⟨b, o + 1, none⟩ = some (.int .i64 fr) ∧ w.cell? ⟨b, o + 2, none⟩ = some (m0) ∧ w.cell? ⟨b, o + 3, none⟩ = some (m1) ∧ w.cell? ⟨b, o + 4, none⟩ = some (m2) ∧ w.cell? ⟨b, o + 5, none⟩ = some (m3) ∧ w.cell? ⟨b, o + 6, none⟩ = some (m4) ∧ w.cell? ⟨b, o + 7, none⟩ = some (m5) ∧ w.cell? ⟨b, o + 8, none⟩ = some (m6) ∧ w.cell? ⟨b, o + 9, none⟩ = some (m7) ∧ w.cell? ⟨b, o + 10, none⟩ = some (m8) ∧ w.cell? ⟨b, o + 11, none⟩ = some (m9) ∧ w.cell? ⟨b, o + 12, none⟩ = some (m10) ∧ w.cell? ⟨b, o + 13, none⟩ = some (m11) ∧ w.cell? ⟨b, o + 14, none⟩ = some (m12) ∧ w.cell? ⟨b, o + 15, none⟩ = some (m13) ∧ w.cell? ⟨b, o + 16, none⟩ = some (tx) ∧ w.cell? ⟨b, o + 17, none⟩ = some (k0) ∧ w.cell? ⟨b, o + 18, none⟩ = some (k1) ∧ w.cell? ⟨b, o + 19, none⟩ = some (k2)
def MOpsAt (w : World) (ad : Option Addr) (n : Nat) : Prop := n = 0 ∨ ∃ b off, ad = some ⟨b, off, none⟩ ∧ b < w.heap.size ∧ ∀ i, i < n → ∃ (kd fr : Int) (m0 m1 m2 m3 m4 m5 m6 m7 m8 m9 m10 m11 m12 m13 tx k0 k1 k2 : Value), MOpAt w b (off + i * 20) kd fr m0 m1 m2 m3 m4 m5 m6 m7 m8 m9 m10 m11 m12 m13 tx k0 k1 k2

theorem MOpAt.below {w w' : World} {b o : Nat} {kd fr : Int} {m0 m1 m2 m3 m4 m5 m6 m7 m8 m9 m10 m11 m12 m13 tx k0 k1 k2 : Value} (h : MOpAt w b o kd fr m0 m1 m2 m3 m4 m5 m6 m7 m8 m9 m10 m11 m12 m13 tx k0 k1 k2) (hb : b < w.heap.size) (hB : Below w.heap.size w w') : MOpAt w' b o kd fr m0 m1 m2 m3 m4 m5 m6 m7 m8 m9 m10 m11 m12 m13 tx k0 k1 k2 := by
  obtain ⟨h0, h1, h2, h3, h4, h5, h6, h7, h8, h9, h10, h11, h12, h13, h14, h15, h16, h17, h18, h19⟩ := h
  have e : ∀ j, w'.cell? ⟨b, j, none⟩ = w.cell? ⟨b, j, none⟩ := fun j => hB.cell (p := ⟨b, j, none⟩) hb
  exact ⟨(e _).trans h0, (e _).trans h1, (e _).trans h2, (e _).trans h3, (e _).trans h4, (e _).trans h5, (e _).trans h6, (e _).trans h7, (e _).trans h8, (e _).trans h9, (e _).trans h10, (e _).trans h11, (e _).trans h12, (e _).trans h13, (e _).trans h14, (e _).trans h15, (e _).trans h16, (e _).trans h17, (e _).trans h18, (e _).trans h19⟩
theorem MOpsAt.below {w w' : World} {ad : Option Addr} {n : Nat} (h : MOpsAt w ad n) (hB : Below w.heap.size w w') : MOpsAt w' ad n := by
  rcases h with h | ⟨b, off, h1, h2, h3⟩
  · exact Or.inl h
  · refine Or.inr ⟨b, off, h1, Nat.lt_of_lt_of_le h2 hB.size, fun i hi => ?_⟩
    obtain ⟨kd, fr, m0, m1, m2, m3, m4, m5, m6, m7, m8, m9, m10, m11, m12, m13, tx, k0, k1, k2, h⟩ := h3 i hi
    exact ⟨kd, fr, m0, m1, m2, m3, m4, m5, m6, m7, m8, m9, m10, m11, m12, m13, tx, k0, k1, k2, h.below h2 hB⟩

section
variable {H : Type} {enc : TypeId × Value → H} {P : Program} {w : World} {base : Nat} {spare : Nat → Bool} {held : Bool}
/-- a field of one cell of a struct -/
theorem trod_field {t : TypeId} {fs : Array Field} {fuel : Nat} {cs : List Value} {x : DataW H × List MemPlace} (ht : P.underlying t = some (.struct fs)) (h : DataW.trod enc P w base spare held fuel t cs = some x)
    (j : Nat) (f : Field) (hj : fs[j]? = some f) (h1 : P.cellsOf f.type = 1) (hl : f.offset < P.cellsOf t) : ∃ (v : Value) (y : DataW H × List MemPlace) (n : Nat), cs[f.offset]? = some v ∧ DataW.trod enc P w base spare held n f.type [v] = some y := by
  obtain ⟨ys, n', hn', hy, hlen, hyl, hf⟩ := DataW.trod_struct ht h
  have hjl : j < fs.size := (Array.getElem?_eq_some_iff.1 hj).1
  have hv : cs[f.offset]? = some (cs[f.offset]'(by omega)) := List.getElem?_eq_getElem (by omega)
  have h2 := hf j f hj
  have hone : (cs.drop f.offset).take 1 = [cs[f.offset]'(by omega)] := by
    rw [List.drop_eq_getElem_cons (by omega)]
    rfl
  rw [h1, hone] at h2
  have hys : ys[j]? = some (ys[j]'(by omega)) := List.getElem?_eq_getElem (by omega)
  exact ⟨_, _, n', hv, h2.trans hys⟩
theorem list20 {α : Type} (l : List α) (h : l.length = 20) : ∃ a0 a1 a2 a3 a4 a5 a6 a7 a8 a9 a10 a11 a12 a13 a14 a15 a16 a17 a18 a19, l = [a0, a1, a2, a3, a4, a5, a6, a7, a8, a9, a10, a11, a12, a13, a14, a15, a16, a17, a18, a19] := by
  match l, h with
  | [a0, a1, a2, a3, a4, a5, a6, a7, a8, a9, a10, a11, a12, a13, a14, a15, a16, a17, a18, a19], _ => exact ⟨a0, a1, a2, a3, a4, a5, a6, a7, a8, a9, a10, a11, a12, a13, a14, a15, a16, a17, a18, a19, rfl⟩
end
theorem open_mops {H : Type} {enc : TypeId × Value → H} {w : World} {base : Nat} {spare : Nat → Bool} {held : Bool} {fuel : Nat} {cs : List Value} {x : DataW H × List MemPlace} (h : DataW.trod enc Tryz.prog w base spare held fuel 63 cs = some x) :
    ∃ (ad : Option Addr) (len cap : Nat), cs = [.slice ad len cap] ∧ len ≤ cap ∧ cap ≤ maxLen ∧ MOpsAt w ad len := by
  rcases open_slice Tryz.underlying63 h with ⟨h0, _⟩ | ⟨a, len, cap, m, n, D, Pl, hcs, hb, hl, hm, hmm, hx, hi⟩
  · exact ⟨none, 0, 0, h0, Nat.le_refl _, Nat.zero_le _, Or.inl rfl⟩
  · refine ⟨some a, len, cap, hcs, hl, hm, ?_⟩
    by_cases h0 : len = 0
    · exact Or.inl h0
    · have hC : Tryz.prog.cellsOf 65 = 20 := by kernel_rfl
      have hat : ∀ i, i < len → ∃ (kd fr : Int) (m0 m1 m2 m3 m4 m5 m6 m7 m8 m9 m10 m11 m12 m13 tx k0 k1 k2 : Value), ∀ (j : Nat) (v : Value), [.int .i64 kd, .int .i64 fr, m0, m1, m2, m3, m4, m5, m6, m7, m8, m9, m10, m11, m12, m13, tx, k0, k1, k2][j]? = some v → w.cell? (a.add (i * 20 + j)) = some v := by
        intro i hil
        have him : i < m := by rw [hmm]; split <;> omega
        obtain ⟨cs', hc, ht'⟩ := hi i him
        rw [hC] at hc
        obtain ⟨v0, y0, n0, c0, t0⟩ := trod_field Tryz.underlying65 ht' 0 _ rfl (by kernel_rfl) (by rw [hC]; decide)
        obtain ⟨v1, y1, n1, c1, t1⟩ := trod_field Tryz.underlying65 ht' 1 _ rfl (by kernel_rfl) (by rw [hC]; decide)
        obtain ⟨z0, e0, _, _⟩ := DataW.trod_int Tryz.underlying3 t0
        obtain ⟨z1, e1, _, _⟩ := DataW.trod_int Tryz.underlying3 t1
        simp at e0 e1
        subst e0 e1
        obtain ⟨_, hcl, hatc⟩ := World.cells?_some hc
        obtain ⟨a0, a1, a2, a3, a4, a5, a6, a7, a8, a9, a10, a11, a12, a13, a14, a15, a16, a17, a18, a19, rfl⟩ := list20 cs' hcl
        obtain rfl : a0 = .int .i64 z0 := by simpa using c0
        obtain rfl : a1 = .int .i64 z1 := by simpa using c1
        refine ⟨z0, z1, a2, a3, a4, a5, a6, a7, a8, a9, a10, a11, a12, a13, a14, a15, a16, a17, a18, a19, fun j v hj => ?_⟩
        have hjl : j < 20 := (List.getElem?_eq_some_iff.1 hj).1
        rw [← Go.Deep.add_add, hatc j hjl]
        exact hj
      obtain ⟨kd, fr, m0, m1, m2, m3, m4, m5, m6, m7, m8, m9, m10, m11, m12, m13, tx, k0, k1, k2, hall⟩ := hat 0 (by omega)
      have c0' : w.cell? a = some (.int .i64 kd) := by
        have e : a.add (0 * 20 + 0) = a := by simp [Addr.add]
        rw [← e]; exact hall 0 _ rfl
      obtain ⟨b, off, rfl, hbb, hadd⟩ := addr_none c0'
      refine Or.inr ⟨b, off, rfl, hbb, fun i hil => ?_⟩
      obtain ⟨kd, fr, m0, m1, m2, m3, m4, m5, m6, m7, m8, m9, m10, m11, m12, m13, tx, k0, k1, k2, hall⟩ := hat i hil
      refine ⟨kd, fr, m0, m1, m2, m3, m4, m5, m6, m7, m8, m9, m10, m11, m12, m13, tx, k0, k1, k2, ?_⟩
      have hx : ∀ j v, [.int .i64 kd, .int .i64 fr, m0, m1, m2, m3, m4, m5, m6, m7, m8, m9, m10, m11, m12, m13, tx, k0, k1, k2][j]? = some v → w.cell? ⟨b, off + i * 20 + j, none⟩ = some v := fun j v hj => by
        have h := hall j v hj
        rw [hadd, ← Nat.add_assoc] at h
        exact h
      exact ⟨hx 0 _ rfl, hx 1 _ rfl, hx 2 _ rfl, hx 3 _ rfl, hx 4 _ rfl, hx 5 _ rfl, hx 6 _ rfl, hx 7 _ rfl, hx 8 _ rfl, hx 9 _ rfl, hx 10 _ rfl, hx 11 _ rfl, hx 12 _ rfl, hx 13 _ rfl, hx 14 _ rfl, hx 15 _ rfl, hx 16 _ rfl, hx 17 _ rfl, hx 18 _ rfl, hx 19 _ rfl⟩
end Go.Proofs.YtmmnaieikfekfaaGreatDoor
