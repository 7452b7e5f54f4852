/- Arguments that are slices of a box's calls (Op, with a part inside), opened. No condition. -/
import Derived.Test.YtdhkdmnhkldebaaKit
import Derived.Test.YtdhkdmnhkldebaaRows
import Derived.ChangeSame
import Derived.Deep.Slices
import Derived.Deep.Fields
import Derived.ProofKit
namespace Go.Proofs.Ytdhkdmnhkldebaa
open Go.RowKit Go.ChangeShapes Go.WideShapes Go.Deep
set_option linter.unusedVariables false

theorem list_of_all {α : Type} (p : Nat → α → Prop) (n : Nat) (h : ∀ i, i < n → ∃ x, p i x) : ∃ L : List α, L.length = n ∧ ∀ i (hi : i < L.length), p i L[i] := by
  induction n with
  | zero => exact ⟨[], rfl, fun i hi => absurd hi (by simp)⟩
  | succ n ih =>
    obtain ⟨L, hl, hL⟩ := ih (fun i hi => h i (by omega))
    obtain ⟨x, hx⟩ := h n (by omega)
    refine ⟨L ++ [x], by simp [hl], fun i hi => ?_⟩
    by_cases hin : i < L.length
    · rw [List.getElem_append_left hin]; exact hL i hin
    · have : i = L.length := by simp at hi; omega
      subst this
      rw [List.getElem_append_right (Nat.le_refl _)]
      simp
      rw [hl]; exact hx

theorem addr_none {w : World} {a : Addr} {v : Value} (h : w.cell? a = some v) : ∃ b off, a = ⟨b, off, none⟩ ∧ b < w.heap.size ∧ ∀ j, a.add j = ⟨b, off + j, none⟩ := by
  have hlt := World.block_lt_of_cell? w _ h
  obtain ⟨b, off, spot⟩ := a
  have hspot : spot = none := by simpa using World.cell?_spot h
  subst hspot
  refine ⟨b, off, rfl, hlt, fun j => ?_⟩
  unfold Addr.add
  split
  · subst j; rfl
  · rfl

structure OpR where
  kind : Int
  n : Int
  at_ : Int
  of_ : Int
  text : ByteArray
/-- the call lies at o -/
def OpAt (w : World) (b o : Nat) (x : OpR) : Prop :=
  w.cell? ⟨b, o, none⟩ = some (.int .i64 x.kind) ∧ w.cell? ⟨b, o + 1, none⟩ = some (.int .i64 x.n) ∧ w.cell? ⟨b, o + 2, none⟩ = some (.int .i64 x.at_) ∧ w.cell? ⟨b, o + 3, none⟩ = some (.int .i64 x.of_) ∧ w.cell? ⟨b, o + 4, none⟩ = some (.string x.text) ∧
  (Lit.int .i64 x.kind).wf = true ∧ (Lit.int .i64 x.n).wf = true ∧ (Lit.int .i64 x.at_).wf = true ∧ (Lit.int .i64 x.of_).wf = true ∧ x.text.size ≤ maxLen
def OpsAt (w : World) (ad : Option Addr) (L : List OpR) : Prop := L = [] ∨ ∃ b off, ad = some ⟨b, off, none⟩ ∧ b < w.heap.size ∧ ∀ i (hi : i < L.length), OpAt w b (off + i * 5) L[i]
theorem opAt_below {w w' : World} {b o : Nat} {x : OpR} (h : OpAt w b o x) (hb : b < w.heap.size) (hB : Below w.heap.size w w') : OpAt w' b o x := by
  obtain ⟨h0, h1, h2, h3, h4, h9⟩ := h
  have e : ∀ j, w'.cell? ⟨b, j, none⟩ = w.cell? ⟨b, j, none⟩ := fun j => hB.cell (p := ⟨b, j, none⟩) hb
  exact ⟨by rw [e]; exact h0, by rw [e]; exact h1, by rw [e]; exact h2, by rw [e]; exact h3, by rw [e]; exact h4, h9⟩
theorem open_ops {H : Type} {enc : TypeId × Value → H} {w : World} {base : Nat} {held : Bool} {fuel : Nat} {cs : List Value} {x : DataW H × List MemPlace} (h : DataW.trod enc Try.prog w base (fun _ => true) held fuel 45 cs = some x) :
    ∃ (ad : Option Addr) (cap : Nat) (L : List OpR), cs = [.slice ad L.length cap] ∧ L.length ≤ cap ∧ cap ≤ maxLen ∧ OpsAt w ad L := by
  have e5 : Try.prog.cellsOf 52 = 5 := by kernel_rfl
  have e3 : Try.prog.cellsOf 36 = 3 := by kernel_rfl
  have e1 : Try.prog.cellsOf 3 = 1 := by kernel_rfl
  have es : Try.prog.cellsOf 9 = 1 := by kernel_rfl
  rcases open_slice Try.underlying45 h with ⟨h0, _⟩ | ⟨a, len, cap, m, n, D, Pl, hcs, hb, hl, hm, hmm, hx, hi⟩
  · exact ⟨none, 0, [], h0, Nat.le_refl _, Nat.zero_le _, Or.inl rfl⟩
  · have key : ∀ i, i < len → ∃ x : OpR, w.cell? (a.add (i * 5 + 0)) = some (.int .i64 x.kind) ∧ w.cell? (a.add (i * 5 + 1)) = some (.int .i64 x.n) ∧ w.cell? (a.add (i * 5 + 2)) = some (.int .i64 x.at_) ∧ w.cell? (a.add (i * 5 + 3)) = some (.int .i64 x.of_) ∧ w.cell? (a.add (i * 5 + 4)) = some (.string x.text) ∧
        (Lit.int .i64 x.kind).wf = true ∧ (Lit.int .i64 x.n).wf = true ∧ (Lit.int .i64 x.at_).wf = true ∧ (Lit.int .i64 x.of_).wf = true ∧ x.text.size ≤ maxLen := by
      intro i hil
      have him : i < m := by rw [hmm]; split <;> omega
      obtain ⟨cs', hc, ht'⟩ := hi i him
      rw [e5] at hc
      obtain ⟨ys, n', hn', hy, hlen, hyl, hf⟩ := DataW.trod_struct Try.underlying52 ht'
      obtain ⟨_, hcl, hat⟩ := World.cells?_some hc
      obtain ⟨v0, v1, v2, v3, v4, rfl⟩ : ∃ v0 v1 v2 v3 v4, cs' = [v0, v1, v2, v3, v4] := by
        match cs', hcl with
        | [v0, v1, v2, v3, v4], _ => exact ⟨v0, v1, v2, v3, v4, rfl⟩
      have t0 := hf 0 _ rfl
      have t1 := hf 1 _ rfl
      have t2 := hf 2 _ rfl
      replace t0 : DataW.trod enc Try.prog w base (fun _ => true) held n' 3 (List.take (Try.prog.cellsOf 3) [v0, v1, v2, v3, v4]) = ys[0]? := t0
      replace t1 : DataW.trod enc Try.prog w base (fun _ => true) held n' 3 (List.take (Try.prog.cellsOf 3) [v1, v2, v3, v4]) = ys[1]? := t1
      replace t2 : DataW.trod enc Try.prog w base (fun _ => true) held n' 36 (List.take (Try.prog.cellsOf 36) [v2, v3, v4]) = ys[2]? := t2
      rw [e1] at t0 t1
      rw [e3] at t2
      replace t0 : DataW.trod enc Try.prog w base (fun _ => true) held n' 3 [v0] = ys[0]? := t0
      replace t1 : DataW.trod enc Try.prog w base (fun _ => true) held n' 3 [v1] = ys[1]? := t1
      replace t2 : DataW.trod enc Try.prog w base (fun _ => true) held n' 36 [v2, v3, v4] = ys[2]? := t2
      have q0 : ∃ y, DataW.trod enc Try.prog w base (fun _ => true) held n' 3 [v0] = some y := by
        exact ⟨_, t0.trans (List.getElem?_eq_getElem (show 0 < ys.length by rw [hyl]; decide))⟩
      have q1 : ∃ y, DataW.trod enc Try.prog w base (fun _ => true) held n' 3 [v1] = some y := by
        exact ⟨_, t1.trans (List.getElem?_eq_getElem (show 1 < ys.length by rw [hyl]; decide))⟩
      have q2 : ∃ y, DataW.trod enc Try.prog w base (fun _ => true) held n' 36 [v2, v3, v4] = some y := by
        exact ⟨_, t2.trans (List.getElem?_eq_getElem (show 2 < ys.length by rw [hyl]; decide))⟩
      obtain ⟨y0, t0⟩ := q0
      obtain ⟨y1, t1⟩ := q1
      obtain ⟨y2, t2⟩ := q2
      obtain ⟨zs, n'', _, _, _, hzl, hg⟩ := DataW.trod_struct Try.underlying36 t2
      have u0 := hg 0 _ rfl
      have u1 := hg 1 _ rfl
      have u2 := hg 2 _ rfl
      replace u0 : DataW.trod enc Try.prog w base (fun _ => true) held n'' 3 (List.take (Try.prog.cellsOf 3) [v2, v3, v4]) = zs[0]? := u0
      replace u1 : DataW.trod enc Try.prog w base (fun _ => true) held n'' 3 (List.take (Try.prog.cellsOf 3) [v3, v4]) = zs[1]? := u1
      replace u2 : DataW.trod enc Try.prog w base (fun _ => true) held n'' 9 (List.take (Try.prog.cellsOf 9) [v4]) = zs[2]? := u2
      rw [e1] at u0 u1
      rw [es] at u2
      replace u0 : DataW.trod enc Try.prog w base (fun _ => true) held n'' 3 [v2] = zs[0]? := u0
      replace u1 : DataW.trod enc Try.prog w base (fun _ => true) held n'' 3 [v3] = zs[1]? := u1
      replace u2 : DataW.trod enc Try.prog w base (fun _ => true) held n'' 9 [v4] = zs[2]? := u2
      have r0 : ∃ y, DataW.trod enc Try.prog w base (fun _ => true) held n'' 3 [v2] = some y := by
        exact ⟨_, u0.trans (List.getElem?_eq_getElem (show 0 < zs.length by rw [hzl]; decide))⟩
      have r1 : ∃ y, DataW.trod enc Try.prog w base (fun _ => true) held n'' 3 [v3] = some y := by
        exact ⟨_, u1.trans (List.getElem?_eq_getElem (show 1 < zs.length by rw [hzl]; decide))⟩
      have r2 : ∃ y, DataW.trod enc Try.prog w base (fun _ => true) held n'' 9 [v4] = some y := by
        exact ⟨_, u2.trans (List.getElem?_eq_getElem (show 2 < zs.length by rw [hzl]; decide))⟩
      obtain ⟨p0, s0⟩ := r0
      obtain ⟨p1, s1⟩ := r1
      obtain ⟨p2, s2⟩ := r2
      obtain ⟨z0, f0, _, w0⟩ := DataW.trod_int Try.underlying3 t0
      obtain ⟨z1, f1, _, w1⟩ := DataW.trod_int Try.underlying3 t1
      obtain ⟨z2, f2, _, w2⟩ := DataW.trod_int Try.underlying3 s0
      obtain ⟨z3, f3, _, w3⟩ := DataW.trod_int Try.underlying3 s1
      obtain ⟨z4, f4, _, w4⟩ := DataW.trod_string Try.underlying9 s2
      simp at f0 f1 f2 f3 f4
      subst f0 f1 f2 f3 f4
      have c0 := hat 0 (by omega)
      have c1 := hat 1 (by omega)
      have c2 := hat 2 (by omega)
      have c3 := hat 3 (by omega)
      have c4 := hat 4 (by omega)
      rw [Go.Deep.add_add] at c0 c1 c2 c3 c4
      exact ⟨⟨z0, z1, z2, z3, z4⟩, c0, c1, c2, c3, c4, w0, w1, w2, w3, w4⟩
    by_cases h0 : len = 0
    · subst h0; exact ⟨some a, cap, [], hcs, Nat.zero_le _, hm, Or.inl rfl⟩
    · obtain ⟨x0, k0, _⟩ := key 0 (by omega)
      have k0' : w.cell? a = some (.int .i64 x0.kind) := by
        have e : a.add (0 * 5 + 0) = a := by simp [Addr.add]
        rw [← e]; exact k0
      obtain ⟨b, off, rfl, hbl, hadd⟩ := addr_none k0'
      obtain ⟨L, hL, hp⟩ := list_of_all (fun i (x : OpR) => OpAt w b (off + i * 5) x) len (by
        intro i hi
        obtain ⟨x, c0, c1, c2, c3, c4, h9⟩ := key i hi
        rw [hadd] at c0 c1 c2 c3 c4
        exact ⟨x, c0, c1, c2, c3, c4, h9⟩)
      exact ⟨_, cap, L, by rw [hL]; exact hcs, by omega, hm, Or.inr ⟨b, off, rfl, hbl, hp⟩⟩
end Go.Proofs.Ytdhkdmnhkldebaa
