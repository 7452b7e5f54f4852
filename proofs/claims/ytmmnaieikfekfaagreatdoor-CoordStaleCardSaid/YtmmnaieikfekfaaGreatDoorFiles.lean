/- Files in memory. No condition. -/
import Derived.Test.YtmmnaieikfekfaaGreatDoorTreePlain
import Derived.Test.YtmmnaieikfekfaaGreatDoorKit2
import Derived.Test.YtmmnaieikfekfaaGreatDoorHeap
namespace Go.Proofs.YtmmnaieikfekfaaGreatDoor
open Go Go.RowKit
set_option linter.unusedVariables false

def tfV (x : TFile) : List Value := [.string x.path, .int .i64 x.mode, .string x.data]
def tfsVals (l : List TFile) : List Value := l.flatMap tfV
theorem tfsVals_length : ∀ (l : List TFile), (tfsVals l).length = l.length * 3
  | [] => rfl
  | x :: l => by
    have := tfsVals_length l
    show (tfV x ++ tfsVals l).length = _
    rw [List.length_append, this, List.length_cons]
    show 3 + _ = _
    omega
theorem tfsVals_snoc (l : List TFile) (x : TFile) : tfsVals (l ++ [x]) = tfsVals l ++ tfV x := by simp [tfsVals]
theorem tfsVals_append (l r : List TFile) : tfsVals (l ++ r) = tfsVals l ++ tfsVals r := by simp [tfsVals]
theorem tfsVals_at : ∀ (l : List TFile) (k : Nat) (hk : k < l.length) (j : Nat), j < 3 → (tfsVals l)[k * 3 + j]? = (tfV l[k])[j]?
  | [], k, hk, _, _ => by simp at hk
  | x :: l, k, hk, j, hj => by
    have e : tfsVals (x :: l) = tfV x ++ tfsVals l := rfl
    have hl : (tfV x).length = 3 := rfl
    rw [e]
    cases k with
    | zero => rw [List.getElem?_append_left (by omega)]; simp
    | succ k =>
      rw [List.getElem?_append_right (by omega), hl, show (k + 1) * 3 + j - 3 = k * 3 + j by omega]
      exact tfsVals_at l k (by simpa using hk) j hj
def TfsAt (w : World) (ad : Option Addr) (l : List TFile) : Prop :=
  l = [] ∨ ∃ b off, ad = some ⟨b, off, none⟩ ∧ b < w.heap.size ∧ ∀ k (hk : k < l.length), w.cell? ⟨b, off + k * 3, none⟩ = some (.string l[k].path) ∧ w.cell? ⟨b, off + k * 3 + 1, none⟩ = some (.int .i64 l[k].mode) ∧ w.cell? ⟨b, off + k * 3 + 2, none⟩ = some (.string l[k].data)
theorem TfsAt.below {w w' : World} {ad : Option Addr} {l : List TFile} (h : TfsAt w ad l) (hb : Below w.heap.size w w') : TfsAt w' ad l := by
  rcases h with h | ⟨b, off, h1, h2, h3⟩
  · exact Or.inl h
  · refine Or.inr ⟨b, off, h1, Nat.lt_of_lt_of_le h2 hb.size, fun k hk => ?_⟩
    rw [hb.cell (p := ⟨b, off + k * 3, none⟩) h2, hb.cell (p := ⟨b, off + k * 3 + 1, none⟩) h2, hb.cell (p := ⟨b, off + k * 3 + 2, none⟩) h2]
    exact h3 k hk
theorem TfsAt.get {w : World} {ad : Option Addr} {l : List TFile} (h : TfsAt w ad l) (k : Nat) (hk : k < l.length) :
    ∃ b off, ad = some ⟨b, off, none⟩ ∧ b < w.heap.size ∧ w.cell? ⟨b, off + k * 3, none⟩ = some (.string l[k].path) ∧ w.cell? ⟨b, off + k * 3 + 1, none⟩ = some (.int .i64 l[k].mode) ∧ w.cell? ⟨b, off + k * 3 + 2, none⟩ = some (.string l[k].data) := by
  obtain ⟨b, off, e, hb, hc⟩ := h.resolve_left (by intro h; rw [h] at hk; simp at hk)
  exact ⟨b, off, e, hb, hc k hk⟩
theorem tfsAt_own {w : World} {base : Nat} {e : TypeId} {x : Option Addr} {y : Nat} {l : List TFile} (h : w.ownsRow base e 3 (.slice x l.length y) l.length (tfsVals l)) : TfsAt w x l := by
  by_cases h0 : l.length = 0
  · exact Or.inl (List.length_eq_zero_iff.1 h0)
  · obtain ⟨g, cap, hv, _, hg, _, _, hc⟩ := row_some h (by omega)
    injection hv with hv _ _
    subst hv
    refine Or.inr ⟨g, 0, rfl, hg, fun k hk => ?_⟩
    refine ⟨?_, ?_, ?_⟩
    · rw [Nat.zero_add, hc _ (by omega)]; exact tfsVals_at l k hk 0 (by omega)
    · rw [Nat.zero_add, hc _ (by omega)]; exact tfsVals_at l k hk 1 (by omega)
    · rw [Nat.zero_add, hc _ (by omega)]; exact tfsVals_at l k hk 2 (by omega)
/-- what the statement makes of a tree -/
def fewF (f : TFile) : TFile := if 2000 < f.data.size then { f with data := f.data.extract 0 2000 } else f
def fewL (l : List TFile) : List TFile := (l.take 8).map fewF
end Go.Proofs.YtmmnaieikfekfaaGreatDoor
