/- The cells of a row of promises. No condition. -/
import Derived.Test.YtmmnaieikfekfaaGreatDoorMerge
namespace Go.Proofs.YtmmnaieikfekfaaGreatDoor
open Go.RowKit

theorem info_promise : (Tryz.prog.info? 136).map (fun i => (i.zero, i.size, i.bytes)) = some (some (.agg #[.int .i64 0, .int .i64 0, .slice none 0 0]), 3, 40) := by kernel_rfl

/-- the cells of a row of promises -/
def PRow (w : World) : List Prom → List Value → Prop
  | [], cs => cs = []
  | q :: qs, cs => ∃ la lc rest, cs = .int .i64 q.floor :: .int .i64 q.top :: .slice la q.list.length lc :: rest ∧ EntsAt w la q.list ∧ PRow w qs rest
theorem PRow_len {w : World} {qs : List Prom} {cs : List Value} (h : PRow w qs cs) : cs.length = qs.length * 3 := by
  induction qs generalizing cs with
  | nil => simp [PRow] at h; simp [h]
  | cons q qs ih => obtain ⟨la, lc, rest, rfl, _, hr⟩ := h; simp [ih hr]; omega
theorem PRow_snoc {w : World} {qs : List Prom} {cs : List Value} (h : PRow w qs cs) {q : Prom} {la : Option Addr} {lc : Nat} (he : EntsAt w la q.list) : PRow w (qs ++ [q]) (cs ++ [.int .i64 q.floor, .int .i64 q.top, .slice la q.list.length lc]) := by
  induction qs generalizing cs with
  | nil => simp [PRow] at h; subst h; exact ⟨la, lc, [], rfl, he, rfl⟩
  | cons p qs ih => obtain ⟨la', lc', rest, rfl, h1, hr⟩ := h; exact ⟨la', lc', _, rfl, h1, ih hr⟩
theorem PRow_at {w : World} {qs : List Prom} {cs : List Value} (h : PRow w qs cs) (k : Nat) (hk : k < qs.length) :
    ∃ la lc, cs[k * 3]? = some (.int .i64 qs[k].floor) ∧ cs[k * 3 + 1]? = some (.int .i64 qs[k].top) ∧ cs[k * 3 + 2]? = some (.slice la qs[k].list.length lc) ∧ EntsAt w la qs[k].list := by
  induction qs generalizing cs k with
  | nil => simp at hk
  | cons q qs ih =>
    obtain ⟨la, lc, rest, rfl, h1, hr⟩ := h
    cases k with
    | zero => exact ⟨la, lc, rfl, rfl, rfl, h1⟩
    | succ k =>
      obtain ⟨la', lc', a, b, c, d⟩ := ih hr k (by simpa using hk)
      refine ⟨la', lc', ?_, ?_, ?_, d⟩
      · rw [show (k + 1) * 3 = k * 3 + 3 by omega]; exact a
      · rw [show (k + 1) * 3 + 1 = k * 3 + 1 + 3 by omega]; exact b
      · rw [show (k + 1) * 3 + 2 = k * 3 + 2 + 3 by omega]; exact c
theorem PRow_below {w w' : World} {qs : List Prom} {cs : List Value} (h : PRow w qs cs) (hb : Below w.heap.size w w') : PRow w' qs cs := by
  induction qs generalizing cs with
  | nil => exact h
  | cons q qs ih => obtain ⟨la, lc, rest, rfl, h1, hr⟩ := h; exact ⟨la, lc, rest, rfl, entsAt_below h1 hb, ih hr⟩
theorem promsAt_own {w w' : World} {base : Nat} {e : TypeId} {v : Value} {qs : List Prom} {cs : List Value} (h : w'.ownsRow base e 3 v qs.length cs) (hr : PRow w qs cs) (hb : Below w.heap.size w w') :
    ∃ ad cap, v = .slice ad qs.length cap ∧ PromsAt w' ad qs := by
  have h0 := h
  obtain ⟨h1, h2⟩ := h
  rcases h2 with ⟨rfl, h2⟩ | ⟨g, cap, cur, rfl, hg, hbb, hn, hc, hs, ht⟩
  · have hl : qs = [] := List.length_eq_zero_iff.1 h2
    subst hl
    exact ⟨none, 0, rfl, Or.inl rfl⟩
  · refine ⟨_, cap, rfl, Or.inr ⟨g, 0, rfl, (h0.lt g rfl).2, fun k hk => ?_⟩⟩
    obtain ⟨la, lc, a, b, c, d⟩ := PRow_at hr k hk
    refine ⟨la, lc, ?_, ?_, ?_, entsAt_below d hb⟩
    · rw [Nat.zero_add, h0.cellAt (k * 3) (by omega)]; exact a
    · rw [Nat.zero_add, h0.cellAt (k * 3 + 1) (by omega)]; exact b
    · rw [Nat.zero_add, h0.cellAt (k * 3 + 2) (by omega)]; exact c

end Go.Proofs.YtmmnaieikfekfaaGreatDoor
