/- The walks of Parts (are two lists of parts one?) and of the chapter's first example. Condition: lists of at most 2^40 parts. -/
import Derived.Test.YtdhkdmnhkldebaaCut
namespace Go.Proofs.Ytdhkdmnhkldebaa
open Go.RowKit

def PartsAt (w : World) (ad : Option Addr) (l : List (Int × Int × ByteArray)) : Prop :=
  l = [] ∨ ∃ b off, ad = some ⟨b, off, none⟩ ∧ b < w.heap.size ∧ ∀ k (hk : k < l.length), w.cell? ⟨b, off + k * 3, none⟩ = some (.int .i64 l[k].1) ∧ w.cell? ⟨b, off + k * 3 + 1, none⟩ = some (.int .i64 l[k].2.1) ∧ w.cell? ⟨b, off + k * 3 + 2, none⟩ = some (.string l[k].2.2)
def ReadsParts (w : World) (v : Value) (l : List (Int × Int × ByteArray)) : Prop := ∃ ad cap, v = .slice ad l.length cap ∧ PartsAt w ad l
theorem readsParts_own {w : World} {base : Nat} {e : TypeId} {v : Value} {l : List (Int × Int × ByteArray)} (h : w.ownsRow base e 3 v l.length (pscells l)) : ReadsParts w v l := by
  have h0 := h
  obtain ⟨h1, h2⟩ := h
  rcases h2 with ⟨rfl, h2⟩ | ⟨g, cap, cur, rfl, hg, hb, hn, hc, hs, ht⟩
  · have hl : l = [] := List.length_eq_zero_iff.1 h2
    subst hl
    exact ⟨none, 0, rfl, Or.inl rfl⟩
  · refine ⟨_, cap, rfl, Or.inr ⟨g, 0, rfl, (h0.lt g rfl).2, fun k hk => ?_⟩⟩
    have hp := pscells_at l k hk
    rw [Nat.zero_add, h0.cellAt (k * 3) (by omega), h0.cellAt (k * 3 + 1) (by omega), h0.cellAt (k * 3 + 2) (by omega)]
    exact hp
theorem partsAt_below {w w' : World} {ad : Option Addr} {l : List (Int × Int × ByteArray)} (h : PartsAt w ad l) (hb : Below w.heap.size w w') : PartsAt w' ad l := by
  rcases h with h | ⟨b, off, h1, h2, h3⟩
  · exact Or.inl h
  · refine Or.inr ⟨b, off, h1, Nat.lt_of_lt_of_le h2 hb.size, fun k hk => ?_⟩
    rw [hb.cell (p := ⟨b, off + k * 3, none⟩) h2, hb.cell (p := ⟨b, off + k * 3 + 1, none⟩) h2, hb.cell (p := ⟨b, off + k * 3 + 2, none⟩) h2]
    exact h3 k hk
theorem readsParts_below {w w' : World} {v : Value} {l : List (Int × Int × ByteArray)} (h : ReadsParts w v l) (hb : Below w.heap.size w w') : ReadsParts w' v l :=
  let ⟨ad, cap, h1, h2⟩ := h; ⟨ad, cap, h1, partsAt_below h2 hb⟩

set_option maxHeartbeats 1000000 in
theorem parts_any (v1 v2 : Value) (l1 l2 : List (Int × Int × ByteArray)) (w : World) (h1 : ReadsParts w v1 l1) (h2 : ReadsParts w v2 l2) (hl1 : l1.length ≤ 1099511627776) (hl2 : l2.length ≤ 1099511627776) (he : l1 = l2) :
    Calls Try.prog 12 #[v1, v2] w fun e w' => e = .returned (.bool true) ∧ Below w.heap.size w w' := by
  subst he
  obtain ⟨a1, c1, rfl, h1⟩ := h1
  obtain ⟨a2, c2, rfl, h2⟩ := h2
  have H1 := Lib.hid h1
  have H2 := Lib.hid h2
  clear h1 h2
  go_enter Try.func12, Try.ntmps12
  go_wp2
  go_loopw [5] (fun i wr => ∃ k : Nat, k ≤ l1.length ∧ i = .int .i64 k ∧ (∃ n, wr = w.drewN n)) (fun i _ => l1.length - (intOf i).toNat)
  case atStart => exact ⟨0, by omega, rfl, 0, rfl⟩
  case round =>
    obtain ⟨k, hk, rfl, nd, rfl⟩ := hrel
    by_cases hlt : k < l1.length
    · obtain ⟨b1, o1, rfl, hb1, hc1⟩ := H1.out.resolve_left (by intro h; rw [h] at hlt; simp at hlt)
      obtain ⟨b2, o2, rfl, hb2, hc2⟩ := H2.out.resolve_left (by intro h; rw [h] at hlt; simp at hlt)
      obtain ⟨x0, x1, x2⟩ := hc1 k hlt
      obtain ⟨y0, y1, y2⟩ := hc2 k hlt
      have hi1 : (k : Int) < (l1.length : Int) := by omega
      clear hc1 hc2
      go_wp2
      go_quiet (fail)
      go_wp2
      go_roundw
      case rel => exact ⟨k + 1, by omega, by go_num, _, rfl⟩
      case measure => simp [intOf]; omega
    · go_wp2
      go_ret
      exact ⟨rfl, below_drewN (Below.refl _ _) _⟩

def abcde : ByteArray := ⟨#[97, 98, 99, 100, 101]⟩
theorem cut_abcde : cutOf abcde 2 = ([(0, 3, ⟨#[97, 98]⟩), (1, 3, ⟨#[99, 100]⟩), (2, 3, ⟨#[101]⟩)], 0) := by decide +kernel

set_option maxHeartbeats 400000 in
theorem awake_any (w : World) : Calls Try.prog 13 #[] w fun e w' => e = .returned (.bool true) ∧ Below w.heap.size w w' := by
  have hc := Lib.hid cut_abcde
  go_enter Try.func13, Try.ntmps13
  go_wp2_with fail
  refine (cut_any abcde 2 w (by decide) (by omega)).mono ?_
  rintro e w1 ⟨v, rfl, hown, hb⟩
  rw [hc.out] at hown ⊢
  obtain ⟨ad, cap, rfl, hat⟩ := readsParts_own hown
  obtain ⟨b, off, rfl, hlt, hcell⟩ := hat.resolve_left (by simp)
  obtain ⟨x0, x1, x2⟩ := hcell 2 (by simp)
  have y0 : w1.cell? ⟨b, off + 6, none⟩ = some (.int .i64 2) := x0
  have y1 : w1.cell? ⟨b, off + 7, none⟩ = some (.int .i64 3) := x1
  have y2 : w1.cell? ⟨b, off + 8, none⟩ = some (.string ⟨#[101]⟩) := x2
  clear x0 x1 x2 hcell hat hown
  go_wp2
  go_ret
  exact ⟨rfl, hb⟩
end Go.Proofs.Ytdhkdmnhkldebaa
