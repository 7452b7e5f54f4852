/- A builder of bytes that the call itself has made: what is written, and what leaves it as it is. Condition: the size. -/
import Derived.Test.YtogobhpnlndcaaaGreatBuildKeep
import Derived.Test.YtogobhpnlndcaaaGreatReader
namespace Go.Proofs.YtogobhpnlndcaaaGreat
open Go Go.RowKit
set_option linter.unusedVariables false

def isW (B : Nat) (bs : List UInt8) (w : World) : Prop := Lib.IsBuilder 81 5 B B (Lib.byteCells bs) w
theorem byteCells_app (l r : List UInt8) : Lib.byteCells (l ++ r) = Lib.byteCells l ++ Lib.byteCells r := by simp [Lib.byteCells]
theorem isW_below {B : Nat} {bs : List UInt8} {w w' : World} (h : isW B bs w) (hb : Below w.heap.size w w') : isW B bs w' := builder_below h hb
theorem isW_lt {B : Nat} {bs : List UInt8} {w : World} (h : isW B bs w) : B < w.heap.size := by
  rcases h with h | h
  · exact h.lt
  · exact h.lt
/-- stores into blocks of other types leave it -/
theorem isW_touch {S : Nat → Prop} {B : Nat} {bs : List UInt8} {w w' : World} (h : isW B bs w) (ht : Touch S w w') (hS : ∀ k, S k → ∃ cs T, Blk w k cs T ∧ T ≠ 81 ∧ T ≠ 5) : isW B bs w' := by
  have key : ∀ p, Lib.BuilderAt 81 5 B B p (Lib.byteCells bs) w → Lib.BuilderAt 81 5 B B p (Lib.byteCells bs) w' := by
    intro p h
    have hlt := h.lt
    obtain ⟨hB, v, hbk, hown, hne⟩ := h
    have hBlk : Blk w B [p, v] 81 := hbk
    have hnB : ¬ S B := fun hs => by
      obtain ⟨cs, T, hk, h1, _⟩ := hS B hs
      exact hk.ne hBlk h1 rfl
    exact ⟨hB, v, by rw [ht.block B hlt hnB]; exact hbk, row_touch hown ht (fun g hg hs => by
      obtain ⟨cs, T, hk, _, h2⟩ := hS g hs
      exact row_ne hown hk (Ne.symm h2) hg), hne⟩
  exact h.imp (key _) (key _)
theorem isW_new (w : World) : isW w.heap.size [] (w.alloc (.cells #[.pointer none, .slice none 0 0] 81)) := Lib.fresh_isBuilder _ _ _
theorem write_w (B : Nat) (bs l : List UInt8) (w : World) (h : isW B bs w) (hlen : bs.length + l.length ≤ 100000000000) (hBw : B ≤ w.heap.size) :
    Calls Tryz.prog 37 #[.pointer (some ⟨B, 0, none⟩), .string (ba l)] w fun e w' => e = .returned (.tuple #[.int .i64 (l.length : Nat), .nilIface]) ∧ isW B (bs ++ l) w' ∧ Below B w w' ∧ KeepB B w w' := by
  have hz := ba_size l
  refine (writeString_keep B B _ (ba l) w h (by rw [Lib.byteCells_length]; omega) hBw).mono ?_
  rintro e w' ⟨he, h1, h2, h3⟩
  refine ⟨by rw [he, hz], Or.inr ?_, h2, h3⟩
  rw [byteCells_app]
  exact h1
theorem string_w (B : Nat) (bs : List UInt8) (w : World) (h : isW B bs w) :
    Calls Tryz.prog 38 #[.pointer (some ⟨B, 0, none⟩)] w fun e w' => e = .returned (.string (ba bs)) ∧ Below B w w' := by
  have hlt := isW_lt h
  refine (Tryz.Builder_String_any B B bs w h (by omega)).mono ?_
  rintro e w' ⟨he, hb⟩
  exact ⟨he, hb⟩
end Go.Proofs.YtogobhpnlndcaaaGreat
