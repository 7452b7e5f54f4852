/- Both devices in play while the script runs: what each call leaves. Conditions: the sizes. -/
import Derived.Test.YtlmodbaeoheiiaaStands
import Derived.Test.YtlmodbaeoheiiaaOpenOps
import Derived.Test.YtlmodbaeoheiiaaAwake
namespace Go.Proofs.Ytlmodbaeoheiiaa
open Go.RowKit
set_option linter.unusedVariables false

structure Play (w0 : World) (b q n : Nat) (S : DSt) (R : RSt) (w : World) : Prop where
  duo : Duo w b q S R
  rel : Rel S.pl R.pl
  ok : OkP n S.pl
  bel : Below w0.heap.size w0 w
  fresh : ∀ k, dfoot b q S R k → w0.heap.size ≤ k
/-- a device that was copied from, beside the pair -/
structure Two (w0 : World) (b c q n m : Nat) (S S' : DSt) (R : RSt) (w : World) : Prop where
  old : DiskAt w b S
  ok : OkP m S.pl
  play : Play w0 c q n S' R w
  far : ∀ k, foot b S k → w0.heap.size ≤ k ∧ ¬ dfoot c q S' R k
theorem Play.of_step {w0 w w' : World} {b q n m : Nat} {S S' : DSt} {R R' : RSt} (h : Play w0 b q n S R w) (h2 : DStep b q S R w S' R' w') (hr : Rel S'.pl R'.pl) (hok : OkP m S'.pl) : Play w0 b q m S' R' w' :=
  ⟨h2.duo, hr, hok, h.bel.trans (h2.touch.below h.bel.size (fun k hk hs => by have := h.fresh k hs; omega)), fun k hk => by
    rcases h2.foot_ k hk with h3 | h3
    · exact h.fresh k h3
    · exact Nat.le_trans h.bel.size h3⟩
theorem Play.below {w0 w w' : World} {b q n : Nat} {S : DSt} {R : RSt} (h : Play w0 b q n S R w) (hb : Below w.heap.size w w') : Play w0 b q n S R w' :=
  h.of_step ((DStep.refl h.duo).below hb) h.rel h.ok
theorem Play.step {w0 w : World} {b q n : Nat} {S : DSt} {R : RSt} {x : OpR} {xa : Option Addr} {xc : Nat} (h : Play w0 b q n S R w) (hn : n ≤ 900000) (hwf : OpWf x.kind x.at_ x.n x.name x.to_ x.text) (hx : IntsAt .i64 w0 xa x.fates) (hl : x.fates.length ≤ maxLen) :
    Calls Try.prog 26 #[.pointer (some ⟨b, 0, none⟩), .pointer (some ⟨q, 0, none⟩), .agg #[.int .i64 x.kind, .int .i64 x.at_, .int .i64 x.n, .string x.name, .string x.to_, .string x.text, .slice xa x.fates.length xc]] w fun e w' => e = .returned (.bool true) ∧ ∃ S' R', Play w0 b q (n + 701) S' R' w' := by
  refine (step_any b q n S R x.kind x.at_ x.n x.name x.to_ x.text xa x.fates xc w h.duo h.rel h.ok hn hwf (intsAt_below hx h.bel) (fun g off hl0 e hf => by
    rcases hx with hx | ⟨b', off', h1, h2, _⟩
    · exact hl0 hx
    · rw [h1] at e
      injection e with e
      injection e with e1 _ _
      have := h.fresh g hf
      omega) hl).mono ?_
  rintro e w' ⟨rfl, S', R', hD, hr, hok⟩
  exact ⟨rfl, S', R', h.of_step hD hr hok⟩
theorem Play.mono {w0 w : World} {b q n m : Nat} {S : DSt} {R : RSt} (h : Play w0 b q n S R w) (hm : n ≤ m) : Play w0 b q m S R w := ⟨h.duo, h.rel, h.ok.mono hm, h.bel, h.fresh⟩
def OpCells (w : World) (b o : Nat) (x : OpR) (xa : Option Addr) (xc : Nat) : Prop :=
  w.cell? ⟨b, o, none⟩ = some (.int .i64 x.kind) ∧ w.cell? ⟨b, o + 1, none⟩ = some (.int .i64 x.at_) ∧ w.cell? ⟨b, o + 2, none⟩ = some (.int .i64 x.n) ∧ w.cell? ⟨b, o + 3, none⟩ = some (.string x.name) ∧ w.cell? ⟨b, o + 4, none⟩ = some (.string x.to_) ∧ w.cell? ⟨b, o + 5, none⟩ = some (.string x.text) ∧ w.cell? ⟨b, o + 6, none⟩ = some (.slice xa x.fates.length xc) ∧ b < w.heap.size
theorem opAt_cells {w : World} {b o : Nat} {x : OpR} (h : OpAt w b o x) (hb : b < w.heap.size) : ∃ xa xc, (∀ w', Below w.heap.size w w' → OpCells w' b o x xa xc) ∧ IntsAt .i64 w xa x.fates ∧ x.fates.length ≤ maxLen ∧ OpWf x.kind x.at_ x.n x.name x.to_ x.text := by
  obtain ⟨h0, h1, h2, h3, h4, h5, ⟨fa, fc, h6, h7, h8⟩, k1, k2, k3, k4, k5, _⟩ := h
  refine ⟨fa, fc, fun w' hB => ?_, h7, h8, ⟨k1, k2, k3, k4, k5⟩⟩
  have e : ∀ j, w'.cell? ⟨b, j, none⟩ = w.cell? ⟨b, j, none⟩ := fun j => hB.cell (p := ⟨b, j, none⟩) hb
  exact ⟨by rw [e]; exact h0, by rw [e]; exact h1, by rw [e]; exact h2, by rw [e]; exact h3, by rw [e]; exact h4, by rw [e]; exact h5, by rw [e]; exact h6, Nat.lt_of_lt_of_le hb hB.size⟩
theorem Play.stands {w0 w : World} {b q n : Nat} {S : DSt} {R : RSt} (h : Play w0 b q n S R w) (hn : n ≤ 900000) :
    Calls Try.prog 27 #[.pointer (some ⟨b, 0, none⟩), .pointer (some ⟨q, 0, none⟩)] w fun e w' => e = .returned (.bool true) ∧ Below w0.heap.size w0 w' := by
  refine (stands_any b q n S R w h.duo h.rel h.ok hn).mono ?_
  rintro e w' ⟨rfl, S', R', hD⟩
  exact ⟨rfl, h.bel.trans (hD.touch.below h.bel.size (fun k hk hs => by have := h.fresh k hs; omega))⟩
theorem Play.copy {w0 w : World} {b q n : Nat} {S : DSt} {R : RSt} (h : Play w0 b q n S R w) (hn : n ≤ 900000) :
    Calls Try.prog 25 #[.pointer (some ⟨b, 0, none⟩)] w fun e w' => ∃ c S', e = .returned (.pointer (some ⟨c, 0, none⟩)) ∧ Two w0 b c q n n S S' R w' := by
  have hq := h.ok.ready (show n ≤ 1000000 by omega)
  refine (copy_any b S w h.duo.disk hq.2.1 hq.2.2.1 hq.2.2.2.2.1).mono ?_
  rintro e w' ⟨c, S', rfl, ⟨hO, hF⟩, hp, hB⟩
  have hs := h.bel.size
  have hd : ∀ k, dfoot c q S' R k → w.heap.size ≤ k ∨ rfoot q R k := fun k hk => hk.elim (fun h1 => Or.inl (hF k h1)) Or.inr
  refine ⟨c, S', rfl, h.duo.disk.below hB, h.ok, ⟨⟨hO, h.duo.ref.below hB, fun k h1 h2 => by have := hF k h1; have := rfoot_lt h.duo.ref h2; omega⟩, by rw [hp]; exact h.rel, by rw [hp]; exact h.ok, h.bel.trans (hB.mono hs), fun k hk => ?_⟩, fun k hk => ⟨h.fresh k (Or.inl hk), fun h1 => ?_⟩⟩
  · rcases hd k hk with h1 | h1
    · omega
    · exact h.fresh k (Or.inr h1)
  · rcases hd k h1 with h2 | h2
    · have := foot_lt h.duo.disk hk; omega
    · exact h.duo.apart k hk h2
theorem Two.dev {w0 w w' : World} {b c q n m m' : Nat} {S S' S1 : DSt} {R : RSt} (h : Two w0 b c q n m S S' R w) (hd : Dev b S w S1 w') (hok : OkP m' S1.pl) : Two w0 b c q n m' S1 S' R w' :=
  ⟨hd.at_, hok, ⟨⟨h.play.duo.disk.touch hd.touch (fun k h1 h2 => (h.far k h2).2 (Or.inl h1)), h.play.duo.ref.away hd.touch (fun k h1 h2 => (h.far k h2).2 (Or.inr h1)), h.play.duo.apart⟩, h.play.rel, h.play.ok, h.play.bel.trans (hd.touch.below h.play.bel.size (fun k hk hs => by have := (h.far k hs).1; omega)), h.play.fresh⟩, fun k hk => by
    rcases hd.foot_ k hk with h1 | h1
    · exact h.far k h1
    · exact ⟨Nat.le_trans h.play.bel.size h1, fun h2 => by have := h.play.duo.lt h2; omega⟩⟩
theorem Two.create {w0 w : World} {b c q n m : Nat} {S S' : DSt} {R : RSt} (h : Two w0 b c q n m S S' R w) (hm : m ≤ 900000) :
    Calls Try.prog 13 #[.pointer (some ⟨b, 0, none⟩), .string ⟨#[111, 118, 101, 114]⟩] w fun e w' => ∃ v, e = .returned (.int .i64 v) ∧ ∃ S1, Two w0 b c q n (m + 1) S1 S' R w' := by
  refine (create_any b m S ⟨#[111, 118, 101, 114]⟩ w h.old h.ok (by omega)).mono ?_
  rintro e w' ⟨rfl, S1, hD, hp⟩
  exact ⟨_, rfl, S1, h.dev hD (by rw [hp]; exact h.ok.create _)⟩
theorem Two.write {w0 w : World} {b c q n m : Nat} {S S' : DSt} {R : RSt} (h : Two w0 b c q n m S S' R w) (hm : m ≤ 900000) :
    Calls Try.prog 14 #[.pointer (some ⟨b, 0, none⟩), .string ⟨#[111, 118, 101, 114]⟩, .int .i64 0, .string ⟨#[111, 118, 101, 114]⟩] w fun e w' => ∃ v, e = .returned (.int .i64 v) ∧ ∃ S1, Two w0 b c q n (m + 4) S1 S' R w' := by
  refine (write_any b S ⟨#[111, 118, 101, 114]⟩ 0 ⟨#[111, 118, 101, 114]⟩ w h.old (h.ok.ready (by omega)) (by decide) (by unfold maxLen; decide)).mono ?_
  rintro e w' ⟨rfl, S1, hD, hp⟩
  refine ⟨_, rfl, S1, h.dev hD ?_⟩
  rw [hp]
  exact (h.ok.write ⟨#[111, 118, 101, 114]⟩ 0 ⟨#[111, 118, 101, 114]⟩).mono (Nat.le_refl (m + 4))
theorem Two.crash {w0 w w1 : World} {b c q n m : Nat} {S S' : DSt} {R : RSt} (h : Two w0 b c q n m S S' R w) (hm : m ≤ 900000) (hw1 : w1 = w.alloc (.cells #[.int .i64 1, .int .i64 1, .int .i64 1] 3)) :
    Calls Try.prog 15 #[.pointer (some ⟨b, 0, none⟩), .slice (some ⟨w.heap.size, 0, none⟩) 3 3] w1 fun e w' => e = .returned (.tuple #[]) ∧ ∃ S1, Two w0 b c q n m S1 S' R w' := by
  subst hw1
  have hB := (Below.refl w.heap.size w).alloc (Nat.le_refl _) (.cells #[.int .i64 1, .int .i64 1, .int .i64 1] 3)
  have hblk := Blk.new w [.int .i64 1, .int .i64 1, .int .i64 1] 3
  have hT := h.dev ((Dev.refl h.old).below hB) h.ok
  refine (crash_dev b m S (some ⟨w.heap.size, 0, none⟩) 3 [1, 1, 1] _ hT.old h.ok (by omega) (Or.inr ⟨w.heap.size, 0, rfl, hblk.lt, fun i hi => ?_⟩) (fun g off _ e hf => ?_) (by decide)).mono ?_
  · match i, hi with
    | 0, _ => exact hblk.cell 0
    | 1, _ => exact hblk.cell 1
    | 2, _ => exact hblk.cell 2
  · injection e with e
    injection e with e1 _ _
    have := foot_lt h.old hf
    omega
  · rintro e w' ⟨rfl, S1, hD, hp⟩
    exact ⟨rfl, S1, hT.dev hD (by rw [hp]; exact h.ok.crash _)⟩
theorem new_duo (n : Int) (w w1 w2 : World) (b q : Nat) (hn : 0 ≤ n ∧ n ≤ 32768) (hB : Below w.heap.size w w1) (hb : b = w.heap.size) (h : DiskAt w1 b ⟨.slice none 0 0, .slice none 0 0, [], [], n, -1, false, 0, 0⟩) (hq : q = w1.heap.size) (hw2 : w2 = w1.alloc (.cells #[.slice none 0 0, .slice none 0 0, .int .i64 n, .int .i64 (-1), .bool false, .int .i64 0, .int .i64 0] 52)) :
    ∃ S R, Play w b q 0 S R w2 := by
  subst hw2
  have hs := hB.size
  refine ⟨⟨.slice none 0 0, .slice none 0 0, [], [], n, -1, false, 0, 0⟩, ⟨.slice none 0 0, .slice none 0 0, [], [], n, -1, false, 0, 0⟩, ⟨h.alloc _, ⟨?_, World.ownsRow_nil _ _ _ _, World.ownsRow_nil _ _ _ _⟩, ?_⟩, ⟨List.Perm.refl _, rfl, rfl, rfl, rfl, rfl, rfl⟩, ⟨List.Pairwise.nil, Nat.le_refl _, Nat.le_refl _, ⟨Int.le_refl _, Int.le_refl _⟩, ⟨Int.le_refl _, Int.le_refl _⟩, hn, by show (-1 : Int) ≤ _; omega, fun f hf => (by cases hf), fun p hp => (by cases hp)⟩, hB.alloc hs _, ?_⟩
  · subst hq; exact Blk.new w1 _ _
  · intro k hk hr
    rcases hk with hk | hk | hk | ⟨f, hf, _⟩
    · rcases hr with hr | hr | hr
      · have := h.blk.lt; omega
      · cases hr
      · cases hr
    · cases hk
    · cases hk
    · cases hf
  · intro k hk
    rcases hk with (hk | hk | hk | ⟨f, hf, _⟩) | hk | hk | hk
    · omega
    · cases hk
    · cases hk
    · cases hf
    · omega
    · cases hk
    · cases hk
end Go.Proofs.Ytlmodbaeoheiiaa
