/- Two pairs of devices in play, apart from each other. Conditions: the sizes. -/
import Derived.Test.YtlmodbaeoheiiaaPlay
import Derived.Test.YtlmodbaeoheiiaaRefCopy
namespace Go.Proofs.Ytlmodbaeoheiiaa
open Go.RowKit
set_option linter.unusedVariables false

structure Twin (w0 : World) (b q c p n : Nat) (S : DSt) (R : RSt) (S2 : DSt) (R2 : RSt) (w : World) : Prop where
  one : Play w0 b q n S R w
  two : Play w0 c p n S2 R2 w
  far : ∀ k, dfoot b q S R k → ¬ dfoot c p S2 R2 k
theorem Twin.swap {w0 w : World} {b q c p n : Nat} {S S2 : DSt} {R R2 : RSt} (h : Twin w0 b q c p n S R S2 R2 w) : Twin w0 c p b q n S2 R2 S R w := ⟨h.two, h.one, fun k h1 h2 => h.far k h2 h1⟩
theorem Twin.mono {w0 w : World} {b q c p n m : Nat} {S S2 : DSt} {R R2 : RSt} (h : Twin w0 b q c p n S R S2 R2 w) (hm : n ≤ m) : Twin w0 b q c p m S R S2 R2 w := ⟨h.one.mono hm, h.two.mono hm, h.far⟩
theorem Twin.other {w0 w w' : World} {b q c p n : Nat} {S S' S2 : DSt} {R R' R2 : RSt} (h : Twin w0 b q c p n S R S2 R2 w) (hD : DStep b q S R w S' R' w') : Play w0 c p n S2 R2 w' :=
  ⟨⟨h.two.duo.disk.touch hD.touch (fun k h1 h2 => h.far k h2 (Or.inl h1)), h.two.duo.ref.away hD.touch (fun k h1 h2 => h.far k h2 (Or.inr h1)), h.two.duo.apart⟩, h.two.rel, h.two.ok, h.one.bel.trans (hD.touch.below h.one.bel.size (fun k hk hs => by have := h.one.fresh k hs; omega)), h.two.fresh⟩
theorem Twin.step {w0 w : World} {b q c p n : Nat} {S S2 : DSt} {R R2 : RSt} {x : OpR} {xa : Option Addr} {xc : Nat} (h : Twin w0 b q c p n S R S2 R2 w) (hn : n ≤ 900000) (hwf : OpWf x.kind x.at_ x.n x.name x.to_ x.text) (hx : IntsAt .i64 w0 xa x.fates) (hl : x.fates.length ≤ maxLen) :
    Calls Try.prog 26 #[.pointer (some ⟨b, 0, none⟩), .pointer (some ⟨q, 0, none⟩), .agg #[.int .i64 x.kind, .int .i64 x.at_, .int .i64 x.n, .string x.name, .string x.to_, .string x.text, .slice xa x.fates.length xc]] w fun e w' => e = .returned (.bool true) ∧ ∃ S' R', Twin w0 b q c p (n + 701) S' R' S2 R2 w' := by
  refine (step_any b q n S R x.kind x.at_ x.n x.name x.to_ x.text xa x.fates xc w h.one.duo h.one.rel h.one.ok hn hwf (intsAt_below hx h.one.bel) (fun g off hl0 e hf => by
    rcases hx with hx | ⟨b', off', h1, h2, _⟩
    · exact hl0 hx
    · rw [h1] at e
      injection e with e
      injection e with e1 _ _
      have := h.one.fresh g hf
      omega) hl).mono ?_
  rintro e w' ⟨rfl, S', R', hD, hr, hok⟩
  exact ⟨rfl, S', R', h.one.of_step hD hr hok, (h.other hD).mono (by omega), fun k h1 h2 => by
    rcases hD.foot_ k h1 with h3 | h3
    · exact h.far k h3 h2
    · have := h.two.duo.lt h2; omega⟩
theorem Twin.step2 {w0 w : World} {b q c p n : Nat} {S S2 : DSt} {R R2 : RSt} {x : OpR} {xa : Option Addr} {xc : Nat} (h : Twin w0 b q c p n S R S2 R2 w) (hn : n ≤ 900000) (hwf : OpWf x.kind x.at_ x.n x.name x.to_ x.text) (hx : IntsAt .i64 w0 xa x.fates) (hl : x.fates.length ≤ maxLen) :
    Calls Try.prog 26 #[.pointer (some ⟨c, 0, none⟩), .pointer (some ⟨p, 0, none⟩), .agg #[.int .i64 x.kind, .int .i64 x.at_, .int .i64 x.n, .string x.name, .string x.to_, .string x.text, .slice xa x.fates.length xc]] w fun e w' => e = .returned (.bool true) ∧ ∃ S' R', Twin w0 b q c p (n + 701) S R S' R' w' := by
  refine (h.swap.step (xc := xc) hn hwf hx hl).mono ?_
  rintro e w' ⟨rfl, S', R', hT⟩
  exact ⟨rfl, S', R', hT.swap⟩
theorem Twin.stands {w0 w : World} {b q c p n : Nat} {S S2 : DSt} {R R2 : RSt} (h : Twin w0 b q c p n S R S2 R2 w) (hn : n ≤ 900000) :
    Calls Try.prog 27 #[.pointer (some ⟨b, 0, none⟩), .pointer (some ⟨q, 0, none⟩)] w fun e w' => e = .returned (.bool true) ∧ Play w0 c p n S2 R2 w' := by
  refine (stands_any b q n S R w h.one.duo h.one.rel h.one.ok hn).mono ?_
  rintro e w' ⟨rfl, S', R', hD⟩
  exact ⟨rfl, h.other hD⟩
/-- a pair, and the device's copy -/
structure Half (w0 : World) (b q c n : Nat) (S : DSt) (R : RSt) (S2 : DSt) (w : World) : Prop where
  one : Play w0 b q n S R w
  cop : DiskAt w c S2
  eq : S2.pl = S.pl
  far : ∀ k, foot c S2 k → w0.heap.size ≤ k ∧ ¬ dfoot b q S R k
theorem Play.half {w0 w : World} {b q n : Nat} {S : DSt} {R : RSt} (h : Play w0 b q n S R w) (hn : n ≤ 900000) :
    Calls Try.prog 25 #[.pointer (some ⟨b, 0, none⟩)] w fun e w' => ∃ c S2, e = .returned (.pointer (some ⟨c, 0, none⟩)) ∧ Half w0 b q c n S R S2 w' := by
  have hq := h.ok.ready (show n ≤ 1000000 by omega)
  refine (copy_any b S w h.duo.disk hq.2.1 hq.2.2.1 hq.2.2.2.2.1).mono ?_
  rintro e w' ⟨c, S', rfl, ⟨hO, hF⟩, hp, hB⟩
  exact ⟨c, S', rfl, h.below hB, hO, hp, fun k hk => ⟨Nat.le_trans h.bel.size (hF k hk), fun h1 => by have := h.duo.lt h1; have := hF k hk; omega⟩⟩
theorem Half.copy {w0 w : World} {b q c n : Nat} {S S2 : DSt} {R : RSt} (h : Half w0 b q c n S R S2 w) (hn : n ≤ 900000) :
    Calls Try.prog 28 #[.pointer (some ⟨q, 0, none⟩)] w fun e w' => ∃ p R2, e = .returned (.pointer (some ⟨p, 0, none⟩)) ∧ Twin w0 b q c p n S R S2 R2 w' := by
  have hq := h.one.rel.ok h.one.ok (show n ≤ 1000000 by omega)
  refine (refCopy_any q R w h.one.duo.ref hq.flen hq.wlen).mono ?_
  rintro e w' ⟨p, R2, rfl, ⟨hO, hF⟩, hp, hB⟩
  have h1 := h.one.below hB
  refine ⟨p, R2, rfl, h1, ⟨⟨h.cop.below hB, hO, fun k h2 h3 => by have := foot_lt h.cop h2; have := hF k h3; omega⟩, by rw [h.eq, hp]; exact h.one.rel, by rw [h.eq]; exact h.one.ok, h1.bel, fun k hk => ?_⟩, fun k h2 h3 => ?_⟩
  · rcases hk with hk | hk
    · exact (h.far k hk).1
    · exact Nat.le_trans h.one.bel.size (hF k hk)
  · rcases h3 with h3 | h3
    · exact (h.far k h3).2 h2
    · have := h.one.duo.lt h2; have := hF k h3; omega
end Go.Proofs.Ytlmodbaeoheiiaa
