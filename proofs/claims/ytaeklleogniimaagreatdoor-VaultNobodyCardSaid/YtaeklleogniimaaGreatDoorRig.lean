/- A device and an ideal book side by side, and what a call that turns them leaves. No condition. -/
import Derived.Test.YtaeklleogniimaaGreatDoorRename
import Derived.Test.YtaeklleogniimaaGreatDoorRecord
namespace Go.Proofs.YtaeklleogniimaaGreatDoor
open Go Go.RowKit
set_option linter.unusedVariables false

theorem BookIs.lt {w : World} {k mb : Nat} {B : List ByteArray} (h : BookIs w k mb B) : k < w.heap.size ∧ mb < w.heap.size := by
  obtain ⟨D, h1, h2⟩ := h.own
  exact ⟨Blk.lt h.at_, World.ownsMap.lt h1⟩
theorem BookIs.touch {T : Nat → Prop} {w w' : World} {k mb : Nat} {B : List ByteArray} (h : BookIs w k mb B) (ht : Touch T w w') (hk : ¬ T k) (hm : ¬ T mb) : BookIs w' k mb B := by
  obtain ⟨D, h1, h2⟩ := h.own
  have hlt : mb < w.heap.size := World.ownsMap.lt h1
  obtain ⟨es, clock, k1, k2, k3, k4⟩ := h1
  exact ⟨Blk.touch h.at_ ht hk, D, ⟨es, clock, (ht.block mb hlt hm).trans k1, k2, k3, k4⟩, h2⟩
/-- the map's block is no block of cells -/
theorem BookIs.mb_ne {w : World} {k mb : Nat} {B : List ByteArray} (h : BookIs w k mb B) {g : Nat} {cs : List Value} {T : TypeId} (hb : Blk w g cs T) : g ≠ mb := by
  intro e
  subst e
  obtain ⟨D, ⟨es, clock, k1, _⟩, h2⟩ := h.own
  unfold Blk at hb
  rw [hb] at k1
  cases k1
/-- a block of cells of a type that a device has not is none of its -/
theorem foot_not {w : World} {b g : Nat} {S : DSt} {cs : List Value} {T : TypeId} (h : DiskAt w b S) (hb : Blk w g cs T) (hT : T ≠ 79 ∧ T ≠ 133 ∧ T ≠ 198 ∧ T ≠ 136 ∧ T ≠ 5) : ¬ foot b S g := by
  intro hf
  rcases hf with rfl | hk | hk | ⟨f, hf, rfl | hk | hk⟩
  · exact (h.blk.ne hb (fun e => hT.1 e.symm)) rfl
  · exact row_ne h.frow hb (fun e => hT.2.1 e.symm) hk
  · exact row_ne h.wrow hb (fun e => hT.2.2.1 e.symm) hk
  · exact ((h.fat f hf).blk.ne hb (fun e => hT.2.2.2.1 e.symm)) rfl
  · exact row_ne (h.fat f hf).last hb (fun e => hT.2.2.2.2 e.symm) hk
  · exact row_ne (h.fat f hf).seen hb (fun e => hT.2.2.2.2 e.symm) hk

structure Rg (w : World) (b k mb : Nat) (S : DSt) (B : List ByteArray) : Prop where
  dev : DiskAt w b S
  book : BookIs w k mb B
  ne : k ≠ mb
  nk : ¬ foot b S k
  nm : ¬ foot b S mb
/-- one step of the pair: what it is, what may have turned (X besides), where the device lies -/
structure RStep (X : Nat → Prop) (b k mb : Nat) (S : DSt) (B : List ByteArray) (w : World) (S' : DSt) (B' : List ByteArray) (w' : World) : Prop where
  at_ : Rg w' b k mb S' B'
  touch : Touch (fun j => foot b S j ∨ j = mb ∨ X j) w w'
  foot_ : ∀ j, foot b S' j → foot b S j ∨ w.heap.size ≤ j
theorem Rg.below {w w' : World} {b k mb : Nat} {S : DSt} {B : List ByteArray} (h : Rg w b k mb S B) (hb : Below w.heap.size w w') : Rg w' b k mb S B := ⟨h.dev.below hb, h.book.below hb, h.ne, h.nk, h.nm⟩
theorem RStep.refl {X : Nat → Prop} {w : World} {b k mb : Nat} {S : DSt} {B : List ByteArray} (h : Rg w b k mb S B) : RStep X b k mb S B w S B w := ⟨h, Touch.refl _ _, fun _ hk => Or.inl hk⟩
theorem RStep.trans {X : Nat → Prop} {b k mb : Nat} {S S1 S2 : DSt} {B B1 B2 : List ByteArray} {w w1 w2 : World} (h1 : RStep X b k mb S B w S1 B1 w1) (h2 : RStep X b k mb S1 B1 w1 S2 B2 w2) : RStep X b k mb S B w S2 B2 w2 :=
  ⟨h2.at_, ⟨h2.touch.os.trans h1.touch.os, h2.touch.tape.trans h1.touch.tape, h2.touch.output.trans h1.touch.output, Nat.le_trans h1.touch.size h2.touch.size, fun j hj hn => by
    rw [h2.touch.block j (Nat.lt_of_lt_of_le hj h1.touch.size) (fun hf => by
      rcases hf with hf | hf
      · rcases h1.foot_ j hf with h | h
        · exact hn (Or.inl h)
        · omega
      · exact hn (Or.inr hf))]
    exact h1.touch.block j hj hn⟩, fun j hj => by
    rcases h2.foot_ j hj with h | h
    · exact h1.foot_ j h
    · right; have := h1.touch.size; omega⟩
theorem RStep.mono {X Y : Nat → Prop} {b k mb : Nat} {S S1 : DSt} {B B1 : List ByteArray} {w w1 : World} (h : RStep X b k mb S B w S1 B1 w1) (hX : ∀ j, j < w.heap.size → X j → Y j) : RStep Y b k mb S B w S1 B1 w1 :=
  ⟨h.at_, h.touch.mono (fun j hl hj => hj.imp id (fun hj => hj.imp id (hX j hl))), h.foot_⟩
/-- blocks besides turned -/
theorem RStep.also {X : Nat → Prop} {b k mb : Nat} {S S1 : DSt} {B B1 : List ByteArray} {w w1 w2 : World} (h : RStep X b k mb S B w S1 B1 w1) {T : Nat → Prop} (ht : Touch T w1 w2) (hT : ∀ j, T j → X j ∨ w.heap.size ≤ j) (h1 : ∀ j, foot b S1 j → ¬ T j) (h2 : ¬ T k) (h3 : ¬ T mb) : RStep X b k mb S B w S1 B1 w2 :=
  ⟨⟨h.at_.dev.touch ht h1, h.at_.book.touch ht h2 h3, h.at_.ne, h.at_.nk, h.at_.nm⟩, ⟨ht.os.trans h.touch.os, ht.tape.trans h.touch.tape, ht.output.trans h.touch.output, Nat.le_trans h.touch.size ht.size, fun j hj hn => by
    rw [ht.block j (Nat.lt_of_lt_of_le hj h.touch.size) (fun hf => by
      rcases hT j hf with h5 | h5
      · exact hn (Or.inr (Or.inr h5))
      · omega)]
    exact h.touch.block j hj hn⟩, h.foot_⟩
theorem RStep.below {X : Nat → Prop} {b k mb : Nat} {S S1 : DSt} {B B1 : List ByteArray} {w w1 w2 : World} (h : RStep X b k mb S B w S1 B1 w1) (hb : Below w1.heap.size w1 w2) : RStep X b k mb S B w S1 B1 w2 :=
  h.trans ⟨h.at_.below hb, Touch.of_below hb, fun _ hk => Or.inl hk⟩
theorem RStep.after {X : Nat → Prop} {b k mb : Nat} {S S1 : DSt} {B B1 : List ByteArray} {w w1 w2 : World} (hb : Below w.heap.size w w1) (h : RStep X b k mb S B w1 S1 B1 w2) : RStep X b k mb S B w S1 B1 w2 :=
  ⟨h.at_, (Touch.of_below hb).trans h.touch, fun j hj => by
    rcases h.foot_ j hj with h1 | h1
    · exact Or.inl h1
    · right; have := hb.size; omega⟩
theorem RStep.size {X : Nat → Prop} {b k mb : Nat} {S S1 : DSt} {B B1 : List ByteArray} {w w1 : World} (h : RStep X b k mb S B w S1 B1 w1) : w.heap.size ≤ w1.heap.size := h.touch.size
theorem Rg.step {X : Nat → Prop} {w w' : World} {b k mb : Nat} {S S' : DSt} {B : List ByteArray} (h : Rg w b k mb S B) (hd : Dev b S w S' w') : RStep X b k mb S B w S' B w' := by
  have hl := h.book.lt
  refine ⟨⟨hd.at_, h.book.touch hd.touch h.nk h.nm, h.ne, fun hf => ?_, fun hf => ?_⟩, hd.touch.mono (fun j _ hj => Or.inl hj), hd.foot_⟩
  · rcases hd.foot_ k hf with h1 | h1
    · exact h.nk h1
    · omega
  · rcases hd.foot_ mb hf with h1 | h1
    · exact h.nm h1
    · omega
theorem Rg.mark {X : Nat → Prop} {w w' : World} {b k mb : Nat} {S : DSt} {B B' : List ByteArray} (h : Rg w b k mb S B) (hb : BookIs w' k mb B') (ht : Touch (fun j => j = mb) w w') : RStep X b k mb S B w S B' w' :=
  ⟨⟨h.dev.touch ht (fun j hj e => h.nm (e ▸ hj)), hb, h.ne, h.nk, h.nm⟩, ht.mono (fun j _ hj => Or.inr (Or.inl hj)), fun _ hk => Or.inl hk⟩
theorem RStep.blk {X : Nat → Prop} {b k mb : Nat} {S S1 : DSt} {B B1 : List ByteArray} {w w1 : World} (h : RStep X b k mb S B w S1 B1 w1) {g : Nat} {cs : List Value} {T : TypeId} (hb : Blk w g cs T) (h1 : ¬ foot b S g) (h2 : g ≠ mb) (h3 : ¬ X g) : Blk w1 g cs T :=
  hb.touch h.touch (fun hf => by
    rcases hf with hf | hf | hf
    · exact h1 hf
    · exact h2 hf
    · exact h3 hf)
theorem RStep.row {X : Nat → Prop} {b k mb : Nat} {S S1 : DSt} {B B1 : List ByteArray} {w w1 : World} (h : RStep X b k mb S B w S1 B1 w1) {base : Nat} {e : TypeId} {sz : Nat} {v : Value} {n : Nat} {xs : List Value} (hr : w.ownsRow base e sz v n xs) (hn : ∀ g, v.ownBlock = some g → ¬ foot b S g ∧ g ≠ mb ∧ ¬ X g) : w1.ownsRow base e sz v n xs :=
  row_touch hr h.touch (fun g hg hf => by
    obtain ⟨h1, h2, h3⟩ := hn g hg
    rcases hf with hf | hf | hf
    · exact h1 hf
    · exact h2 hf
    · exact h3 hf)
/-- a list of texts beside the pair stays -/
def Beside (b mb : Nat) (S : DSt) (X : Nat → Prop) (ad : Option Addr) : Prop := ∀ g off, ad = some ⟨g, off, none⟩ → ¬ foot b S g ∧ g ≠ mb ∧ ¬ X g
theorem RStep.strs {X : Nat → Prop} {b k mb : Nat} {S S1 : DSt} {B B1 : List ByteArray} {w w1 : World} (h : RStep X b k mb S B w S1 B1 w1) {ad : Option Addr} {ss : List ByteArray} (hs : StrsAt w ad ss) (hn : ss ≠ [] → Beside b mb S X ad) : StrsAt w1 ad ss := by
  rcases hs with hs | ⟨g, off, rfl, hl, hc⟩
  · exact Or.inl hs
  · by_cases he : ss = []
    · exact Or.inl he
    · obtain ⟨h1, h2, h3⟩ := hn he g off rfl
      refine Or.inr ⟨g, off, rfl, Nat.lt_of_lt_of_le hl h.size, fun i hi => ?_⟩
      rw [h.touch.cell (p := ⟨g, off + i, none⟩) hl (fun hf => by
        rcases hf with hf | hf | hf
        · exact h1 hf
        · exact h2 hf
        · exact h3 hf)]
      exact hc i hi
theorem RStep.beside {X Y : Nat → Prop} {b k mb : Nat} {S S1 : DSt} {B B1 : List ByteArray} {w w1 : World} (h : RStep X b k mb S B w S1 B1 w1) {ad : Option Addr} {ss : List ByteArray} (hs : StrsAt w ad ss) (hn : ss ≠ [] → Beside b mb S Y ad) : ss ≠ [] → Beside b mb S1 Y ad := by
  intro he g off hg
  obtain ⟨h1, h2, h3⟩ := hn he g off hg
  refine ⟨fun hf => ?_, h2, h3⟩
  rcases h.foot_ g hf with h4 | h4
  · exact h1 h4
  · rcases hs with hs | ⟨g', off', e, hl, _⟩
    · exact he hs
    · rw [hg] at e
      injection e with e
      injection e with e1 _ _
      omega
end Go.Proofs.YtaeklleogniimaaGreatDoor
