/- A device that a call made and holds alone: its calls by plain functions; the statements' example. Conditions: sizes. -/
import Derived.Test.YtaeklleogniimaaGreatDoorOkP
namespace Go.Proofs.YtaeklleogniimaaGreatDoor
open Go.RowKit
set_option linter.unusedVariables false

/-- from block B on a device stands that is P; below B nothing has turned -/
def Live (B : Nat) (w0 : World) (b n : Nat) (P : PS) (w : World) : Prop := ∃ S, S.pl = P ∧ DiskAt w b S ∧ OkP n P ∧ Below B w0 w ∧ B ≤ w.heap.size ∧ ∀ k, foot b S k → B ≤ k
theorem Live.step {B : Nat} {w0 w w' : World} {b m : Nat} {P' : PS} {S S' : DSt} (hB : Below B w0 w) (hz : B ≤ w.heap.size) (hf : ∀ k, foot b S k → B ≤ k) (hD : Dev b S w S' w') (hpl : S'.pl = P') (hok : OkP m P') : Live B w0 b m P' w' :=
  ⟨S', hpl, hD.at_, hok, hB.trans (hD.touch.below hz (fun k hk h => by have := hf k h; omega)), Nat.le_trans hz hD.touch.size, fun k hk => by
    rcases hD.foot_ k hk with h | h
    · exact hf k h
    · omega⟩
theorem Live.below {B : Nat} {w0 w w1 : World} {b n : Nat} {P : PS} (h : Live B w0 b n P w) (hb : Below w.heap.size w w1) : Live B w0 b n P w1 := by
  obtain ⟨S, h1, h2, h3, h4, h5, h6⟩ := h
  exact ⟨S, h1, h2.below hb, h3, h4.trans (hb.mono h5), Nat.le_trans h5 hb.size, h6⟩
theorem Live.bel {B : Nat} {w0 w : World} {b n : Nat} {P : PS} (h : Live B w0 b n P w) : Below B w0 w := by
  obtain ⟨S, h1, h2, h3, h4, h5, h6⟩ := h
  exact h4
def newP (n : Int) : PS := ⟨[], [], n, -1, false, 0, 0⟩
theorem new_live (n : Int) (w : World) (h : 0 ≤ n ∧ n ≤ 32768) :
    Calls Tryz.prog 9 #[.int .i64 n] w fun e w' => ∃ b, e = .returned (.tuple #[.pointer (some ⟨b, 0, none⟩), .int .i64 0]) ∧ Live w.heap.size w b 0 (newP n) w' := by
  refine (newDisk_any n w h).mono ?_
  rintro e w' ⟨b, rfl, rfl, hD, hB⟩
  refine ⟨_, rfl, _, rfl, hD, ⟨List.Pairwise.nil, Nat.le_refl _, Nat.le_refl _, ⟨Int.le_refl _, Int.le_refl _⟩, ⟨Int.le_refl _, Int.le_refl _⟩, h, by show (-1 : Int) ≤ _; omega, fun f hf => (by cases hf), fun p hp => (by cases hp)⟩, hB, hB.size, ?_⟩
  intro k hk
  rcases hk with rfl | hk | hk | ⟨f, hf, _⟩
  · exact Nat.le_refl _
  · cases hk
  · cases hk
  · cases hf
theorem create_live {B : Nat} {w0 w : World} {b n : Nat} {P : PS} (h : Live B w0 b n P w) (hn : n ≤ 1000000000) (s : ByteArray) :
    Calls Tryz.prog 142 #[.pointer (some ⟨b, 0, none⟩), .string s] w fun e w' => e = .returned (.int .i64 (P.create s).1) ∧ Live B w0 b (n + 1) (P.create s).2 w' := by
  obtain ⟨S, rfl, h2, h3, h4, h5, h6⟩ := h
  refine (create_any b n S s w h2 h3 hn).mono ?_
  rintro e w' ⟨rfl, S', hD, hpl⟩
  exact ⟨rfl, Live.step h4 h5 h6 hD hpl (h3.create s)⟩
theorem write_live {B : Nat} {w0 w : World} {b n : Nat} {P : PS} (h : Live B w0 b n P w) (hn : n ≤ 1000000000) (s : ByteArray) (a : Int) (t : ByteArray) (ha : (Lit.int .i64 a).wf = true) (ht : t.size ≤ maxLen) :
    Calls Tryz.prog 150 #[.pointer (some ⟨b, 0, none⟩), .string s, .int .i64 a, .string t] w fun e w' => e = .returned (.int .i64 (P.write s a t).1) ∧ Live B w0 b (n + t.size) (P.write s a t).2 w' := by
  obtain ⟨S, rfl, h2, h3, h4, h5, h6⟩ := h
  refine (write_any b S s a t w h2 (h3.ready hn) ha ht).mono ?_
  rintro e w' ⟨rfl, S', hD, hpl⟩
  exact ⟨rfl, Live.step h4 h5 h6 hD hpl (h3.write s a t)⟩
theorem arm_live {B : Nat} {w0 w : World} {b n : Nat} {P : PS} (h : Live B w0 b n P w) (k : Int) (hk : k ≤ 9223372036854775807) :
    Calls Tryz.prog 67 #[.pointer (some ⟨b, 0, none⟩), .int .i64 k] w fun e w' => e = .returned (.int .i64 (P.arm k).1) ∧ Live B w0 b n (P.arm k).2 w' := by
  obtain ⟨S, rfl, h2, h3, h4, h5, h6⟩ := h
  have hok := h3.arm k hk
  cases ho : S.off with
  | true =>
    have e0 : S.pl.arm k = (14, S.pl) := if_pos ho
    rw [e0] at hok ⊢
    refine (arm_off b S k w h2 ho).mono ?_
    rintro e w' ⟨rfl, rfl⟩
    exact ⟨rfl, S, rfl, h2, h3, h4, h5, h6⟩
  | false =>
    have hno : ¬ (S.pl.off = true) := by show ¬ (S.off = true); rw [ho]; decide
    by_cases hk0 : k < 0
    · have e0 : S.pl.arm k = (1, S.pl) := by unfold PS.arm; rw [if_neg hno, if_pos hk0]
      rw [e0] at hok ⊢
      refine (arm_low b S k w h2 ho hk0).mono ?_
      rintro e w' ⟨rfl, rfl⟩
      exact ⟨rfl, S, rfl, h2, h3, h4, h5, h6⟩
    · have e0 : S.pl.arm k = (0, { S.pl with fuse := k }) := by unfold PS.arm; rw [if_neg hno, if_neg hk0]
      rw [e0] at hok ⊢
      refine (arm_ok b S k w h2 ho (by omega)).mono ?_
      rintro e w' ⟨rfl, hD⟩
      exact ⟨rfl, Live.step h4 h5 h6 hD rfl hok⟩
def PS.syncR (P : PS) : Int × PS := if P.off then (14, P) else (0, P.sync)
theorem sync_live {B : Nat} {w0 w : World} {b n : Nat} {P : PS} (h : Live B w0 b n P w) (hn : n ≤ 1000000000) :
    Calls Tryz.prog 145 #[.pointer (some ⟨b, 0, none⟩)] w fun e w' => e = .returned (.int .i64 P.syncR.1) ∧ Live B w0 b n P.syncR.2 w' := by
  obtain ⟨S, rfl, h2, h3, h4, h5, h6⟩ := h
  cases ho : S.off with
  | true =>
    have e0 : S.pl.syncR = (14, S.pl) := if_pos ho
    rw [e0]
    refine (sync_off b S w h2 ho).mono ?_
    rintro e w' ⟨rfl, rfl⟩
    exact ⟨rfl, S, rfl, h2, h3, h4, h5, h6⟩
  | false =>
    have hno : ¬ (S.pl.off = true) := by show ¬ (S.off = true); rw [ho]; decide
    have e0 : S.pl.syncR = (0, S.pl.sync) := if_neg hno
    rw [e0]
    obtain ⟨_, hl, hsm, _, hwl, _⟩ := h3.ready hn
    refine (sync_ok b S w h2 ho hl hsm h3.wait hwl).mono ?_
    rintro e w' ⟨rfl, fs, hD, hpl⟩
    refine ⟨rfl, Live.step h4 h5 h6 hD ?_ h3.sync⟩
    show (PS.mk (fs.map DFile.pl) _ _ _ _ _ _) = _
    rw [hpl]
    rfl
/-- a block of numbers is none of a device's -/
theorem foot_int {w : World} {b g : Nat} {S : DSt} {cs : List Value} (h : DiskAt w b S) (hb : Blk w g cs 3) : ¬ foot b S g := by
  intro hf
  rcases hf with rfl | hk | hk | ⟨f, hf, rfl | hk | hk⟩
  · exact (h.blk.ne hb (by decide)) rfl
  · exact row_ne h.frow hb (by decide) hk
  · exact row_ne h.wrow hb (by decide) hk
  · exact ((h.fat f hf).blk.ne hb (by decide)) rfl
  · exact row_ne (h.fat f hf).last hb (by decide) hk
  · exact row_ne (h.fat f hf).seen hb (by decide) hk
theorem crash_live {B : Nat} {w0 w : World} {b n : Nat} {P : PS} (h : Live B w0 b n P w) (hn : n ≤ 1000000000) (fa : Option Addr) (fc : Nat) (l : List Int) (hfa : IntsAt .i64 w fa l) (hfo : ∀ g off, l ≠ [] → fa = some ⟨g, off, none⟩ → g < B ∨ ∃ cs, Blk w g cs 3) (hll : l.length ≤ 9223372036854775807) :
    Calls Tryz.prog 66 #[.pointer (some ⟨b, 0, none⟩), .slice fa l.length fc] w fun e w' => e = .returned (.tuple #[]) ∧ Live B w0 b n (P.crash l) w' := by
  obtain ⟨S, rfl, h2, h3, h4, h5, h6⟩ := h
  obtain ⟨_, hl, hsm, _, hwl, _⟩ := h3.ready hn
  refine (crash_any b S fa fc l w h2 hl hsm h3.wait hwl hfa (fun g off hl0 e => by
    rcases hfo g off hl0 e with h | ⟨cs, h⟩
    · intro hf; have := h6 g hf; omega
    · exact foot_int h2 h) hll).mono ?_
  rintro e w' ⟨rfl, fs, hD, hpl⟩
  refine ⟨rfl, Live.step h4 h5 h6 hD ?_ (h3.crash l)⟩
  show (PS.mk (fs.map DFile.pl) _ _ _ _ _ _) = _
  rw [hpl]
  rfl
def seenAt (P : PS) (i : Nat) : List UInt8 := (P.files[i]?.map PF.seen).getD []
def PS.read (P : PS) (s : ByteArray) (p k : Int) : ByteArray × Int := if P.off then (⟨#[]⟩, 14) else match findI P.files s with
  | none => (⟨#[]⟩, 8)
  | some i => if p < 0 ∨ k < 0 then (⟨#[]⟩, 2) else (textOf (((seenAt P i).drop p.toNat).take k.toNat), 0)
theorem seenAt_pl {S : DSt} {i : Nat} (hi : i < S.files.length) : seenAt S.pl i = S.files[i].seen := by
  unfold seenAt
  rw [pl_files, List.getElem?_map, List.getElem?_eq_getElem hi]
  rfl
theorem read_pl (S : DSt) (s : ByteArray) (p k : Int) (hor : Ordered S.files) : readVal S s p k = Value.tuple #[.string (S.pl.read s p k).1, .int .i64 (S.pl.read s p k).2] := by
  unfold readVal PS.read
  cases ho : S.off with
  | true => rw [if_pos rfl, if_pos (show S.pl.off = true from ho)]
  | false =>
    have hno : ¬ (S.pl.off = true) := by show ¬ (S.off = true); rw [ho]; decide
    rw [if_neg (by decide), if_neg hno]
    rcases find_both hor s with ⟨h1, h2⟩ | ⟨i, hi, h1, h2, h3⟩
    · rw [pl_files, h1, h2]
    · rw [pl_files, h1, h2]
      show (if _ then _ else _) = Value.tuple #[.string (if p < 0 ∨ k < 0 then _ else _ : ByteArray × Int).1, .int .i64 (if p < 0 ∨ k < 0 then _ else _ : ByteArray × Int).2]
      by_cases hpk : p < 0 ∨ k < 0
      · rw [if_pos hpk, if_pos hpk]
      · rw [if_neg hpk, if_neg hpk, seenAt_pl hi]
theorem read_live {B : Nat} {w0 w : World} {b n : Nat} {P : PS} (h : Live B w0 b n P w) (hn : n ≤ 1000000000) (s : ByteArray) (p k : Int) (hp : p ≤ 9223372036854775807) (hk : k ≤ 9223372036854775807) :
    Calls Tryz.prog 147 #[.pointer (some ⟨b, 0, none⟩), .string s, .int .i64 p, .int .i64 k] w fun e w' => e = .returned (.tuple #[.string (P.read s p k).1, .int .i64 (P.read s p k).2]) ∧ Live B w0 b n P w' := by
  have hL := h
  obtain ⟨S, rfl, h2, h3, h4, h5, h6⟩ := h
  obtain ⟨hor, hl, hsm, _⟩ := h3.ready hn
  rw [← read_pl S s p k hor]
  refine (read_any b S s p k w h2 hor hl (fun f hf => (hsm f hf).1) hp hk).mono ?_
  rintro e w' ⟨rfl, q, rfl⟩
  exact ⟨rfl, hL.below (below_drewN (Below.refl _ _) q)⟩
theorem size_live {B : Nat} {w0 w : World} {b n : Nat} {P : PS} (h : Live B w0 b n P w) (hn : n ≤ 1000000000) (s : ByteArray) :
    Calls Tryz.prog 146 #[.pointer (some ⟨b, 0, none⟩), .string s] w fun e w' => e = .returned (.tuple #[.int .i64 (P.size s).1, .int .i64 (P.size s).2]) ∧ w = w' := by
  obtain ⟨S, rfl, h2, h3, h4, h5, h6⟩ := h
  obtain ⟨hor, hl, hsm, _⟩ := h3.ready hn
  exact size_any2 b S s w h2 hor hl
theorem up_live {B : Nat} {w0 w : World} {b n : Nat} {P : PS} (h : Live B w0 b n P w) :
    Calls Tryz.prog 97 #[.pointer (some ⟨b, 0, none⟩)] w fun e w' => e = .returned (.bool (!P.off)) ∧ w = w' := by
  obtain ⟨S, rfl, h2, h3, h4, h5, h6⟩ := h
  exact up_any b S w h2
theorem free_live {B : Nat} {w0 w : World} {b n : Nat} {P : PS} (h : Live B w0 b n P w) (hn : n ≤ 1000000000) :
    Calls Tryz.prog 221 #[.pointer (some ⟨b, 0, none⟩)] w fun e w' => e = .returned (.int .i64 (P.most - (usedP P.files : Nat))) ∧ Live B w0 b n P w' := by
  have hL := h
  obtain ⟨S, rfl, h2, h3, h4, h5, h6⟩ := h
  obtain ⟨hor, hl, hsm, _⟩ := h3.ready hn
  rw [pl_files, usedP_pl]
  refine (free_any b S w h2 hl hsm h3.most).mono ?_
  rintro e w' ⟨rfl, q, rfl⟩
  exact ⟨rfl, hL.below (below_drewN (Below.refl _ _) q)⟩
end Go.Proofs.YtaeklleogniimaaGreatDoor
