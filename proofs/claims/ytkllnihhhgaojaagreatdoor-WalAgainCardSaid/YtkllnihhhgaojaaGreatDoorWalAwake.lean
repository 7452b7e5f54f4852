/- The log's example: awake. No condition. -/
import Derived.Test.YtkllnihhhgaojaaGreatDoorWalOwn
namespace Go.Proofs.YtkllnihhhgaojaaGreatDoor
open Go Go.RowKit
set_option linter.unusedVariables false

theorem okp_new (m : Int) (h : 0 ≤ m ∧ m ≤ 32768) : OkP 0 (newP m) := ⟨List.Pairwise.nil, Nat.le_refl _, Nat.le_refl _, ⟨Int.le_refl _, Int.le_refl _⟩, ⟨Int.le_refl _, Int.le_refl _⟩, h, by show (-1 : Int) ≤ _; omega, fun f hf => (by cases hf), fun p hp => (by cases hp)⟩
theorem Own.start {w w1 w2 : World} {m : Int} {k mb : Nat} (hm0 : 0 ≤ m ∧ m ≤ 32768) (hD : DiskAt w1 w.heap.size ⟨.slice none 0 0, .slice none 0 0, [], [], m, -1, false, 0, 0⟩) (hB1 : Below w.heap.size w w1) (hk : w1.heap.size ≤ k) (hm : w1.heap.size ≤ mb) (hkm : k ≠ mb) (hbk : BookIs w2 k mb []) (hB2 : Below w1.heap.size w1 w2) : Own w.heap.size w w.heap.size k mb (newP m) [] 0 w2 := by
  have hb := below_step hB1 hB2
  refine ⟨⟨_, rfl, ⟨hD.below hB2, hbk, hkm, fun hf => by have := foot_lt hD hf; omega, fun hf => by have := foot_lt hD hf; omega⟩, fun j hj => ?_⟩, okp_new m hm0, hb, hb.size, Nat.le_trans hB1.size hk, Nat.le_trans hB1.size hm⟩
  rcases hj with rfl | hk | hk | ⟨f, hf, _⟩
  · exact Nat.le_refl _
  · cases hk
  · cases hk
  · cases hf
theorem OkP.format {n : Nat} {P : PS} (h : OkP n P) (B : List ByteArray) : OkP (n + 4194305) (wformat P B).P := by
  unfold wformat
  split
  · exact h.mono (by omega)
  · exact ((OkP.removeAll (P := P) (segsP P) h).begin B 1 []).mono (by omega)
theorem own_format {B0 : Nat} {w0 w : World} {b k mb n : Nat} {P : PS} {Bk : List ByteArray} (h : Own B0 w0 b k mb P Bk n w) (hn : n ≤ 890000000) (hB : Bk.length + 1 ≤ 1000000000) :
    Calls Tryz.prog 29 #[.pointer (some ⟨b, 0, none⟩), .pointer (some ⟨k, 0, none⟩)] w fun e w' => Own B0 w0 b k mb (wformat P Bk).P (wformat P Bk).B (n + 4194305) w' ∧ Kept b k mb Bk (fun _ => False) w w' ∧ (((wformat P Bk).e ≠ 0 ∧ e = .returned (.tuple #[.pointer none, .int .i64 (wformat P Bk).e])) ∨ ((wformat P Bk).e = 0 ∧ ∃ lg, w.heap.size ≤ lg ∧ e = .returned (.tuple #[.pointer (some ⟨lg, 0, none⟩), .int .i64 0]) ∧ LogAt w' lg b k (wformat P Bk).L)) := by
  obtain ⟨S, hp, hR, hf⟩ := h.dev
  subst hp
  refine (format_any b k mb n S Bk w hR h.ok hn hB).mono ?_
  rintro e w' ⟨S', hp', hs, hq⟩
  exact ⟨h.next hf hs hp' (fun _ h => h.elim) (h.ok.format Bk), ⟨S, hR, hs.touch⟩, hq⟩
theorem own_crash {B0 : Nat} {w0 w : World} {b k mb n : Nat} {P : PS} {Bk : List ByteArray} (h : Own B0 w0 b k mb P Bk n w) (hn : n ≤ 1000000000) (fa : Option Addr) (fc : Nat) (l : List Int) (hfa : IntsAt .i64 w fa l) (hfo : ∀ g off, l ≠ [] → fa = some ⟨g, off, none⟩ → g < B0 ∨ ∃ cs, Blk w g cs 3) (hll : l.length ≤ 9223372036854775807) :
    Calls Tryz.prog 20 #[.pointer (some ⟨b, 0, none⟩), .slice fa l.length fc] w fun e w' => e = .returned (.tuple #[]) ∧ Own B0 w0 b k mb (P.crash l) Bk n w' ∧ Kept b k mb Bk (fun _ => False) w w' := by
  obtain ⟨S, hp, hR, hf⟩ := h.dev
  subst hp
  obtain ⟨_, hl, hsm, _, hwl, _⟩ := h.ok.ready hn
  refine (crash_any b S fa fc l w hR.dev hl hsm h.ok.wait hwl hfa (fun g off hl0 e => by
    rcases hfo g off hl0 e with h1 | ⟨cs, h1⟩
    · intro hg; have := hf g hg; omega
    · exact foot_int hR.dev h1) hll).mono ?_
  rintro e w' ⟨rfl, fs, hD, hpl⟩
  have hs : RStep (fun _ => False) b k mb S Bk w _ Bk w' := hR.step hD
  refine ⟨rfl, h.next hf hs ?_ (fun _ h => h.elim) (h.ok.crash l), S, hR, hs.touch⟩
  show (PS.mk (fs.map DFile.pl) _ _ _ _ _ _) = _
  rw [hpl]
  rfl
def tA : ByteArray := ⟨#[97]⟩
def tB : ByteArray := ⟨#[98]⟩
def aR0 : WR := wformat (newP 100) []
def aR1 : WR := wappend aR0.P aR0.B aR0.L ⟨#[97]⟩
def aP1 : Int × PS := aR1.P.syncR
def aR2 : WR := wappend aP1.2 aR1.B aR1.L ⟨#[98]⟩
def aP3 : PS := aR2.P.crash []
def aO : OR := wopen aP3 aR2.B
theorem aR0_e : aR0.e = 0 := by kernel_rfl
theorem aR1_e : aR1.e = 0 := by kernel_rfl
theorem aP1_e : aP1.1 = 0 := by kernel_rfl
theorem aO_e : aO.e = 0 := by kernel_rfl
theorem aO_out : aO.out = [⟨#[97]⟩] := by kernel_rfl
theorem aR1_B : aR1.B.length = 2 := by kernel_rfl
theorem aR0_B : aR0.B.length = 1 := by kernel_rfl
theorem aR2_B : aR2.B.length = 3 := by kernel_rfl
theorem wformat_L (P : PS) (B : List ByteArray) : (wformat P B).L.Ok := by
  unfold wformat
  split
  · exact firstG_ok (by decide)
  · exact wbegin_L (by decide) []
theorem aR0_L : aR0.L.Ok := wformat_L _ _
theorem aR1_L : aR1.L.Ok := wput_L aR0_L _ _
attribute [irreducible] aR0 aR1 aP1 aR2 aP3 aO
set_option maxRecDepth 100000 in
set_option maxHeartbeats 2000000 in
theorem wawake_any (w : World) : Calls Tryz.prog 16 #[] w fun e w' => e = .returned (.bool true) ∧ Below w.heap.size w w' := by
  have HD := Lib.hid (newDisk_any 100 w (by omega))
  have HI := Lib.hid (fun W => ideal_own W 0 (Nat.zero_le _))
  have HF := Lib.hid (fun (b k mb : Nat) W (h : Own w.heap.size w b k mb (newP 100) [] 0 W) => (show Calls Tryz.prog 29 #[.pointer (some ⟨b, 0, none⟩), .pointer (some ⟨k, 0, none⟩)] W fun e w' => ∃ lg, e = .returned (.tuple #[.pointer (some ⟨lg, 0, none⟩), .int .i64 0]) ∧ w.heap.size ≤ lg ∧ Hid (Own w.heap.size w b k mb aR0.P aR0.B 4194305 w' ∧ LogAt w' lg b k aR0.L) from by
    refine (own_format h (by omega) (by decide)).mono ?_
    have e0 : aR0 = wformat (newP 100) [] := by unfold aR0; rfl
    rw [← e0]
    rintro e w' ⟨ho, _, ⟨h0, _⟩ | ⟨_, lg, hlg, rfl, hl⟩⟩
    · exact absurd aR0_e h0
    · exact ⟨lg, rfl, Nat.le_trans h.sz hlg, Lib.hid ⟨by simpa using ho, hl⟩⟩))
  have HA1 := Lib.hid (fun (b k mb lg : Nat) W (hlb : w.heap.size ≤ lg) (h : Own w.heap.size w b k mb aR0.P aR0.B 4194305 W ∧ LogAt W lg b k aR0.L) => (show Calls Tryz.prog 11 #[.pointer (some ⟨lg, 0, none⟩), .string ⟨#[97]⟩] W fun e w' => e = .returned (.int .i64 0) ∧ Hid (Own w.heap.size w b k mb aR1.P aR1.B 6291457 w' ∧ LogAt w' lg b k aR1.L) from by
    refine (own_append h.1 hlb h.2 aR0_L (by omega) (by rw [aR0_B]; decide) ⟨#[97]⟩).mono ?_
    have e0 : aR1 = wappend aR0.P aR0.B aR0.L ⟨#[97]⟩ := by unfold aR1; rfl
    rw [← e0]
    rintro e w' ⟨rfl, ho, hl, _⟩
    exact ⟨by rw [aR1_e], Lib.hid ⟨ho, hl⟩⟩))
  have HS1 := Lib.hid (fun (b k mb lg : Nat) W (h : Own w.heap.size w b k mb aR1.P aR1.B 6291457 W ∧ LogAt W lg b k aR1.L) => (show Calls Tryz.prog 13 #[.pointer (some ⟨lg, 0, none⟩)] W fun e w' => e = .returned (.int .i64 0) ∧ Hid (Own w.heap.size w b k mb aP1.2 aR1.B 6291457 w' ∧ LogAt w' lg b k aR1.L) from by
    refine (own_sync h.1 h.2 (by omega)).mono ?_
    have e0 : aP1 = aR1.P.syncR := by unfold aP1; rfl
    rw [← e0]
    rintro e w' ⟨rfl, ho, hk⟩
    exact ⟨by rw [aP1_e], Lib.hid ⟨ho, hk.blk h.2 (by unfold FarT; decide) (fun h => h)⟩⟩))
  have HA2 := Lib.hid (fun (b k mb lg : Nat) W (hlb : w.heap.size ≤ lg) (h : Own w.heap.size w b k mb aP1.2 aR1.B 6291457 W ∧ LogAt W lg b k aR1.L) => (show Calls Tryz.prog 11 #[.pointer (some ⟨lg, 0, none⟩), .string ⟨#[98]⟩] W fun e w' => e = .returned (.int .i64 aR2.e) ∧ Hid (Own w.heap.size w b k mb aR2.P aR2.B 8388609 w') from by
    refine (own_append h.1 hlb h.2 aR1_L (by omega) (by rw [aR1_B]; decide) ⟨#[98]⟩).mono ?_
    have e0 : aR2 = wappend aP1.2 aR1.B aR1.L ⟨#[98]⟩ := by unfold aR2; rfl
    rw [← e0]
    rintro e w' ⟨rfl, ho, hl, _⟩
    exact ⟨rfl, Lib.hid ho⟩))
  have HC := Lib.hid (fun (b k mb : Nat) W (h : Own w.heap.size w b k mb aR2.P aR2.B 8388609 W) => (show Calls Tryz.prog 20 #[.pointer (some ⟨b, 0, none⟩), .slice none 0 0] W fun e w' => e = .returned (.tuple #[]) ∧ Hid (Own w.heap.size w b k mb aP3 aR2.B 8388609 w') from by
    refine (own_crash h (by omega) none 0 [] (Or.inl rfl) (fun g off h0 _ => absurd rfl h0) (by decide)).mono ?_
    have e0 : aP3 = aR2.P.crash [] := by unfold aP3; rfl
    rw [← e0]
    rintro e w' ⟨rfl, ho, _⟩
    exact ⟨rfl, Lib.hid ho⟩))
  have HO := Lib.hid (fun (b k mb : Nat) W (h : Own w.heap.size w b k mb aP3 aR2.B 8388609 W) => (show Calls Tryz.prog 15 #[.pointer (some ⟨b, 0, none⟩), .pointer (some ⟨k, 0, none⟩)] W fun e w' => ∃ lg g cap, e = .returned (.tuple #[.pointer (some ⟨lg, 0, none⟩), .slice (some ⟨g, 0, none⟩) 1 cap, .int .i64 0]) ∧ w'.cell? ⟨g, 0, none⟩ = some (.string ⟨#[97]⟩) ∧ Hid (Below w.heap.size w w') from by
    refine (own_open h (by omega) (by rw [aR2_B]; decide) (h.ok.open _)).mono ?_
    have e0 : aO = wopen aP3 aR2.B := by unfold aO; rfl
    rw [← e0]
    rintro e w' ⟨ho, _, ⟨h0, _⟩ | ⟨_, lg, v, hlg, rfl, hl, hr⟩⟩
    · exact absurd aO_e h0
    · rw [aO_out] at hr
      obtain ⟨ad, cap, rfl, _, _, _, hnil, hsome⟩ := row_open hr
      cases ad with
      | none => exact absurd (hnil rfl) (by decide)
      | some x =>
        obtain ⟨g, rfl, _, _, hc⟩ := hsome x rfl
        exact ⟨lg, g, cap, rfl, hc 0 (by decide), Lib.hid ho.bel⟩))
  go_enter Tryz.func16, Tryz.ntmps16
  go_wp2_with fail
  refine HD.out.mono ?_
  rintro e w1 ⟨b, rfl, rfl, hD, hB1⟩
  have HD1 := Lib.hid hD
  have HB1 := Lib.hid hB1
  clear hD hB1 HD
  go_wp2_with fail
  refine (HI.out _).mono ?_
  rintro e w2 ⟨k, mb, rfl, hk, hm, hkm, hbk, hB2⟩
  have HO0 := Lib.hid (Own.start (by omega) HD1.out HB1.out hk hm hkm hbk hB2)
  clear hk hm hkm hbk hB2 HD1 HB1 HI
  go_wp2_with fail
  refine (HF.out _ _ _ _ HO0.out).mono ?_
  rintro e w3 ⟨lg, rfl, hlg, HO1⟩
  have HLg := Lib.hid hlg
  clear hlg HF HO0
  go_wp2_with fail
  refine (HA1.out _ _ _ _ _ HLg.out HO1.out).mono ?_
  rintro e w4 ⟨rfl, HO2⟩
  clear HA1 HO1
  go_wp2_with fail
  refine (HS1.out _ _ _ _ _ HO2.out).mono ?_
  rintro e w5 ⟨rfl, HO3⟩
  clear HS1 HO2
  go_wp2_with fail
  refine (HA2.out _ _ _ _ _ HLg.out HO3.out).mono ?_
  rintro e w6 ⟨rfl, HO4⟩
  clear HA2 HO3
  go_wp2_with fail
  refine (HC.out _ _ _ _ HO4.out).mono ?_
  rintro e w7 ⟨rfl, HO5⟩
  clear HC HO4
  go_wp2_with fail
  refine (HO.out _ _ _ _ HO5.out).mono ?_
  rintro e w8 ⟨lg2, g, cap, rfl, hcell, HBx⟩
  clear HO HO5
  go_wp2_with fail
  go_ret
  exact ⟨rfl, HBx.out⟩
end Go.Proofs.YtkllnihhhgaojaaGreatDoor
